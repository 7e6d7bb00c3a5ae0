/- Small functions, followed in place: what the caller knows goes along. -/
import Derived.Test.YtjakcjmjlfdeoaaGreatAeX
import Derived.Test.YtjakcjmjlfdeoaaGreatChecked
import Derived.Test.YtjakcjmjlfdeoaaGreatAeMP
import Derived.KernelRfl
section
namespace Go.AE
open Go Go.RowKit
def lK:Env->Env
 | []=>[]
 | (j,v)::l=>(Nat.add j bG,v)::lK l
def mu:Env->Env
 | []=>[]
 | (j,v)::l=>bif Nat.ble bG j then (Nat.sub j bG,v)::mu l else mu l
def Bt (E:Tab) (deep:Bool) (rs:List ResultVar) (K:AV->St->Prop) (s:St):Prop:=match rs with
 | [r]=>cv (ql E deep s r) fun p=>K p.1 ⟨mu p.2.env,p.2.hp⟩
 | rs=>cv (qz E deep rs s) fun p=>K (.tup p.1) ⟨mu p.2.env,p.2.hp⟩
def Ir (E:Tab) (deep:Bool) (rs:List ResultVar) (K:AV->St->Prop):X->St->Prop
 | .normal,s=>Bt E deep rs K s
 | .ret,s=>Bt E deep rs K s
 | .exit _,_=>False
def ay:bD:=fun _ _ _ _=>False
def By (C:Ctx) (ann:Nat->List Dir) (code:Code) (rs:List ResultVar):Inl:=fun args s K=>
 bif Nat.ble args.length C.n&&Nat.ble C.n bG then awp C ay ann code ⟨mP 0 args++lK s.env,s.hp⟩ (Ir C.tab C.deep rs K) else False
theorem lookup_append {α:Type}:∀(l k:List (Nat×α)) (j:Nat),lookup (l++k) j=match lookup l j with | some v=>some v | none=>lookup k j
 | [],k,j=>by simp[lookup]
 | (i,x)::l,k,j=>by
  rw[List.cons_append,lookup_cons,lookup_cons]
  by_cases h:i=j
  ·rw[if_pos h,if_pos h]
  ·rw[if_neg h,if_neg h]
   exact lookup_append l k j
theorem ta:∀(e:Env) (j:Nat) (v:AV),lookup (lK e) j=some v->∃k,j=k+bG/\lookup e k=some v
 | [],j,v,h=>by simp[lK,lookup] at h
 | (i,x)::l,j,v,h=>by
  unfold lK at h
  rw[lookup_cons] at h
  split at h
  ·rename_i e
   cases h
   exact⟨i,e.symm,by rw[lookup_cons,if_pos rfl]⟩
  ·rename_i hne
   obtain⟨k,hk,hl⟩:=ta l j v h
   refine⟨k,hk,?_⟩
   rw[lookup_cons,if_neg ?_]
   ·exact hl
   ·rintro rfl
    exact hne hk.symm
theorem lV:∀(e:Env) (k:Nat) (v:AV),lookup (mu e) k=some v->lookup e (k+bG)=some v
 | [],k,v,h=>by simp[mu,lookup] at h
 | (i,x)::l,k,v,h=>by
  unfold mu at h
  cases hb:Nat.ble bG i with
  | false=>
   rw[hb] at h
   have hlt:¬bG<=i:=by intro hc;rw[Nat.ble_eq_true_of_le hc] at hb;cases hb
   rw[lookup_cons,if_neg (by omega)]
   exact lV l k v h
  | true=>
   rw[hb] at h
   simp only[cond_true] at h
   have hle:bG<=i:=Nat.le_of_ble_eq_true hb
   rw[lookup_cons] at h
   have hs:Nat.sub i bG=i-bG:=rfl
   split at h
   ·rename_i e
    rw[hs] at e
    cases h
    rw[lookup_cons,if_pos (by omega)]
   ·rename_i e
    rw[hs] at e
    rw[lookup_cons,if_neg (by omega)]
    exact lV l k v h
section
variable {P:Program} {C:Ctx} {g:Gl} {N:Nat} {s:St} {a:Act} {w:World} {φ:Names}
def zS (g:Gl) (gh:Nat->Value):Gl:={ g with gh:=gh }
def xA (g:Gl) (a:Act) (gh:Nat->Value):Prop:=∀k,gh (k+bG)=valOf g a k
theorem CJ (g:Gl) (a:Act):∃gh,xA g a gh:=⟨fun j=>valOf g a (j-bG),fun k=>by simp only[Nat.add_sub_cancel]⟩
theorem vq (gh:Nat->Value) {hp:Hp} {n:Nat}:imm (zS g gh) φ hp n=imm g φ hp n:=by unfold imm zS;rfl
theorem qU (gh:Nat->Value):aM (zS g gh)=aM g:=by unfold aM zS;rfl
theorem BD {gh:Nat->Value} {a a':Act} {k:Nat} (hg:xA g a gh):valOf (zS g gh) a' (k+bG)=valOf g a k:=by
 have hb:Nat.blt (k+bG) bG=false:=by
  cases hb:Nat.blt (k+bG) bG with
  | false=>rfl
  | true=>rw[Nat.blt_eq] at hb;omega
 unfold valOf
 rw[hb]
 simp only[cond_false,zS]
 exact hg k
theorem HG {gh:Nat->Value} (hg:xA g a gh) {hp:Hp} {args:List AV} {vals:List Value} {n:Nat} {e:Env} (hv:ak w (imm g φ hp w.heap.size) (aM g) φ hp args vals) (he:∀j av,lookup e j=some av->ai w (imm g φ hp w.heap.size) (aM g) φ hp av (valOf g a j))
  (hle:args.length<=n) (hgl:n<=bG) (j:Nat) (av:AV) (hj:lookup (mP 0 args++lK e) j=some av) :
  ai w (imm g φ hp w.heap.size) (aM g) φ hp av (valOf (zS g gh) { tmps:=vals.toArray++Array.replicate (n-vals.toArray.size) undef,defers:=[] } j):=by
 have hlen:=hv.length
 rw[lookup_append] at hj
 split at hj
 ·rename_i v hla
  cases hj
  obtain⟨_,u,h1,h2⟩:=qJ hv j av hla
  have h1:vals[j]? = some u:=by simpa using h1
  have hlt:j<vals.length:=(List.getElem?_eq_some_iff.1 h1).1
  have hu:(vals.toArray++Array.replicate (n-vals.toArray.size) undef).getD j undef=u:=by
   rw[Array.getD_eq_getD_getElem?,Array.getElem?_append_left (by simpa using hlt)]
   simp[h1]
  have hjg:Nat.blt j bG=true:=by rw[Nat.blt_eq];omega
  unfold valOf
  rw[hjg]
  simp only[cond_true]
  rw[hu]
  exact h2
 ·obtain⟨k,hk0,hk⟩:=ta _ _ _ hj
  rw[hk0,BD hg]
  exact he k av hk
theorem HM {gh:Nat->Value} (hg:xA g a gh) {args:List AV} {vals:List Value} {n:Nat} (h:Sim g N s a w φ) (hv:ak w (imm g φ s.hp w.heap.size) (aM g) φ s.hp args vals) (hle:args.length<=n) (hgl:n<=bG) :
  Sim (zS g gh) n ⟨mP 0 args++lK s.env,s.hp⟩ { tmps:=vals.toArray++Array.replicate (n-vals.toArray.size) undef,defers:=[] } w φ:=by
 have hlen:=hv.length
 refine⟨rfl,by simp;omega,h.os,h.tape,h.output,h.hsize,h.frame,h.inj,h.apart,h.place,fun i blk hi=>?_,fun j av hj=>?_,h.pinned⟩
 ·rw[vq,qU]
  exact h.blocks i blk hi
 ·rw[vq,qU]
  exact HG hg hv h.env hle hgl j av hj
theorem DH {gh:Nat->Value} (hg:xA g a gh) {a':Act} {w':World} {s1:St} {φ1:Names} {n:Nat} (h:Sim g N s a w φ) (hs:Sim (zS g gh) n s1 a' w' φ1):Sim g N ⟨mu s1.env,s1.hp⟩ a w' φ1:=by
 refine⟨h.defers,h.size,hs.os,hs.tape,hs.output,hs.hsize,hs.frame,hs.inj,hs.apart,hs.place,fun i blk hi=>?_,fun k av hk=>?_,hs.pinned⟩
 ·have:=hs.blocks i blk hi
  rw[vq,qU] at this
  exact this
 ·have:=hs.env _ _ (lV _ _ _ hk)
  rw[vq,qU,BD hg] at this
  exact this
theorem HH (hT:TabOk P C) (hC:dD P C) (hm:P.follows .mixedOrders=true) {f:FuncId} {fn:Func} {code:Code} (hf:P.funcs[f]? = some fn) (hb:fn.body=some code) (hN:C.n=fn.ntmps) {ann:Nat->List Dir} (hl:bI code=[]) :
  Eg P f (By C ann code fn.results.toList):=by
 intro g N s a w φ args vals K h hv hop
 unfold By at hop
 cases hq:(Nat.ble args.length C.n&&Nat.ble C.n bG) with
 | false=>rw[hq] at hop;exact hop.elim
 | true=>
 rw[hq] at hop
 simp only[cond_true] at hop
 obtain⟨hq1,hq2⟩:=Bool.and_eq_true_iff.1 hq
 have hle:args.length<=fn.ntmps:=by rw[<-hN];exact Nat.le_of_ble_eq_true hq1
 have hgl:fn.ntmps<=bG:=by rw[<-hN];exact Nat.le_of_ble_eq_true hq2
 obtain⟨gh,hg⟩:=CJ g a
 have hS:=HM hg h hv hle hgl
 refine calls_of_wp hf hb (wp_mono (Fq (L:=ay) (ann:=ann) hT hC hN hm code (by rw[hl];intro p hp;cases hp) _ _ _ _ φ hS hop) ?_)
 intro e a' w' hq
 have fin:(∃s1 φ1,Bt C.tab C.deep fn.results.toList K s1/\Sim (zS g gh) fn.ntmps s1 a' w' φ1)->a'.defers=[]/\∃u,(results fn a'.tmps).run P w'=.ok u w' ∧
   ∃v s' φ',K v s'/\Sim g N s' a w' φ'/\ai w' (imm g φ' s'.hp w'.heap.size) (aM g) φ' s'.hp v u:=by
  rintro ⟨s1,φ1,hk,hs⟩
  refine⟨hs.defers,?_⟩
  unfold Bt at hk
  split at hk
  ·rename_i r ht
   obtain⟨p,hp,hk⟩:=aH hk
   obtain⟨u,hrun,h1,_,hv⟩:=tZ hT hs (show ql C.tab _ s1 r=some (p.1,p.2) from hp)
   rw[vq,qU] at hv
   refine⟨u,?_,p.1,_,φ1,hk,DH hg h h1,hv⟩
   rw[iK (us:=[u]) (by rw[ht];exact .cons hrun .nil)]
   simp
  ·rename_i hne
   obtain⟨p,hp,hk⟩:=aH hk
   obtain⟨us,h1,_,h3,h4⟩:=sH hT hs (show qz C.tab _ fn.results.toList s1=some (p.1,p.2) from hp)
   rw[vq,qU] at h4
   have hlen:¬us.toArray.size=1:=by
    intro e
    have e:us.length=1:=e
    rw[<-h3.length_eq] at e
    match hq:fn.results.toList,e with
    | [r],_=>exact hne r hq
   refine⟨_,iK h3,.tup p.1,_,φ1,hk,DH hg h h1,?_⟩
   rw[dif_neg hlen]
   simp only[ai]
   exact⟨_,rfl,h4⟩
 cases e with
 | normal=>exact fin hq
 | ret=>exact fin hq
 | exit i=>obtain⟨s,φ,hk,_⟩:=hq;exact hk.elim
 | goto l=>exact hq.elim
 | panic c=>exact hq.elim
 | outgrown=>exact hq.elim
end
theorem ln_of_fine:∀{t:Ty} {x:t.D},uZ t x->Ln t x
 | .int _,_,_=>trivial
 | .bool,_,_=>trivial
 | .str,_,h=>by
  have h:(_:ByteArray).size<=Go.maxLen:=h
  exact h
 | .unit,_,_=>trivial
 | .sl _,_,h=>⟨h.1,fun y hy=>ln_of_fine (h.2 y hy)⟩
 | .pair _ _,_,h=>⟨ln_of_fine h.1,ln_of_fine h.2⟩
end Go.AE
end
section
namespace Go.AE
open Go Go.RowKit
abbrev LD {α:Type} (x:α) (p:α->Prop):Prop:=∀r,r=x->p r
structure Pat (α:Type) where
 av:α->AV
 run:AV->(α->Prop)->Prop
 elim:∀{v:AV} {k:α->Prop},run v k->∃x,v=av x/\k x
abbrev pD (t:Ty):Pat t.D:=⟨fun x=>.data t x,fy t,bt⟩
abbrev pB (t:Ty):Pat (List t.D):=⟨fun x=>.brw t x,kL t,cW⟩
abbrev pA (t:Ty):Pat t.D:=⟨fun x=>.adr t x,Fb t,Du⟩
abbrev pR (t:Ty):Pat t.D:=⟨fun x=>.ref (.data t x),yF t,lW⟩
abbrev pQ (t:Ty):Pat (List t.D):=⟨fun x=>.ref (.brw t x),Db t,Cx⟩
section
variable {α β γ δ ε:Type} {l:List AV} {hp:Hp}
def g1 (p:Pat α) (F:α->Prop) (l:List AV) (hp:Hp):Prop:=args1 (fun a=>p.run a F) l hp
def g2 (p:Pat α) (q:Pat β) (F:α->β->Prop) (l:List AV) (hp:Hp):Prop:=args2 (fun a b=>p.run a fun x=>q.run b fun y=>F x y) l hp
def g3 (p:Pat α) (q:Pat β) (r:Pat γ) (F:α->β->γ->Prop) (l:List AV) (hp:Hp):Prop:=vT (fun a b c=>p.run a fun x=>q.run b fun y=>r.run c fun z=>F x y z) l hp
def g4 (p:Pat α) (q:Pat β) (r:Pat γ) (s:Pat δ) (F:α->β->γ->δ->Prop) (l:List AV) (hp:Hp):Prop:=Dz (fun a b c d=>p.run a fun x=>q.run b fun y=>r.run c fun z=>s.run d fun u=>F x y z u) l hp
theorem g1e {p:Pat α} {F:α->Prop} (h0:g1 p F l hp):∃x,l=[p.av x]/\hp=[]/\F x:=by
 obtain⟨a,rfl,rfl,h1⟩:=Dq h0
 obtain⟨x,rfl,h2⟩:=p.elim h1
 exact⟨x,rfl,rfl,h2⟩
theorem g2e {p:Pat α} {q:Pat β} {F:α->β->Prop} (h0:g2 p q F l hp):∃x y,l=[p.av x,q.av y]/\hp=[]/\F x y:=by
 obtain⟨a,b,rfl,rfl,h1⟩:=bO h0
 obtain⟨x,rfl,h2⟩:=p.elim h1
 obtain⟨y,rfl,h3⟩:=q.elim h2
 exact⟨x,y,rfl,rfl,h3⟩
theorem g3e {p:Pat α} {q:Pat β} {r:Pat γ} {F:α->β->γ->Prop} (h0:g3 p q r F l hp):∃x y z,l=[p.av x,q.av y,r.av z]/\hp=[]/\F x y z:=by
 obtain⟨a,b,c,rfl,rfl,h1⟩:=jr h0
 obtain⟨x,rfl,h2⟩:=p.elim h1
 obtain⟨y,rfl,h3⟩:=q.elim h2
 obtain⟨z,rfl,h4⟩:=r.elim h3
 exact⟨x,y,z,rfl,rfl,h4⟩
end
def hpR (F:List Int->Int->Prop) (hp:Hp):Prop:=match hp with
 | [(k,.box [.data u b,.data v p])]=>(match Ty.eq? u (.sl (.int .u8)),Ty.eq? v (.int .i64) with
  | some ⟨h⟩,some ⟨h'⟩=>bif Nat.beq k base then F (dr h b) (dr h' p) else False
  | _,_=>False)
 | _=>False
theorem fc {F:List Int->Int->Prop} {hp:Hp} (h:hpR F hp):∃(b:List Int) (p:Int),hp=[(1000000,.box [.data (.sl (.int .u8)) b,.data (.int .i64) p])]/\F b p:=by
 unfold hpR at h
 split at h
 ·rename_i k u b v p
  split at h
  ·rename_i h1 h2 _ _
   cases h1
   cases h2
   rcases aS k base with⟨rfl,hb⟩ | ⟨_,hb⟩
   ·rw[hb] at h
    exact⟨b,p,rfl,h⟩
   ·rw[hb] at h
    exact h.elim
  ·exact h.elim
 ·exact h.elim
def mc (a:AV) (F:Prop):Prop:=match a with
 | .ptr k 0=>bif Nat.beq k base then F else False
 | _=>False
theorem dn {a:AV} {F:Prop} (h:mc a F):a=.ptr 1000000 0/\F:=by
 unfold mc at h
 split at h
 ·rename_i k
  rcases aS k base with⟨rfl,hb⟩ | ⟨_,hb⟩
  ·rw[hb] at h;exact⟨rfl,h⟩
  ·rw[hb] at h;exact h.elim
 ·exact h.elim
theorem oG {α:Type} {p q:Prop} {x:Option α} {K:α->Prop} (h:ok (af p x) K) (k:p->ok x K->q):p/\q:=⟨(aD h).1,k (aD h).1 (aD h).2⟩
theorem oL {α β:Type} {x:α} {f:α->Option β} {K:β->Prop} {Q:α->Prop} (h:ok (aK x f) K) (k:∀r,r=x->ok (f r) K->Q r):∀r,r=x->Q r:=fun r e=>k r e (dR h r e)
theorem oC {α:Type} {b:Bool} {x y:Option α} {K:α->Prop} {T U:Prop} (h:ok (cond b x y) K) (h1:b=true->ok x K->T) (h2:b=false->ok y K->U):cond b T U:=GM h h1 h2
def Gq:Nat->Nat->Nat->List Nat
 | 0,_,_=>[]
 | f+1,i,b=>bif Nat.beq b 0 then [] else bif Nat.beq (Nat.mod b 2) 1 then i::Gq f (Nat.succ i) (Nat.div b 2) else Gq f (Nat.succ i) (Nat.div b 2)
def kp (b:Nat):Dir:=.keep (Gq 400 0 b)
def FI:List (List Dir)->Nat->List Dir
 | [],_=>[]
 | d::l,n=>match n with
  | 0=>d
  | k+1=>FI l k
def an (l m:List (List Dir)) (n:Nat):List Dir:=bif Nat.blt n 100000 then FI l n else FI m (Nat.sub n 100000)
def lp1 (a:Nat) (A:Nat->St->(X->St->Prop)->Prop):bD:=fun id m s K=>bif Nat.beq id a then A m s K else False
def lp2 (a:Nat) (A:Nat->St->(X->St->Prop)->Prop) (b:Nat) (B:Nat->St->(X->St->Prop)->Prop):bD:=fun id m s K=>bif Nat.beq id a then A m s K else bif Nat.beq id b then B m s K else False
abbrev vcT (C:Ctx) (L:bD) (ann:Nat->List Dir) (fn:Func) (args:List AV) (hp:Hp) (k:RK) (K:AV->Hp->Prop):Prop:=
 awp C L ann (eT fn) ⟨mP 0 args,hp⟩ (HY C.tab C.deep fn.results.toList (Dd hp) (De k K))
abbrev lvT (C:Ctx) (L:bD) (ann:Nat->List Dir) (fn:Func) (n id:Nat) (s:St) (m:Nat) (K:X->St->Prop):Prop:=
 awp C L ann (cQ (eT fn) n) s (FO (fun s'=>∃m',m'<m/\L id m' s' K) (Cm id (ann (behind id)) K))
abbrev nxT (A:Nat->St->(X->St->Prop)->Prop) (m:Nat) (K:X->St->Prop) (s:St):Prop:=∃m_,m_<m/\A m_ s K
def aT (P:Program) (f:FuncId) (con:Con):Prop:=(∀args w,(callFunc f args).run P w=.ok (.enter f args) w)/\yq P f con
def Dg (P:Program) (f:FuncId) (T:Inl):Prop:=(∀args w,(callFunc f args).run P w=.ok (.enter f args) w)/\Eg P f T
section
variable {P:Program} {E:Tab} {c:TypeId->Bool} {n off:Nat} {deep:Bool} {f:FuncId} {con:Con} {T:Inl} {l:Cons} {inl:List (Nat×Inl)}
theorem kC (h1:aT P f con) (h:dD P ⟨E,c,l,n,inl,off,deep⟩):dD P ⟨E,c,(f,con)::l,n,inl,off,deep⟩:=BG h1.1 h1.2 h
theorem kI (h1:Dg P f T) (h:dD P ⟨E,c,[],n,inl,off,deep⟩):dD P ⟨E,c,[],n,(f,T)::inl,off,deep⟩:=Dw h1.1 h1.2 h
theorem kN:dD P ⟨E,c,[],n,[],off,deep⟩:=Dm
end
def rW (ds:List (Nat×Bool)) (fn:Func):Func:=match ds with
 | []=>fn
 | ds=>{ fn with body:=fn.body.map (eP ds) }
theorem Hs {P:Program} {C:Ctx} (ds:List (Nat×Bool)) (hT:TabOk P C) (hm:P.follows .mixedOrders=true) {f:FuncId} {fn:Func} {con:Con} (hf:P.funcs[f]? = some fn) (hq:((fn.name == "runtime.NumGoroutine")||fn.body.isNone)=false) (hC:dD P C) (hN:C.n=fn.ntmps)
  (hcon:∀args hp K,con.run args hp K->(Nat.ble args.length fn.ntmps&&Nat.ble args.length bG)=true/\∃(ann:Nat->List Dir) (L:bD) (k:RK),(∀p∈bI (eT (rW ds fn)),cX C L ann p.1 p.2)/\vcT C L ann (rW ds fn) args hp k K):aT P f con:=by
 obtain⟨hq1,hq2⟩:=Bool.or_eq_false_iff.1 hq
 have hb:fn.body=some (eT fn):=by
  unfold eT
  cases h:fn.body with
  | none=>rw[h] at hq2;cases hq2
  | some c=>rfl
 have he:eT (rW ds fn)=eP ds (eT fn):=by
  cases ds with
  | nil=>exact(jQ _).symm
  | cons d l=>unfold rW eT at *;rw[hb];rfl
 have hr:(rW ds fn).results=fn.results:=by cases ds<;>rfl
 refine⟨BQ hf hq1 hq2,GL (ds:=ds) hT hC hm hf hb hN fun args hp K h=>?_⟩
 obtain⟨h1,h2⟩:=hcon args hp K h
 obtain⟨h3,h4⟩:=Bool.and_eq_true_iff.1 h1
 unfold vcT at h2
 rw[he,hr] at h2
 exact⟨⟨Nat.le_of_ble_eq_true h3,Nat.le_of_ble_eq_true h4⟩,h2⟩
theorem Ia {P:Program} {C:Ctx} (hT:TabOk P C) (hm:P.follows .mixedOrders=true) {f:FuncId} {fn:Func} (hf:P.funcs[f]? = some fn) (hq:((fn.name == "runtime.NumGoroutine")||fn.body.isNone)=false) (hC:dD P C) (hN:C.n=fn.ntmps) {ann:Nat->List Dir}
  (hl:bI (eT fn)=[]):Dg P f (By C ann (eT fn) fn.results.toList):=by
 obtain⟨hq1,hq2⟩:=Bool.or_eq_false_iff.1 hq
 have hb:fn.body=some (eT fn):=by
  unfold eT
  cases h:fn.body with
  | none=>rw[h] at hq2;cases hq2
  | some c=>rfl
 exact⟨BQ hf hq1 hq2,HH hT hC hm hf hb hN hl⟩
end Go.AE
end
section
namespace Go.AE
open Go Go.RowKit
noncomputable abbrev P:Program:=Go.Proofs.Tryz.prog
def tab:Tab:=[(4,⟨.val Ty.bool,1,1⟩),
  (22,⟨.sl 5 (Ty.int .u8),1,24⟩),
  (5,⟨.val (Ty.int .u8),1,1⟩),
  (3,⟨.val (Ty.int .i64),1,8⟩),
  (50,⟨.other,1,0⟩),
  (23,⟨.sl 32 ax,1,24⟩),
  (32,⟨.st [(0,29, "Columns"),(1,30, "Rows")] ax,2,48⟩),
  (29,⟨.sl 149 ag,1,24⟩),
  (149,⟨.st [(0,3, "Kind"),(1,4, "Empty")] ag,2,16⟩),
  (30,⟨.sl 42 (Ty.sl aa),1,24⟩),
  (42,⟨.sl 84 aa,1,24⟩),
  (84,⟨.st [(0,3, "Kind"),(1,3, "N"),(2,9, "S")] aa,3,32⟩),
  (9,⟨.val Ty.str,1,16⟩),
  (24,⟨.sl 36 aj,1,24⟩),
  (36,⟨.st [(0,3, "Kind"),(1,3, "A"),(2,3, "B"),(3,3, "N"),(4,25, "E"),(5,34, "List")] aj,6,80⟩),
  (25,⟨.sl 118 aC,1,24⟩),
  (118,⟨.st [(0,3, "Kind"),(1,3, "N"),(2,84, "V")] aC,5,48⟩),
  (34,⟨.sl 3 (Ty.int .i64),1,24⟩),
  (71,⟨.other,1,0⟩),
  (70,⟨.sl 101 aF,1,24⟩),
  (101,⟨.st [(0,29, "columns"),(1,3, "most")] aF,2,32⟩),
  (74,⟨.other,1,0⟩),
  (73,⟨.sl 29 (Ty.sl ag),1,24⟩),
  (0,⟨.other,1,0⟩),
  (65,⟨.ptr 114,1,8⟩),
  (114,⟨.st [(0,22, "b"),(1,3, "p")] (Ty.pair (Ty.sl (Ty.int .u8)) (Ty.pair (Ty.int .i64) Ty.unit)),2,32⟩),
  (96,⟨.sl 30 (Ty.sl (Ty.sl aa)),1,24⟩),
  (120,⟨.other,1,0⟩),
  (122,⟨.other,1,0⟩),
  (146,⟨.other,1,0⟩),
  (129,⟨.other,1,8⟩),
  (194,⟨.sl 9 Ty.str,1,24⟩),
  (112,⟨.other,1,8⟩),
  (198,⟨.other,1,0⟩)]
def Ft:List TypeId:=[84]
theorem tab_check:Ax P tab tab=true:=by kernel_rfl
theorem vz:Cd P tab Ft=true:=by kernel_rfl
theorem mixed:P.follows .mixedOrders=true:=by kernel_rfl
abbrev cx (l:Cons) (n:Nat) (inl:List (Nat×Inl)) (off:Nat) (deep:Bool):Ctx:=⟨tab,fun t=>ja t Ft,l,n,inl,off,deep⟩
theorem aZ (C:Ctx) {f:FuncId} {fn:Func} {con:Con} (hf:P.funcs[f]? = some fn) (hC:dD P C) (hcon:∀args hp K,con.run args hp K->(Nat.ble args.length fn.ntmps&&Nat.ble args.length bG)=true/\∃(ann:Nat->List Dir) (L:bD) (k:RK),(∀p∈bI (eT fn),cX C L ann p.1 p.2)/\vcT C L ann fn args hp k K)
    (hT:TabOk P C:=by exact Br tab_check vz) (hq:((fn.name == "runtime.NumGoroutine")||fn.body.isNone)=false:=by kernel_rfl) (hN:C.n=fn.ntmps:=by rfl):aT P f con:=Hs [] hT mixed hf hq hC hN hcon
theorem Hw (ds:List (Nat×Bool)) (C:Ctx) {f:FuncId} {fn:Func} {con:Con} (hf:P.funcs[f]? = some fn) (hC:dD P C) (hcon:∀args hp K,con.run args hp K->(Nat.ble args.length fn.ntmps&&Nat.ble args.length bG)=true/\∃(ann:Nat->List Dir) (L:bD) (k:RK),(∀p∈bI (eT (rW ds fn)),cX C L ann p.1 p.2)/\vcT C L ann (rW ds fn) args hp k K)
    (hT:TabOk P C:=by exact Br tab_check vz) (hq:((fn.name == "runtime.NumGoroutine")||fn.body.isNone)=false:=by kernel_rfl) (hN:C.n=fn.ntmps:=by rfl):aT P f con:=Hs ds hT mixed hf hq hC hN hcon
theorem GJ (C:Ctx) {f:FuncId} {fn:Func} (hf:P.funcs[f]? = some fn) (hC:dD P C) {ann:Nat->List Dir} (hT:TabOk P C:=by exact Br tab_check vz) (hq:((fn.name == "runtime.NumGoroutine")||fn.body.isNone)=false:=by kernel_rfl) (hN:C.n=fn.ntmps:=by rfl)
    (hl:bI (eT fn)=[]:=by kernel_rfl):Dg P f (By C ann (eT fn) fn.results.toList):=Ia hT mixed hf hq hC hN hl
abbrev nT (xs:List ax.D) (i:Int):ax.D:=nth (t:=ax) xs i
abbrev nS (xs:List aj.D) (i:Int):aj.D:=nth (t:=aj) xs i
abbrev nC (xs:List ag.D) (i:Int):ag.D:=nth (t:=ag) xs i
abbrev nI (xs:List aE.D) (i:Int):aE.D:=nth (t:=aE) xs i
abbrev nP (xs:List aC.D) (i:Int):aC.D:=nth (t:=aC) xs i
abbrev nM (xs:List aF.D) (i:Int):aF.D:=nth (t:=aF) xs i
abbrev nG (xs:List kE.D) (i:Int):kE.D:=nth (t:=kE) xs i
abbrev nV (xs:List aa.D) (i:Int):aa.D:=nth (t:=aa) xs i
abbrev Z0:Int:=0
abbrev Z1:Int:=1
abbrev Z2:Int:=2
abbrev Z3:Int:=3
abbrev Z4:Int:=4
abbrev Z5:Int:=5
abbrev Z6:Int:=6
abbrev dI (n:Int):AV:=.data aE n
abbrev dB (b:Bool):AV:=.data Ty.bool b
abbrev KA:Type:=AV->Hp->Prop
abbrev KX:Type:=X->St->Prop
abbrev TBy:Ty:=.sl (.int .u8)
abbrev LI:Type:=List Int
abbrev LLI:Type:=List LI
end Go.AE
end
section
namespace Go.AE
open Go Go.RowKit
set_option linter.unusedVariables false
def M.dx (rows:List (List aa.D)) (row:List aa.D):Nat:=rows.countP fun r=>decide (r=row)
def M.dZ (out:List (List aa.D)) (r:List aa.D):List (List aa.D):=cond (decide ((dx out r:Int)=(0:Int))) (out++[r]) out
def M.cB (rows:List (List aa.D)):List (List aa.D):=rows.foldl dZ []
def M.joined (e:List aC.D) (r:List aa.D) (rows:List (List aa.D)):List (List aa.D):=(rows.map fun q=>r++q).filter fun x=>holds x e
def M.ck (tables:List ax.D) (ahead:List (List (List aa.D))) (s:aj.D):List (List aa.D):=
 cond (decide (s.1=(1:Int))) (nth (t:=ax) tables s.2.2.2.1).2.1
 (cond (decide (s.1=(2:Int))) (List.filter (fun r=>holds r s.2.2.2.2.1) (nth (t:=.sl (.sl aa)) ahead s.2.1))
 (cond (decide (s.1=(3:Int))) (List.map (fun r=>taken r s.2.2.2.2.2.1) (nth (t:=.sl (.sl aa)) ahead s.2.1))
 (cond (decide (s.1=(4:Int))) (List.flatMap (fun r=>joined s.2.2.2.2.1 r (nth (t:=.sl (.sl aa)) ahead s.2.2.1)) (nth (t:=.sl (.sl aa)) ahead s.2.1))
 (cond (decide (s.1=(5:Int))) (nth (t:=.sl (.sl aa)) ahead s.2.1++nth (t:=.sl (.sl aa)) ahead s.2.2.1:List (List aa.D))
 (cond (decide (s.1=(6:Int))) (cB (nth (t:=.sl (.sl aa)) ahead s.2.1)) [])))))
def M.xo (R:List (List aa.D)):Prop:=R.length<=300/\∀r∈R,r.length<=4
def M.jC (tables:List ax.D) (ahead:List (List (List aa.D))) (s:aj.D):Prop:=
 (s.1=(1:Int)->0<=s.2.2.2.1/\s.2.2.2.1<(tables.length:Int))/\oo (ahead.length:Int) s ∧
 (¬s.1=(1:Int)->xo (nth (t:=.sl (.sl aa)) ahead s.2.1)/\xo (nth (t:=.sl (.sl aa)) ahead s.2.2.1)) ∧
 (s.1=(2:Int)->∀r∈(nth (t:=.sl (.sl aa)) ahead s.2.1:List (List aa.D)),cG r.length s.2.2.2.2.1) ∧
 (s.1=(3:Int)->∀r∈(nth (t:=.sl (.sl aa)) ahead s.2.1:List (List aa.D)),rH r s.2.2.2.2.2.1) ∧
 (s.1=(4:Int)->∀r∈(nth (t:=.sl (.sl aa)) ahead s.2.1:List (List aa.D)),∀q∈(nth (t:=.sl (.sl aa)) ahead s.2.2.1:List (List aa.D)),cG (r++q:List aa.D).length s.2.2.2.2.1)
def M.eg (tables:List ax.D) (all:List (List (List aa.D))) (s:aj.D):List (List (List aa.D)):=all++[ck tables all s]
def M.cT (tables:List ax.D) (plan:List aj.D):List (List (List aa.D)):=plan.foldl (eg tables) []
def M.bE (tables:List ax.D) (plan:List aj.D):List (List aa.D):=cond (bL tables plan) (nth (t:=.sl (.sl aa)) (cT tables plan) ((plan.length:Int)-1)) []
namespace M
theorem Cc (out:List (List aa.D)) (r:List aa.D):(dZ out r).length<=out.length+1/\∀x∈dZ out r,x∈out\/x=r:=by
 unfold dZ
 cases decide ((dx out r:Int)=(0:Int)) with
 | true=>
  refine⟨by simp,fun x hx=>?_⟩
  rcases List.mem_append.1 hx with h | h
  ·exact .inl h
  ·exact .inr (List.mem_singleton.1 h)
 | false=>exact⟨by show out.length<=out.length+1;omega,fun x hx=>.inl hx⟩
theorem xM (rows:List (List aa.D)):(cB rows).length<=rows.length/\∀x∈cB rows,x∈rows:=by
 have key:∀(l:List (List aa.D)) (out:List (List aa.D)),(l.foldl dZ out).length<=out.length+l.length/\∀x∈l.foldl dZ out,x∈out\/x∈l:=by
  intro l
  induction l with
  | nil=>intro out;exact⟨by simp,fun x hx=>.inl hx⟩
  | cons y l ih=>
   intro out
   obtain⟨h1,h2⟩:=ih (dZ out y)
   obtain⟨h3,h4⟩:=Cc out y
   refine⟨by rw[List.foldl_cons,List.length_cons];omega,fun x hx=>?_⟩
   rcases h2 x hx with h | h
   ·rcases h4 x h with h | h
    ·exact .inl h
    ·exact .inr (by simp[h])
   ·exact .inr (by simp[h])
 have:=key rows []
 refine⟨by have:=this.1;unfold cB;simpa using this,fun x hx=>?_⟩
 rcases this.2 x hx with h | h
 ·cases h
 ·exact h
theorem sL (e:List aC.D) (r:List aa.D) (rows:List (List aa.D)):(joined e r rows).length<=rows.length:=by
 unfold joined
 refine Nat.le_trans (List.length_filter_le _ _) ?_
 rw[List.length_map]
 exact Nat.le_refl _
theorem CF {α β:Type} (f:α->List β) (n:Nat):∀(xs:List α),(∀x∈xs,(f x).length<=n)->(xs.flatMap f).length<=xs.length * n
 | [],_=>by simp
 | x::xs,h=>by
  have h1:=h x (by simp)
  have h2:=CF f n xs (fun y hy=>h y (by simp[hy]))
  rw[List.flatMap_cons,List.length_append,List.length_cons,Nat.succ_mul]
  omega
def Rows (st:gF) (all:List (List (List aa.D))):Prop:=all.length=st.1.length/\st.2.length=st.1.length/\∀j:Int,0<=j->j<(all.length:Int) →
 ((nth (t:=.sl (.sl aa)) all j:List (List aa.D)).length:Int)<=nth (t:=.int .i64) st.2 j/\nth (t:=.int .i64) st.2 j<=300/\(nth (t:=.sl ag) st.1 j:List ag.D).length<=4 ∧
 Sm (.sl (.sl aa)) (nth (t:=.sl (.sl aa)) all j)/\∀r∈(nth (t:=.sl (.sl aa)) all j:List (List aa.D)),r.length=(nth (t:=.sl ag) st.1 j:List ag.D).length
theorem nD {st:gF} {all:List (List (List aa.D))} (h:Rows st all) {R:List (List aa.D)} {c:List ag.D} {m:Int} (h1:(R.length:Int)<=m) (h2:m<=300) (h3:c.length<=4) (h4:Sm (.sl (.sl aa)) R) (h5:∀r∈R,r.length=c.length) :
  Rows (st.1++[c],st.2++[m]) (all++[R]):=by
 obtain⟨l1,l2,h⟩:=h
 refine⟨by simp[l1],by simp[l2],fun j j0 j1=>?_⟩
 by_cases hj:j=(all.length:Int)
 ·rw[uu (t:=.sl (.sl aa)) hj,uu (t:=.int .i64) (by rw[hj,l1,l2]),uu (t:=.sl ag) (by rw[hj,l1])]
  exact⟨h1,h2,h3,h4,h5⟩
 ·have hlt:j<(all.length:Int):=by simp at j1;omega
  rw[yI (t:=.sl (.sl aa)) j0 hlt,yI (t:=.int .i64) j0 (by rw[l2,<-l1];exact hlt),yI (t:=.sl ag) j0 (by rw[<-l1];exact hlt)]
  exact h j j0 hlt
end M
end Go.AE
end
