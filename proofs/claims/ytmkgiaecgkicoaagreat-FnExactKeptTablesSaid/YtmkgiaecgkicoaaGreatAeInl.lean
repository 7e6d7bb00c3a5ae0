/- Small functions, followed in place: what the caller knows goes along. -/
import Derived.Test.YtmkgiaecgkicoaaGreatAeX
section
namespace Go.AE
open Go Go.RowKit
def mK:Env->Env
 | []=>[]
 | (j,v)::l=>(Nat.add j bF,v)::mK l
def nc:Env->Env
 | []=>[]
 | (j,v)::l=>bif Nat.ble bF j then (Nat.sub j bF,v)::nc l else nc l
def Cr (E:Tab) (deep:Bool) (rs:List ResultVar) (K:AV->St->Prop) (s:St):Prop:=match rs with
 | [r]=>cn (rB E deep s r) fun p=>K p.1 ⟨nc p.2.env,p.2.hp⟩
 | rs=>cn (qZ E deep rs s) fun p=>K (.tup p.1) ⟨nc p.2.env,p.2.hp⟩
def Jf (E:Tab) (deep:Bool) (rs:List ResultVar) (K:AV->St->Prop):X->St->Prop
 | .normal,s=>Cr E deep rs K s
 | .ret,s=>Cr E deep rs K s
 | .exit _,_=>False
def aq:aW:=fun _ _ _ _=>False
def xT (C:Ctx) (ann:Nat->List Dir) (code:Code) (rs:List ResultVar):Inl:=fun args s K=>
 bif Nat.ble args.length C.n&&Nat.ble C.n bF then awp C aq ann code ⟨oh 0 args++mK s.env,s.hp⟩ (Jf C.tab C.deep rs K) else False
theorem lookup_append {α:Type}:∀(l k:List (Nat×α)) (j:Nat),lookup (l++k) j=match lookup l j with | some v=>some v | none=>lookup k j
 | [],k,j=>by simp[lookup]
 | (i,x)::l,k,j=>by
  rw[List.cons_append,lookup_cons,lookup_cons]
  by_cases h:i=j
  ·rw[if_pos h,if_pos h]
  ·rw[if_neg h,if_neg h]
   exact lookup_append l k j
theorem vb:∀(e:Env) (j:Nat) (v:AV),lookup (mK e) j=some v->∃k,j=k+bF/\lookup e k=some v
 | [],j,v,h=>by simp[mK,lookup] at h
 | (i,x)::l,j,v,h=>by
  unfold mK at h
  rw[lookup_cons] at h
  split at h
  ·rename_i e
   cases h
   exact⟨i,e.symm,by rw[lookup_cons,if_pos rfl]⟩
  ·rename_i hne
   obtain⟨k,hk,hl⟩:=vb l j v h
   refine⟨k,hk,?_⟩
   rw[lookup_cons,if_neg ?_]
   ·exact hl
   ·rintro rfl
    exact hne hk.symm
theorem mL:∀(e:Env) (k:Nat) (v:AV),lookup (nc e) k=some v->lookup e (k+bF)=some v
 | [],k,v,h=>by simp[nc,lookup] at h
 | (i,x)::l,k,v,h=>by
  unfold nc at h
  cases hb:Nat.ble bF i with
  | false=>
   rw[hb] at h
   have hlt:¬bF<=i:=by intro hc;rw[Nat.ble_eq_true_of_le hc] at hb;cases hb
   rw[lookup_cons,if_neg (by omega)]
   exact mL l k v h
  | true=>
   rw[hb] at h
   simp only[cond_true] at h
   have hle:bF<=i:=Nat.le_of_ble_eq_true hb
   rw[lookup_cons] at h
   have hs:Nat.sub i bF=i-bF:=rfl
   split at h
   ·rename_i e
    rw[hs] at e
    cases h
    rw[lookup_cons,if_pos (by omega)]
   ·rename_i e
    rw[hs] at e
    rw[lookup_cons,if_neg (by omega)]
    exact mL l k v h
section
variable {P:Program} {C:Ctx} {g:Gl} {N:Nat} {s:St} {a:Act} {w:World} {φ:Names}
def At (g:Gl) (gh:Nat->Value):Gl:={ g with gh:=gh }
def zW (g:Gl) (a:Act) (gh:Nat->Value):Prop:=∀k,gh (k+bF)=valOf g a k
theorem Eh (g:Gl) (a:Act):∃gh,zW g a gh:=⟨fun j=>valOf g a (j-bF),fun k=>by simp only[Nat.add_sub_cancel]⟩
theorem vQ (gh:Nat->Value) {hp:Hp} {n:Nat}:imm (At g gh) φ hp n=imm g φ hp n:=by unfold imm At;rfl
theorem rV (gh:Nat->Value):aG (At g gh)=aG g:=by unfold aG At;rfl
theorem Dd {gh:Nat->Value} {a a':Act} {k:Nat} (hg:zW g a gh):valOf (At g gh) a' (k+bF)=valOf g a k:=by
 have hb:Nat.blt (k+bF) bF=false:=by
  cases hb:Nat.blt (k+bF) bF with
  | false=>rfl
  | true=>rw[Nat.blt_eq] at hb;omega
 unfold valOf
 rw[hb]
 simp only[cond_false,At]
 exact hg k
theorem IG {gh:Nat->Value} (hg:zW g a gh) {hp:Hp} {args:List AV} {vals:List Value} {n:Nat} {e:Env} (hv:aj w (imm g φ hp w.heap.size) (aG g) φ hp args vals) (he:∀j av,lookup e j=some av->ah w (imm g φ hp w.heap.size) (aG g) φ hp av (valOf g a j))
  (hle:args.length<=n) (hgl:n<=bF) (j:Nat) (av:AV) (hj:lookup (oh 0 args++mK e) j=some av) :
  ah w (imm g φ hp w.heap.size) (aG g) φ hp av (valOf (At g gh) { tmps:=vals.toArray++Array.replicate (n-vals.toArray.size) undef,defers:=[] } j):=by
 have hlen:=hv.length
 rw[lookup_append] at hj
 split at hj
 ·rename_i v hla
  cases hj
  obtain⟨_,u,h1,h2⟩:=qU hv j av hla
  have h1:vals[j]? = some u:=by simpa using h1
  have hlt:j<vals.length:=(List.getElem?_eq_some_iff.1 h1).1
  have hu:(vals.toArray++Array.replicate (n-vals.toArray.size) undef).getD j undef=u:=by
   rw[Array.getD_eq_getD_getElem?,Array.getElem?_append_left (by simpa using hlt)]
   simp[h1]
  have hjg:Nat.blt j bF=true:=by rw[Nat.blt_eq];omega
  unfold valOf
  rw[hjg]
  simp only[cond_true]
  rw[hu]
  exact h2
 ·obtain⟨k,hk0,hk⟩:=vb _ _ _ hj
  rw[hk0,Dd hg]
  exact he k av hk
theorem Is {gh:Nat->Value} (hg:zW g a gh) {args:List AV} {vals:List Value} {n:Nat} (h:Sim g N s a w φ) (hv:aj w (imm g φ s.hp w.heap.size) (aG g) φ s.hp args vals) (hle:args.length<=n) (hgl:n<=bF) :
  Sim (At g gh) n ⟨oh 0 args++mK s.env,s.hp⟩ { tmps:=vals.toArray++Array.replicate (n-vals.toArray.size) undef,defers:=[] } w φ:=by
 have hlen:=hv.length
 refine⟨rfl,by simp;omega,h.os,h.tape,h.output,h.hsize,h.frame,h.inj,h.apart,h.place,fun i blk hi=>?_,fun j av hj=>?_,h.pinned⟩
 ·rw[vQ,rV]
  exact h.blocks i blk hi
 ·rw[vQ,rV]
  exact IG hg hv h.env hle hgl j av hj
theorem EW {gh:Nat->Value} (hg:zW g a gh) {a':Act} {w':World} {s1:St} {φ1:Names} {n:Nat} (h:Sim g N s a w φ) (hs:Sim (At g gh) n s1 a' w' φ1):Sim g N ⟨nc s1.env,s1.hp⟩ a w' φ1:=by
 refine⟨h.defers,h.size,hs.os,hs.tape,hs.output,hs.hsize,hs.frame,hs.inj,hs.apart,hs.place,fun i blk hi=>?_,fun k av hk=>?_,hs.pinned⟩
 ·have:=hs.blocks i blk hi
  rw[vQ,rV] at this
  exact this
 ·have:=hs.env _ _ (mL _ _ _ hk)
  rw[vQ,rV,Dd hg] at this
  exact this
theorem IK (hT:TabOk P C) (hC:dm P C) (hm:P.follows .mixedOrders=true) {f:FuncId} {fn:Func} {code:Code} (hf:P.funcs[f]? = some fn) (hb:fn.body=some code) (hN:C.n=fn.ntmps) {ann:Nat->List Dir} (hl:bK code=[]) :
  DA P f (xT C ann code fn.results.toList):=by
 intro g N s a w φ args vals K h hv hop
 unfold xT at hop
 cases hq:(Nat.ble args.length C.n&&Nat.ble C.n bF) with
 | false=>rw[hq] at hop;exact hop.elim
 | true=>
 rw[hq] at hop
 simp only[cond_true] at hop
 obtain⟨hq1,hq2⟩:=Bool.and_eq_true_iff.1 hq
 have hle:args.length<=fn.ntmps:=by rw[<-hN];exact Nat.le_of_ble_eq_true hq1
 have hgl:fn.ntmps<=bF:=by rw[<-hN];exact Nat.le_of_ble_eq_true hq2
 obtain⟨gh,hg⟩:=Eh g a
 have hS:=Is hg h hv hle hgl
 refine calls_of_wp hf hb (wp_mono (Ge (L:=aq) (ann:=ann) hT hC hN hm code (by rw[hl];intro p hp;cases hp) _ _ _ _ φ hS hop) ?_)
 intro e a' w' hq
 have fin:(∃s1 φ1,Cr C.tab C.deep fn.results.toList K s1/\Sim (At g gh) fn.ntmps s1 a' w' φ1)->a'.defers=[]/\∃u,(results fn a'.tmps).run P w'=.ok u w' ∧
   ∃v s' φ',K v s'/\Sim g N s' a w' φ'/\ah w' (imm g φ' s'.hp w'.heap.size) (aG g) φ' s'.hp v u:=by
  rintro ⟨s1,φ1,hk,hs⟩
  refine⟨hs.defers,?_⟩
  unfold Cr at hk
  split at hk
  ·rename_i r ht
   obtain⟨p,hp,hk⟩:=aC hk
   obtain⟨u,hrun,h1,_,hv⟩:=vl hT hs (show rB C.tab _ s1 r=some (p.1,p.2) from hp)
   rw[vQ,rV] at hv
   refine⟨u,?_,p.1,_,φ1,hk,EW hg h h1,hv⟩
   rw[iV (us:=[u]) (by rw[ht];exact .cons hrun .nil)]
   simp
  ·rename_i hne
   obtain⟨p,hp,hk⟩:=aC hk
   obtain⟨us,h1,_,h3,h4⟩:=tD hT hs (show qZ C.tab _ fn.results.toList s1=some (p.1,p.2) from hp)
   rw[vQ,rV] at h4
   have hlen:¬us.toArray.size=1:=by
    intro e
    have e:us.length=1:=e
    rw[<-h3.length_eq] at e
    match hq:fn.results.toList,e with
    | [r],_=>exact hne r hq
   refine⟨_,iV h3,.tup p.1,_,φ1,hk,EW hg h h1,?_⟩
   rw[dif_neg hlen]
   simp only[ah]
   exact⟨_,rfl,h4⟩
 cases e with
 | normal=>exact fin hq
 | ret=>exact fin hq
 | exit i=>obtain⟨s,φ,hk,_⟩:=hq;exact hk.elim
 | goto l=>exact hq.elim
 | panic c=>exact hq.elim
 | outgrown=>exact hq.elim
end
theorem ln_of_fine:∀{t:Ty} {x:t.D},zX t x->Ln t x
 | .int _,_,_=>trivial
 | .bool,_,_=>trivial
 | .str,_,h=>by
  have h:(_:ByteArray).size<=Go.maxLen:=h
  exact h
 | .unit,_,_=>trivial
 | .sl _,_,h=>⟨h.1,fun y hy=>ln_of_fine (h.2 y hy)⟩
 | .pair _ _,_,h=>⟨ln_of_fine h.1,ln_of_fine h.2⟩
end Go.AE
end
section
namespace Go.AE
open Go Go.RowKit
abbrev LD {α:Type} (x:α) (p:α->Prop):Prop:=∀r,r=x->p r
structure Pat (α:Type) where
 av:α->AV
 run:AV->(α->Prop)->Prop
 elim:∀{v:AV} {k:α->Prop},run v k->∃x,v=av x/\k x
abbrev pD (t:Ty):Pat t.D:=⟨fun x=>.data t x,iY t,bV⟩
abbrev pB (t:Ty):Pat (List t.D):=⟨fun x=>.brw t x,ig t,bS⟩
abbrev pA (t:Ty):Pat t.D:=⟨fun x=>.adr t x,DG t,tn⟩
abbrev pR (t:Ty):Pat t.D:=⟨fun x=>.ref (.data t x),lD t,cK⟩
abbrev pQ (t:Ty):Pat (List t.D):=⟨fun x=>.ref (.brw t x),Ek t,CN⟩
section
variable {α β γ δ ε:Type} {l:List AV} {hp:Hp}
def g1 (p:Pat α) (F:α->Prop) (l:List AV) (hp:Hp):Prop:=args1 (fun a=>p.run a F) l hp
def g2 (p:Pat α) (q:Pat β) (F:α->β->Prop) (l:List AV) (hp:Hp):Prop:=args2 (fun a b=>p.run a fun x=>q.run b fun y=>F x y) l hp
def g3 (p:Pat α) (q:Pat β) (r:Pat γ) (F:α->β->γ->Prop) (l:List AV) (hp:Hp):Prop:=CA (fun a b c=>p.run a fun x=>q.run b fun y=>r.run c fun z=>F x y z) l hp
def g4 (p:Pat α) (q:Pat β) (r:Pat γ) (s:Pat δ) (F:α->β->γ->δ->Prop) (l:List AV) (hp:Hp):Prop:=Jb (fun a b c d=>p.run a fun x=>q.run b fun y=>r.run c fun z=>s.run d fun u=>F x y z u) l hp
theorem g1e {p:Pat α} {F:α->Prop} (h0:g1 p F l hp):∃x,l=[p.av x]/\hp=[]/\F x:=by
 obtain⟨a,rfl,rfl,h1⟩:=DY h0
 obtain⟨x,rfl,h2⟩:=p.elim h1
 exact⟨x,rfl,rfl,h2⟩
theorem g2e {p:Pat α} {q:Pat β} {F:α->β->Prop} (h0:g2 p q F l hp):∃x y,l=[p.av x,q.av y]/\hp=[]/\F x y:=by
 obtain⟨a,b,rfl,rfl,h1⟩:=bt h0
 obtain⟨x,rfl,h2⟩:=p.elim h1
 obtain⟨y,rfl,h3⟩:=q.elim h2
 exact⟨x,y,rfl,rfl,h3⟩
theorem g3e {p:Pat α} {q:Pat β} {r:Pat γ} {F:α->β->γ->Prop} (h0:g3 p q r F l hp):∃x y z,l=[p.av x,q.av y,r.av z]/\hp=[]/\F x y z:=by
 obtain⟨a,b,c,rfl,rfl,h1⟩:=tP h0
 obtain⟨x,rfl,h2⟩:=p.elim h1
 obtain⟨y,rfl,h3⟩:=q.elim h2
 obtain⟨z,rfl,h4⟩:=r.elim h3
 exact⟨x,y,z,rfl,rfl,h4⟩
end
theorem oG {α:Type} {p q:Prop} {x:Option α} {K:α->Prop} (h:ok (ag p x) K) (k:p->ok x K->q):p/\q:=⟨(yQ h).1,k (yQ h).1 (yQ h).2⟩
theorem oL {α β:Type} {x:α} {f:α->Option β} {K:β->Prop} {Q:α->Prop} (h:ok (bB x f) K) (k:∀r,r=x->ok (f r) K->Q r):∀r,r=x->Q r:=fun r e=>k r e (fI h r e)
theorem oC {α:Type} {b:Bool} {x y:Option α} {K:α->Prop} {T U:Prop} (h:ok (cond b x y) K) (h1:b=true->ok x K->T) (h2:b=false->ok y K->U):cond b T U:=HX h h1 h2
def GF:Nat->Nat->Nat->List Nat
 | 0,_,_=>[]
 | f+1,i,b=>bif Nat.beq b 0 then [] else bif Nat.beq (Nat.mod b 2) 1 then i::GF f (Nat.succ i) (Nat.div b 2) else GF f (Nat.succ i) (Nat.div b 2)
def kp (b:Nat):Dir:=.keep (GF 400 0 b)
def GC:List (List Dir)->Nat->List Dir
 | [],_=>[]
 | d::l,n=>match n with
  | 0=>d
  | k+1=>GC l k
def an (l m:List (List Dir)) (n:Nat):List Dir:=bif Nat.blt n 100000 then GC l n else GC m (Nat.sub n 100000)
def lp1 (a:Nat) (A:Nat->St->(X->St->Prop)->Prop):aW:=fun id m s K=>bif Nat.beq id a then A m s K else False
def lp2 (a:Nat) (A:Nat->St->(X->St->Prop)->Prop) (b:Nat) (B:Nat->St->(X->St->Prop)->Prop):aW:=fun id m s K=>bif Nat.beq id a then A m s K else bif Nat.beq id b then B m s K else False
abbrev vcT (C:Ctx) (L:aW) (ann:Nat->List Dir) (fn:Func) (args:List AV) (hp:Hp) (k:RK) (K:AV->Hp->Prop):Prop:=
 awp C L ann (dJ fn) ⟨oh 0 args,hp⟩ (Jd C.tab C.deep fn.results.toList (DO hp) (Dg k K))
abbrev lvT (C:Ctx) (L:aW) (ann:Nat->List Dir) (fn:Func) (n id:Nat) (s:St) (m:Nat) (K:X->St->Prop):Prop:=
 awp C L ann (jT (dJ fn) n) s (GM (fun s'=>∃m',m'<m/\L id m' s' K) (Dr id (ann (behind id)) K))
abbrev nxT (A:Nat->St->(X->St->Prop)->Prop) (m:Nat) (K:X->St->Prop) (s:St):Prop:=∃m_,m_<m/\A m_ s K
def aN (P:Program) (f:FuncId) (con:Con):Prop:=(∀args w,(callFunc f args).run P w=.ok (.enter f args) w)/\zn P f con
def yq (P:Program) (f:FuncId) (T:Inl):Prop:=(∀args w,(callFunc f args).run P w=.ok (.enter f args) w)/\DA P f T
section
variable {P:Program} {E:Tab} {c:TypeId->Bool} {n off:Nat} {deep:Bool} {f:FuncId} {con:Con} {T:Inl} {l:Cons} {inl:List (Nat×Inl)}
theorem kC (h1:aN P f con) (h:dm P ⟨E,c,l,n,inl,off,deep⟩):dm P ⟨E,c,(f,con)::l,n,inl,off,deep⟩:=DD h1.1 h1.2 h
theorem kI (h1:yq P f T) (h:dm P ⟨E,c,[],n,inl,off,deep⟩):dm P ⟨E,c,[],n,(f,T)::inl,off,deep⟩:=DM h1.1 h1.2 h
theorem kN:dm P ⟨E,c,[],n,[],off,deep⟩:=El
end
def DS (ds:List (Nat×Bool)) (fn:Func):Func:=match ds with
 | []=>fn
 | ds=>{ fn with body:=fn.body.map (fu ds) }
theorem Ie {P:Program} {C:Ctx} (ds:List (Nat×Bool)) (hT:TabOk P C) (hm:P.follows .mixedOrders=true) {f:FuncId} {fn:Func} {con:Con} (hf:P.funcs[f]? = some fn) (hq:((fn.name == "runtime.NumGoroutine")||fn.body.isNone)=false) (hC:dm P C) (hN:C.n=fn.ntmps)
  (hcon:∀args hp K,con.run args hp K->(Nat.ble args.length fn.ntmps&&Nat.ble args.length bF)=true/\∃(ann:Nat->List Dir) (L:aW) (k:RK),(∀p∈bK (dJ (DS ds fn)),fj C L ann p.1 p.2)/\vcT C L ann (DS ds fn) args hp k K):aN P f con:=by
 obtain⟨hq1,hq2⟩:=Bool.or_eq_false_iff.1 hq
 have hb:fn.body=some (dJ fn):=by
  unfold dJ
  cases h:fn.body with
  | none=>rw[h] at hq2;cases hq2
  | some c=>rfl
 have he:dJ (DS ds fn)=fu ds (dJ fn):=by
  cases ds with
  | nil=>exact(kj _).symm
  | cons d l=>unfold DS dJ at *;rw[hb];rfl
 have hr:(DS ds fn).results=fn.results:=by cases ds<;>rfl
 refine⟨Dn hf hq1 hq2,HO (ds:=ds) hT hC hm hf hb hN fun args hp K h=>?_⟩
 obtain⟨h1,h2⟩:=hcon args hp K h
 obtain⟨h3,h4⟩:=Bool.and_eq_true_iff.1 h1
 unfold vcT at h2
 rw[he,hr] at h2
 exact⟨⟨Nat.le_of_ble_eq_true h3,Nat.le_of_ble_eq_true h4⟩,h2⟩
theorem Jc {P:Program} {C:Ctx} (hT:TabOk P C) (hm:P.follows .mixedOrders=true) {f:FuncId} {fn:Func} (hf:P.funcs[f]? = some fn) (hq:((fn.name == "runtime.NumGoroutine")||fn.body.isNone)=false) (hC:dm P C) (hN:C.n=fn.ntmps) {ann:Nat->List Dir}
  (hl:bK (dJ fn)=[]):yq P f (xT C ann (dJ fn) fn.results.toList):=by
 obtain⟨hq1,hq2⟩:=Bool.or_eq_false_iff.1 hq
 have hb:fn.body=some (dJ fn):=by
  unfold dJ
  cases h:fn.body with
  | none=>rw[h] at hq2;cases hq2
  | some c=>rfl
 exact⟨Dn hf hq1 hq2,IK hT hC hm hf hb hN hl⟩
end Go.AE
end
