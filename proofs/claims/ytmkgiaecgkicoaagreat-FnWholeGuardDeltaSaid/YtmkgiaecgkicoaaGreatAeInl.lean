/- Small functions, followed in place: what the caller knows goes along. -/
import Derived.Test.YtmkgiaecgkicoaaGreatAeX
import Derived.Test.YtmkgiaecgkicoaaGreatChecked
import Derived.Test.YtmkgiaecgkicoaaGreatAeMP
import Derived.KernelRfl
section
namespace Go.AE
open Go Go.RowKit
def mR:Env->Env
 | []=>[]
 | (j,v)::l=>(Nat.add j bV,v)::mR l
def od:Env->Env
 | []=>[]
 | (j,v)::l=>bif Nat.ble bV j then (Nat.sub j bV,v)::od l else od l
def Co (E:Tab) (deep:Bool) (rs:List ResultVar) (K:AV->St->Prop) (s:St):Prop:=match rs with
 | [r]=>cS (rW E deep s r) fun p=>K p.1 ⟨od p.2.env,p.2.hp⟩
 | rs=>cS (qL E deep rs s) fun p=>K (.tup p.1) ⟨od p.2.env,p.2.hp⟩
def LF (E:Tab) (deep:Bool) (rs:List ResultVar) (K:AV->St->Prop):X->St->Prop
 | .normal,s=>Co E deep rs K s
 | .ret,s=>Co E deep rs K s
 | .exit _,_=>False
def aB:bK:=fun _ _ _ _=>False
def rR (C:Ctx) (ann:Nat->List Dir) (code:Code) (rs:List ResultVar):Inl:=fun args s K=>
 bif Nat.ble args.length C.n&&Nat.ble C.n bV then awp C aB ann code ⟨oK 0 args++mR s.env,s.hp⟩ (LF C.tab C.deep rs K) else False
theorem lookup_append {α:Type}:∀(l k:List (Nat×α)) (j:Nat),lookup (l++k) j=match lookup l j with | some v=>some v | none=>lookup k j
 | [],k,j=>by simp[lookup]
 | (i,x)::l,k,j=>by
  rw[List.cons_append,lookup_cons,lookup_cons]
  by_cases h:i=j
  ·rw[if_pos h,if_pos h]
  ·rw[if_neg h,if_neg h]
   exact lookup_append l k j
theorem vu:∀(e:Env) (j:Nat) (v:AV),lookup (mR e) j=some v->∃k,j=k+bV/\lookup e k=some v
 | [],j,v,h=>by simp[mR,lookup] at h
 | (i,x)::l,j,v,h=>by
  unfold mR at h
  rw[lookup_cons] at h
  split at h
  ·rename_i e
   cases h
   exact⟨i,e.symm,by rw[lookup_cons,if_pos rfl]⟩
  ·rename_i hne
   obtain⟨k,hk,hl⟩:=vu l j v h
   refine⟨k,hk,?_⟩
   rw[lookup_cons,if_neg ?_]
   ·exact hl
   ·rintro rfl
    exact hne hk.symm
theorem mO:∀(e:Env) (k:Nat) (v:AV),lookup (od e) k=some v->lookup e (k+bV)=some v
 | [],k,v,h=>by simp[od,lookup] at h
 | (i,x)::l,k,v,h=>by
  unfold od at h
  cases hb:Nat.ble bV i with
  | false=>
   rw[hb] at h
   have hlt:¬bV<=i:=by intro hc;rw[Nat.ble_eq_true_of_le hc] at hb;cases hb
   rw[lookup_cons,if_neg (by omega)]
   exact mO l k v h
  | true=>
   rw[hb] at h
   simp only[cond_true] at h
   have hle:bV<=i:=Nat.le_of_ble_eq_true hb
   rw[lookup_cons] at h
   have hs:Nat.sub i bV=i-bV:=rfl
   split at h
   ·rename_i e
    rw[hs] at e
    cases h
    rw[lookup_cons,if_pos (by omega)]
   ·rename_i e
    rw[hs] at e
    rw[lookup_cons,if_neg (by omega)]
    exact mO l k v h
section
variable {P:Program} {C:Ctx} {g:Gl} {N:Nat} {s:St} {a:Act} {w:World} {φ:Names}
def AQ (g:Gl) (gh:Nat->Value):Gl:={ g with gh:=gh }
def zK (g:Gl) (a:Act) (gh:Nat->Value):Prop:=∀k,gh (k+bV)=valOf g a k
theorem FK (g:Gl) (a:Act):∃gh,zK g a gh:=⟨fun j=>valOf g a (j-bV),fun k=>by simp only[Nat.add_sub_cancel]⟩
theorem wk (gh:Nat->Value) {hp:Hp} {n:Nat}:imm (AQ g gh) φ hp n=imm g φ hp n:=by unfold imm AQ;rfl
theorem sG (gh:Nat->Value):aM (AQ g gh)=aM g:=by unfold aM AQ;rfl
theorem Ej {gh:Nat->Value} {a a':Act} {k:Nat} (hg:zK g a gh):valOf (AQ g gh) a' (k+bV)=valOf g a k:=by
 have hb:Nat.blt (k+bV) bV=false:=by
  cases hb:Nat.blt (k+bV) bV with
  | false=>rfl
  | true=>rw[Nat.blt_eq] at hb;omega
 unfold valOf
 rw[hb]
 simp only[cond_false,AQ]
 exact hg k
theorem KQ {gh:Nat->Value} (hg:zK g a gh) {hp:Hp} {args:List AV} {vals:List Value} {n:Nat} {e:Env} (hv:ax w (imm g φ hp w.heap.size) (aM g) φ hp args vals) (he:∀j av,lookup e j=some av->ak w (imm g φ hp w.heap.size) (aM g) φ hp av (valOf g a j))
  (hle:args.length<=n) (hgl:n<=bV) (j:Nat) (av:AV) (hj:lookup (oK 0 args++mR e) j=some av) :
  ak w (imm g φ hp w.heap.size) (aM g) φ hp av (valOf (AQ g gh) { tmps:=vals.toArray++Array.replicate (n-vals.toArray.size) undef,defers:=[] } j):=by
 have hlen:=hv.length
 rw[lookup_append] at hj
 split at hj
 ·rename_i v hla
  cases hj
  obtain⟨_,u,h1,h2⟩:=rq hv j av hla
  have h1:vals[j]? = some u:=by simpa using h1
  have hlt:j<vals.length:=(List.getElem?_eq_some_iff.1 h1).1
  have hu:(vals.toArray++Array.replicate (n-vals.toArray.size) undef).getD j undef=u:=by
   rw[Array.getD_eq_getD_getElem?,Array.getElem?_append_left (by simpa using hlt)]
   simp[h1]
  have hjg:Nat.blt j bV=true:=by rw[Nat.blt_eq];omega
  unfold valOf
  rw[hjg]
  simp only[cond_true]
  rw[hu]
  exact h2
 ·obtain⟨k,hk0,hk⟩:=vu _ _ _ hj
  rw[hk0,Ej hg]
  exact he k av hk
theorem KU {gh:Nat->Value} (hg:zK g a gh) {args:List AV} {vals:List Value} {n:Nat} (h:Sim g N s a w φ) (hv:ax w (imm g φ s.hp w.heap.size) (aM g) φ s.hp args vals) (hle:args.length<=n) (hgl:n<=bV) :
  Sim (AQ g gh) n ⟨oK 0 args++mR s.env,s.hp⟩ { tmps:=vals.toArray++Array.replicate (n-vals.toArray.size) undef,defers:=[] } w φ:=by
 have hlen:=hv.length
 refine⟨rfl,by simp;omega,h.os,h.tape,h.output,h.hsize,h.frame,h.inj,h.apart,h.place,fun i blk hi=>?_,fun j av hj=>?_,h.pinned⟩
 ·rw[wk,sG]
  exact h.blocks i blk hi
 ·rw[wk,sG]
  exact KQ hg hv h.env hle hgl j av hj
theorem FU {gh:Nat->Value} (hg:zK g a gh) {a':Act} {w':World} {s1:St} {φ1:Names} {n:Nat} (h:Sim g N s a w φ) (hs:Sim (AQ g gh) n s1 a' w' φ1):Sim g N ⟨od s1.env,s1.hp⟩ a w' φ1:=by
 refine⟨h.defers,h.size,hs.os,hs.tape,hs.output,hs.hsize,hs.frame,hs.inj,hs.apart,hs.place,fun i blk hi=>?_,fun k av hk=>?_,hs.pinned⟩
 ·have:=hs.blocks i blk hi
  rw[wk,sG] at this
  exact this
 ·have:=hs.env _ _ (mO _ _ _ hk)
  rw[wk,sG,Ej hg] at this
  exact this
theorem KN (hT:TabOk P C) (hC:eL P C) (hm:P.follows .mixedOrders=true) {f:FuncId} {fn:Func} {code:Code} (hf:P.funcs[f]? = some fn) (hb:fn.body=some code) (hN:C.n=fn.ntmps) {ann:Nat->List Dir} (hl:bQ code=[]) :
  ED P f (rR C ann code fn.results.toList):=by
 intro g N s a w φ args vals K h hv hop
 unfold rR at hop
 cases hq:(Nat.ble args.length C.n&&Nat.ble C.n bV) with
 | false=>rw[hq] at hop;exact hop.elim
 | true=>
 rw[hq] at hop
 simp only[cond_true] at hop
 obtain⟨hq1,hq2⟩:=Bool.and_eq_true_iff.1 hq
 have hle:args.length<=fn.ntmps:=by rw[<-hN];exact Nat.le_of_ble_eq_true hq1
 have hgl:fn.ntmps<=bV:=by rw[<-hN];exact Nat.le_of_ble_eq_true hq2
 obtain⟨gh,hg⟩:=FK g a
 have hS:=KU hg h hv hle hgl
 refine calls_of_wp hf hb (wp_mono (Iy (L:=aB) (ann:=ann) hT hC hN hm code (by rw[hl];intro p hp;cases hp) _ _ _ _ φ hS hop) ?_)
 intro e a' w' hq
 have fin:(∃s1 φ1,Co C.tab C.deep fn.results.toList K s1/\Sim (AQ g gh) fn.ntmps s1 a' w' φ1)->a'.defers=[]/\∃u,(results fn a'.tmps).run P w'=.ok u w' ∧
   ∃v s' φ',K v s'/\Sim g N s' a w' φ'/\ak w' (imm g φ' s'.hp w'.heap.size) (aM g) φ' s'.hp v u:=by
  rintro ⟨s1,φ1,hk,hs⟩
  refine⟨hs.defers,?_⟩
  unfold Co at hk
  split at hk
  ·rename_i r ht
   obtain⟨p,hp,hk⟩:=aJ hk
   obtain⟨u,hrun,h1,_,hv⟩:=uQ hT hs (show rW C.tab _ s1 r=some (p.1,p.2) from hp)
   rw[wk,sG] at hv
   refine⟨u,?_,p.1,_,φ1,hk,FU hg h h1,hv⟩
   rw[iB (us:=[u]) (by rw[ht];exact .cons hrun .nil)]
   simp
  ·rename_i hne
   obtain⟨p,hp,hk⟩:=aJ hk
   obtain⟨us,h1,_,h3,h4⟩:=qp hT hs (show qL C.tab _ fn.results.toList s1=some (p.1,p.2) from hp)
   rw[wk,sG] at h4
   have hlen:¬us.toArray.size=1:=by
    intro e
    have e:us.length=1:=e
    rw[<-h3.length_eq] at e
    match hq:fn.results.toList,e with
    | [r],_=>exact hne r hq
   refine⟨_,iB h3,.tup p.1,_,φ1,hk,FU hg h h1,?_⟩
   rw[dif_neg hlen]
   simp only[ak]
   exact⟨_,rfl,h4⟩
 cases e with
 | normal=>exact fin hq
 | ret=>exact fin hq
 | exit i=>obtain⟨s,φ,hk,_⟩:=hq;exact hk.elim
 | goto l=>exact hq.elim
 | panic c=>exact hq.elim
 | outgrown=>exact hq.elim
end
theorem ln_of_fine:∀{t:Ty} {x:t.D},wv t x->Ln t x
 | .int _,_,_=>trivial
 | .bool,_,_=>trivial
 | .str,_,h=>by
  have h:(_:ByteArray).size<=Go.maxLen:=h
  exact h
 | .unit,_,_=>trivial
 | .sl _,_,h=>⟨h.1,fun y hy=>ln_of_fine (h.2 y hy)⟩
 | .pair _ _,_,h=>⟨ln_of_fine h.1,ln_of_fine h.2⟩
end Go.AE
end
section
namespace Go.AE
open Go Go.RowKit
abbrev LD {α:Type} (x:α) (p:α->Prop):Prop:=∀r,r=x->p r
structure Pat (α:Type) where
 av:α->AV
 run:AV->(α->Prop)->Prop
 elim:∀{v:AV} {k:α->Prop},run v k->∃x,v=av x/\k x
abbrev pD (t:Ty):Pat t.D:=⟨fun x=>.data t x,dA t,aP⟩
abbrev pB (t:Ty):Pat (List t.D):=⟨fun x=>.brw t x,lF t,dx⟩
abbrev pA (t:Ty):Pat t.D:=⟨fun x=>.adr t x,IA t,EK⟩
abbrev pR (t:Ty):Pat t.D:=⟨fun x=>.ref (.data t x),xC t,kz⟩
abbrev pQ (t:Ty):Pat (List t.D):=⟨fun x=>.ref (.brw t x),Fk t,Es⟩
section
variable {α β γ δ ε:Type} {l:List AV} {hp:Hp}
def g1 (p:Pat α) (F:α->Prop) (l:List AV) (hp:Hp):Prop:=args1 (fun a=>p.run a F) l hp
def g2 (p:Pat α) (q:Pat β) (F:α->β->Prop) (l:List AV) (hp:Hp):Prop:=args2 (fun a b=>p.run a fun x=>q.run b fun y=>F x y) l hp
def g3 (p:Pat α) (q:Pat β) (r:Pat γ) (F:α->β->γ->Prop) (l:List AV) (hp:Hp):Prop:=rK (fun a b c=>p.run a fun x=>q.run b fun y=>r.run c fun z=>F x y z) l hp
def g4 (p:Pat α) (q:Pat β) (r:Pat γ) (s:Pat δ) (F:α->β->γ->δ->Prop) (l:List AV) (hp:Hp):Prop:=DB (fun a b c d=>p.run a fun x=>q.run b fun y=>r.run c fun z=>s.run d fun u=>F x y z u) l hp
theorem g1e {p:Pat α} {F:α->Prop} (h0:g1 p F l hp):∃x,l=[p.av x]/\hp=[]/\F x:=by
 obtain⟨a,rfl,rfl,h1⟩:=zd h0
 obtain⟨x,rfl,h2⟩:=p.elim h1
 exact⟨x,rfl,rfl,h2⟩
theorem g2e {p:Pat α} {q:Pat β} {F:α->β->Prop} (h0:g2 p q F l hp):∃x y,l=[p.av x,q.av y]/\hp=[]/\F x y:=by
 obtain⟨a,b,rfl,rfl,h1⟩:=bZ h0
 obtain⟨x,rfl,h2⟩:=p.elim h1
 obtain⟨y,rfl,h3⟩:=q.elim h2
 exact⟨x,y,rfl,rfl,h3⟩
theorem g3e {p:Pat α} {q:Pat β} {r:Pat γ} {F:α->β->γ->Prop} (h0:g3 p q r F l hp):∃x y z,l=[p.av x,q.av y,r.av z]/\hp=[]/\F x y z:=by
 obtain⟨a,b,c,rfl,rfl,h1⟩:=gq h0
 obtain⟨x,rfl,h2⟩:=p.elim h1
 obtain⟨y,rfl,h3⟩:=q.elim h2
 obtain⟨z,rfl,h4⟩:=r.elim h3
 exact⟨x,y,z,rfl,rfl,h4⟩
end
def hpR (F:List Int->Int->Prop) (hp:Hp):Prop:=match hp with
 | [(k,.box [.data u b,.data v p])]=>(match Ty.eq? u (.sl (.int .u8)),Ty.eq? v (.int .i64) with
  | some ⟨h⟩,some ⟨h'⟩=>bif Nat.beq k base then F (eG h b) (eG h' p) else False
  | _,_=>False)
 | _=>False
theorem fq {F:List Int->Int->Prop} {hp:Hp} (h:hpR F hp):∃(b:List Int) (p:Int),hp=[(1000000,.box [.data (.sl (.int .u8)) b,.data (.int .i64) p])]/\F b p:=by
 unfold hpR at h
 split at h
 ·rename_i k u b v p
  split at h
  ·rename_i h1 h2 _ _
   cases h1
   cases h2
   rcases aZ k base with⟨rfl,hb⟩ | ⟨_,hb⟩
   ·rw[hb] at h
    exact⟨b,p,rfl,h⟩
   ·rw[hb] at h
    exact h.elim
  ·exact h.elim
 ·exact h.elim
def mc (a:AV) (F:Prop):Prop:=match a with
 | .ptr k 0=>bif Nat.beq k base then F else False
 | _=>False
theorem dw {a:AV} {F:Prop} (h:mc a F):a=.ptr 1000000 0/\F:=by
 unfold mc at h
 split at h
 ·rename_i k
  rcases aZ k base with⟨rfl,hb⟩ | ⟨_,hb⟩
  ·rw[hb] at h;exact⟨rfl,h⟩
  ·rw[hb] at h;exact h.elim
 ·exact h.elim
theorem oG {α:Type} {p q:Prop} {x:Option α} {K:α->Prop} (h:ok (aa p x) K) (k:p->ok x K->q):p/\q:=⟨(aC h).1,k (aC h).1 (aC h).2⟩
theorem oL {α β:Type} {x:α} {f:α->Option β} {K:β->Prop} {Q:α->Prop} (h:ok (aG x f) K) (k:∀r,r=x->ok (f r) K->Q r):∀r,r=x->Q r:=fun r e=>k r e (cI h r e)
theorem oC {α:Type} {b:Bool} {x y:Option α} {K:α->Prop} {T U:Prop} (h:ok (cond b x y) K) (h1:b=true->ok x K->T) (h2:b=false->ok y K->U):cond b T U:=Jk h h1 h2
def HV:Nat->Nat->Nat->List Nat
 | 0,_,_=>[]
 | f+1,i,b=>bif Nat.beq b 0 then [] else bif Nat.beq (Nat.mod b 2) 1 then i::HV f (Nat.succ i) (Nat.div b 2) else HV f (Nat.succ i) (Nat.div b 2)
def kp (b:Nat):Dir:=.keep (HV 400 0 b)
def HG:List (List Dir)->Nat->List Dir
 | [],_=>[]
 | d::l,n=>match n with
  | 0=>d
  | k+1=>HG l k
def an (l m:List (List Dir)) (n:Nat):List Dir:=bif Nat.blt n 100000 then HG l n else HG m (Nat.sub n 100000)
def lp1 (a:Nat) (A:Nat->St->(X->St->Prop)->Prop):bK:=fun id m s K=>bif Nat.beq id a then A m s K else False
def lp2 (a:Nat) (A:Nat->St->(X->St->Prop)->Prop) (b:Nat) (B:Nat->St->(X->St->Prop)->Prop):bK:=fun id m s K=>bif Nat.beq id a then A m s K else bif Nat.beq id b then B m s K else False
abbrev vcT (C:Ctx) (L:bK) (ann:Nat->List Dir) (fn:Func) (args:List AV) (hp:Hp) (k:RK) (K:AV->Hp->Prop):Prop:=
 awp C L ann (dO fn) ⟨oK 0 args,hp⟩ (Lc C.tab C.deep C.two fn.results.toList (EY hp) (EC k K))
abbrev lvT (C:Ctx) (L:bK) (ann:Nat->List Dir) (fn:Func) (n id:Nat) (s:St) (m:Nat) (K:X->St->Prop):Prop:=
 awp C L ann (dm (dO fn) n) s (IK (fun s'=>∃m',m'<m/\L id m' s' K) (DM id (ann (behind id)) K))
abbrev nxT (A:Nat->St->(X->St->Prop)->Prop) (m:Nat) (K:X->St->Prop) (s:St):Prop:=∃m_,m_<m/\A m_ s K
def bt (P:Program) (f:FuncId) (con:Con):Prop:=(∀args w,(callFunc f args).run P w=.ok (.enter f args) w)/\zR P f con
def sw (P:Program) (f:FuncId) (T:Inl):Prop:=(∀args w,(callFunc f args).run P w=.ok (.enter f args) w)/\ED P f T
section
variable {P:Program} {E:Tab} {c:TypeId->Bool} {n off:Nat} {deep two:Bool} {f:FuncId} {con:Con} {T:Inl} {l:Cons} {inl:List (Nat×Inl)}
theorem kC (h1:bt P f con) (h:eL P ⟨E,c,l,n,inl,off,deep,two⟩):eL P ⟨E,c,(f,con)::l,n,inl,off,deep,two⟩:=DS h1.1 h1.2 h
theorem kI (h1:sw P f T) (h:eL P ⟨E,c,[],n,inl,off,deep,two⟩):eL P ⟨E,c,[],n,(f,T)::inl,off,deep,two⟩:=EW h1.1 h1.2 h
theorem kN:eL P ⟨E,c,[],n,[],off,deep,two⟩:=FF
end
def qY (ds:List (Nat×Bool)) (fn:Func):Func:=match ds with
 | []=>fn
 | ds=>{ fn with body:=fn.body.map (fT ds) }
theorem Kh {P:Program} {C:Ctx} (ds:List (Nat×Bool)) (hT:TabOk P C) (hm:P.follows .mixedOrders=true) {f:FuncId} {fn:Func} {con:Con} (hf:P.funcs[f]? = some fn) (hq:((fn.name == "runtime.NumGoroutine")||fn.body.isNone)=false) (hC:eL P C) (hN:C.n=fn.ntmps)
  (hcon:∀args hp K,con.run args hp K->(Nat.ble args.length fn.ntmps&&Nat.ble args.length bV)=true/\∃(ann:Nat->List Dir) (L:bK) (k:RK),(∀p∈bQ (dO (qY ds fn)),dn C L ann p.1 p.2)/\vcT C L ann (qY ds fn) args hp k K):bt P f con:=by
 obtain⟨hq1,hq2⟩:=Bool.or_eq_false_iff.1 hq
 have hb:fn.body=some (dO fn):=by
  unfold dO
  cases h:fn.body with
  | none=>rw[h] at hq2;cases hq2
  | some c=>rfl
 have he:dO (qY ds fn)=fT ds (dO fn):=by
  cases ds with
  | nil=>exact(lp _).symm
  | cons d l=>unfold qY dO at *;rw[hb];rfl
 have hr:(qY ds fn).results=fn.results:=by cases ds<;>rfl
 refine⟨Dq hf hq1 hq2,JS (ds:=ds) hT hC hm hf hb hN fun args hp K h=>?_⟩
 obtain⟨h1,h2⟩:=hcon args hp K h
 obtain⟨h3,h4⟩:=Bool.and_eq_true_iff.1 h1
 unfold vcT at h2
 rw[he,hr] at h2
 exact⟨⟨Nat.le_of_ble_eq_true h3,Nat.le_of_ble_eq_true h4⟩,h2⟩
theorem Le {P:Program} {C:Ctx} (hT:TabOk P C) (hm:P.follows .mixedOrders=true) {f:FuncId} {fn:Func} (hf:P.funcs[f]? = some fn) (hq:((fn.name == "runtime.NumGoroutine")||fn.body.isNone)=false) (hC:eL P C) (hN:C.n=fn.ntmps) {ann:Nat->List Dir}
  (hl:bQ (dO fn)=[]):sw P f (rR C ann (dO fn) fn.results.toList):=by
 obtain⟨hq1,hq2⟩:=Bool.or_eq_false_iff.1 hq
 have hb:fn.body=some (dO fn):=by
  unfold dO
  cases h:fn.body with
  | none=>rw[h] at hq2;cases hq2
  | some c=>rfl
 exact⟨Dq hf hq1 hq2,KN hT hC hm hf hb hN hl⟩
end Go.AE
end
section
namespace Go.AE
open Go Go.RowKit
noncomputable abbrev P:Program:=Go.Proofs.Tryz.prog
def tab:Tab:=[(4,⟨.val Ty.bool,1,1⟩),
  (43,⟨.sl 5 (Ty.int .u8),1,24⟩),
  (5,⟨.val (Ty.int .u8),1,1⟩),
  (3,⟨.val (Ty.int .i64),1,8⟩),
  (78,⟨.other,1,0⟩),
  (28,⟨.sl 75 ai,1,24⟩),
  (75,⟨.st [(0,73, "Columns"),(1,71, "Rows")] ai,2,48⟩),
  (73,⟨.sl 115 ag,1,24⟩),
  (115,⟨.st [(0,3, "Kind"),(1,4, "Empty")] ag,2,16⟩),
  (71,⟨.sl 48 (Ty.sl af),1,24⟩),
  (48,⟨.sl 118 af,1,24⟩),
  (118,⟨.st [(0,3, "Kind"),(1,3, "N"),(2,9, "S")] af,3,32⟩),
  (9,⟨.val Ty.str,1,16⟩),
  (76,⟨.sl 83 aI,1,24⟩),
  (83,⟨.st [(0,3, "In"),(1,59, "E")] aI,2,32⟩),
  (59,⟨.sl 165 aD,1,24⟩),
  (165,⟨.st [(0,3, "Kind"),(1,3, "N"),(2,118, "V")] aD,5,48⟩),
  (77,⟨.sl 143 ah,1,24⟩),
  (143,⟨.st [(0,3, "Kind"),(1,3, "A"),(2,3, "B"),(3,3, "N"),(4,59, "E"),(5,56, "List")] ah,6,80⟩),
  (56,⟨.sl 3 (Ty.int .i64),1,24⟩),
  (50,⟨.st [(0,3, "In"),(1,48, "Row"),(2,4, "Come")] aK,3,40⟩),
  (0,⟨.other,1,0⟩),
  (80,⟨.other,1,0⟩),
  (86,⟨.other,1,0⟩),
  (85,⟨.sl 202 cO,1,24⟩),
  (202,⟨.st [(0,48, "Row"),(1,3, "Many")] cO,2,32⟩),
  (107,⟨.ptr 168,1,8⟩),
  (168,⟨.st [(0,43, "b"),(1,3, "p")] (Ty.pair (Ty.sl (Ty.int .u8)) (Ty.pair (Ty.int .i64) Ty.unit)),2,32⟩),
  (137,⟨.other,1,0⟩),
  (111,⟨.other,1,8⟩),
  (145,⟨.other,1,0⟩),
  (174,⟨.ptr 75,1,8⟩),
  (179,⟨.other,1,8⟩),
  (192,⟨.other,1,0⟩),
  (191,⟨.sl 236 aH,1,24⟩),
  (236,⟨.st [(0,73, "columns"),(1,3, "most")] aH,2,32⟩),
  (196,⟨.other,1,0⟩),
  (204,⟨.sl 71 (Ty.sl (Ty.sl af)),1,24⟩),
  (224,⟨.other,1,0⟩),
  (230,⟨.other,1,0⟩),
  (229,⟨.sl 73 (Ty.sl ag),1,24⟩),
  (232,⟨.other,1,0⟩),
  (237,⟨.other,1,0⟩),
  (172,⟨.other,1,8⟩),
  (200,⟨.other,1,8⟩),
  (251,⟨.sl 9 Ty.str,1,24⟩),
  (247,⟨.other,1,8⟩),
  (266,⟨.val (Ty.int .u64),1,8⟩)]
def GD:List TypeId:=[118]
theorem tab_check:Cc P tab tab=true:=by kernel_rfl
theorem wJ:El P tab GD=true:=by kernel_rfl
theorem mixed:P.follows .mixedOrders=true:=by kernel_rfl
abbrev cx (l:Cons) (n:Nat) (inl:List (Nat×Inl)) (off:Nat) (deep:Bool):Ctx:=⟨tab,fun t=>jJ t GD,l,n,inl,off,deep,false⟩
abbrev cx2 (l:Cons) (n:Nat) (inl:List (Nat×Inl)) (off:Nat) (deep:Bool):Ctx:=⟨tab,fun t=>jJ t GD,l,n,inl,off,deep,true⟩
theorem bA (C:Ctx) {f:FuncId} {fn:Func} {con:Con} (hf:P.funcs[f]? = some fn) (hC:eL P C) (hcon:∀args hp K,con.run args hp K->(Nat.ble args.length fn.ntmps&&Nat.ble args.length bV)=true/\∃(ann:Nat->List Dir) (L:bK) (k:RK),(∀p∈bQ (dO fn),dn C L ann p.1 p.2)/\vcT C L ann fn args hp k K)
    (hT:TabOk P C:=by exact Cu tab_check wJ) (hq:((fn.name == "runtime.NumGoroutine")||fn.body.isNone)=false:=by kernel_rfl) (hN:C.n=fn.ntmps:=by rfl):bt P f con:=Kh [] hT mixed hf hq hC hN hcon
theorem Gt (ds:List (Nat×Bool)) (C:Ctx) {f:FuncId} {fn:Func} {con:Con} (hf:P.funcs[f]? = some fn) (hC:eL P C) (hcon:∀args hp K,con.run args hp K->(Nat.ble args.length fn.ntmps&&Nat.ble args.length bV)=true/\∃(ann:Nat->List Dir) (L:bK) (k:RK),(∀p∈bQ (dO (qY ds fn)),dn C L ann p.1 p.2)/\vcT C L ann (qY ds fn) args hp k K)
    (hT:TabOk P C:=by exact Cu tab_check wJ) (hq:((fn.name == "runtime.NumGoroutine")||fn.body.isNone)=false:=by kernel_rfl) (hN:C.n=fn.ntmps:=by rfl):bt P f con:=Kh ds hT mixed hf hq hC hN hcon
theorem wA (C:Ctx) {f:FuncId} {fn:Func} (hf:P.funcs[f]? = some fn) (hC:eL P C) {ann:Nat->List Dir} (hT:TabOk P C:=by exact Cu tab_check wJ) (hq:((fn.name == "runtime.NumGoroutine")||fn.body.isNone)=false:=by kernel_rfl) (hN:C.n=fn.ntmps:=by rfl)
    (hl:bQ (dO fn)=[]:=by kernel_rfl):sw P f (rR C ann (dO fn) fn.results.toList):=Le hT mixed hf hq hC hN hl
abbrev nT (xs:List ai.D) (i:Int):ai.D:=@nth ai xs i
abbrev nS (xs:List ah.D) (i:Int):ah.D:=@nth ah xs i
abbrev nC (xs:List ag.D) (i:Int):ag.D:=@nth ag xs i
abbrev nI (xs:List aE.D) (i:Int):aE.D:=@nth aE xs i
abbrev nP (xs:List aD.D) (i:Int):aD.D:=@nth aD xs i
abbrev nM (xs:List aH.D) (i:Int):aH.D:=@nth aH xs i
abbrev nG (xs:List aI.D) (i:Int):aI.D:=@nth aI xs i
abbrev nV (xs:List af.D) (i:Int):af.D:=@nth af xs i
abbrev Z0:Int:=0
abbrev Z1:Int:=1
abbrev Z2:Int:=2
abbrev Z3:Int:=3
abbrev Z4:Int:=4
abbrev Z5:Int:=5
abbrev Z6:Int:=6
abbrev dI (n:Int):AV:=.data aE n
abbrev dB (b:Bool):AV:=.data Ty.bool b
abbrev KA:Type:=AV->Hp->Prop
abbrev KX:Type:=X->St->Prop
abbrev TBy:Ty:=.sl (.int .u8)
abbrev LI:Type:=List Int
abbrev LLI:Type:=List LI
end Go.AE
end
section
namespace Go.AE
open Go Go.RowKit
set_option linter.unusedVariables false
def M.cV (rows:List (List af.D)) (row:List af.D):Nat:=rows.countP fun r=>decide (r=row)
def M.fK (out:List (List af.D)) (r:List af.D):List (List af.D):=cond (decide ((cV out r:Int)=(0:Int))) (out++[r]) out
def M.gC (rows:List (List af.D)):List (List af.D):=rows.foldl fK []
def M.joined (e:List aD.D) (r:List af.D) (rows:List (List af.D)):List (List af.D):=(rows.map fun q=>r++q).filter fun x=>holds x e
def M.cu (LK:List ai.D) (LN:List (List (List af.D))) (s:ah.D):List (List af.D):=
 cond (decide (s.1=(1:Int))) (@nth ai LK s.2.2.2.1).2.1
 (cond (decide (s.1=(2:Int))) (List.filter (fun r=>holds r s.2.2.2.2.1) (nth (t:=.sl (.sl af)) LN s.2.1))
 (cond (decide (s.1=(3:Int))) (List.map (fun r=>taken r s.2.2.2.2.2.1) (nth (t:=.sl (.sl af)) LN s.2.1))
 (cond (decide (s.1=(4:Int))) (List.flatMap (fun r=>joined s.2.2.2.2.1 r (nth (t:=.sl (.sl af)) LN s.2.2.1)) (nth (t:=.sl (.sl af)) LN s.2.1))
 (cond (decide (s.1=(5:Int))) (nth (t:=.sl (.sl af)) LN s.2.1++nth (t:=.sl (.sl af)) LN s.2.2.1:List (List af.D))
 (cond (decide (s.1=(6:Int))) (gC (nth (t:=.sl (.sl af)) LN s.2.1)) [])))))
def M.yW (R:List (List af.D)):Prop:=R.length<=300/\∀r∈R,r.length<=4
def M.sI (LK:List ai.D) (LN:List (List (List af.D))) (s:ah.D):Prop:=
 (s.1=(1:Int)->0<=s.2.2.2.1/\s.2.2.2.1<(LK.length:Int))/\pg (LN.length:Int) s ∧
 (¬s.1=(1:Int)->yW (nth (t:=.sl (.sl af)) LN s.2.1)/\yW (nth (t:=.sl (.sl af)) LN s.2.2.1)) ∧
 (s.1=(2:Int)->∀r∈(nth (t:=.sl (.sl af)) LN s.2.1:List (List af.D)),fG r.length s.2.2.2.2.1) ∧
 (s.1=(3:Int)->∀r∈(nth (t:=.sl (.sl af)) LN s.2.1:List (List af.D)),BJ r s.2.2.2.2.2.1) ∧
 (s.1=(4:Int)->∀r∈(nth (t:=.sl (.sl af)) LN s.2.1:List (List af.D)),∀q∈(nth (t:=.sl (.sl af)) LN s.2.2.1:List (List af.D)),fG (r++q:List af.D).length s.2.2.2.2.1)
def M.fD (LK:List ai.D) (all:List (List (List af.D))) (s:ah.D):List (List (List af.D)):=all++[cu LK all s]
def M.cQ (LK:List ai.D) (plan:List ah.D):List (List (List af.D)):=plan.foldl (fD LK) []
def M.dZ (LK:List ai.D) (plan:List ah.D):List (List af.D):=cond (bU LK plan) (nth (t:=.sl (.sl af)) (cQ LK plan) ((plan.length:Int)-1)) []
namespace M
theorem DJ (out:List (List af.D)) (r:List af.D):(fK out r).length<=out.length+1/\∀x∈fK out r,x∈out\/x=r:=by
 unfold fK
 cases decide ((cV out r:Int)=(0:Int)) with
 | true=>
  refine⟨by simp,fun x hx=>?_⟩
  rcases List.mem_append.1 hx with h | h
  ·exact .inl h
  ·exact .inr (List.mem_singleton.1 h)
 | false=>exact⟨by show out.length<=out.length+1;omega,fun x hx=>.inl hx⟩
theorem vo (rows:List (List af.D)):(gC rows).length<=rows.length/\∀x∈gC rows,x∈rows:=by
 have key:∀(l:List (List af.D)) (out:List (List af.D)),(l.foldl fK out).length<=out.length+l.length/\∀x∈l.foldl fK out,x∈out\/x∈l:=by
  intro l
  induction l with
  | nil=>intro out;exact⟨by simp,fun x hx=>.inl hx⟩
  | cons y l ih=>
   intro out
   obtain⟨h1,h2⟩:=ih (fK out y)
   obtain⟨h3,h4⟩:=DJ out y
   refine⟨by rw[List.foldl_cons,List.length_cons];omega,fun x hx=>?_⟩
   rcases h2 x hx with h | h
   ·rcases h4 x h with h | h
    ·exact .inl h
    ·exact .inr (by simp[h])
   ·exact .inr (by simp[h])
 have:=key rows []
 refine⟨by have:=this.1;unfold gC;simpa using this,fun x hx=>?_⟩
 rcases this.2 x hx with h | h
 ·cases h
 ·exact h
theorem Aj (e:List aD.D) (r:List af.D) (rows:List (List af.D)):(joined e r rows).length<=rows.length:=by
 unfold joined
 refine Nat.le_trans (List.length_filter_le _ _) ?_
 rw[List.length_map]
 exact Nat.le_refl _
theorem EB {α β:Type} (f:α->List β) (n:Nat):∀(xs:List α),(∀x∈xs,(f x).length<=n)->(xs.flatMap f).length<=xs.length * n
 | [],_=>by simp
 | x::xs,h=>by
  have h1:=h x (by simp)
  have h2:=EB f n xs (fun y hy=>h y (by simp[hy]))
  rw[List.flatMap_cons,List.length_append,List.length_cons,Nat.succ_mul]
  omega
def Rows (st:fC) (all:List (List (List af.D))):Prop:=all.length=st.1.length/\st.2.length=st.1.length/\∀j:Int,0<=j->j<(all.length:Int) →
 ((nth (t:=.sl (.sl af)) all j:List (List af.D)).length:Int)<=nth (t:=.int .i64) st.2 j/\nth (t:=.int .i64) st.2 j<=300/\(nth (t:=.sl ag) st.1 j:List ag.D).length<=4 ∧
 Sm (.sl (.sl af)) (nth (t:=.sl (.sl af)) all j)/\∀r∈(nth (t:=.sl (.sl af)) all j:List (List af.D)),r.length=(nth (t:=.sl ag) st.1 j:List ag.D).length
theorem pW {st:fC} {all:List (List (List af.D))} (h:Rows st all) {R:List (List af.D)} {c:List ag.D} {m:Int} (h1:(R.length:Int)<=m) (h2:m<=300) (h3:c.length<=4) (h4:Sm (.sl (.sl af)) R) (h5:∀r∈R,r.length=c.length) :
  Rows (st.1++[c],st.2++[m]) (all++[R]):=by
 obtain⟨l1,l2,h⟩:=h
 refine⟨by simp[l1],by simp[l2],fun j j0 j1=>?_⟩
 by_cases hj:j=(all.length:Int)
 ·rw[fm (t:=.sl (.sl af)) hj,fm (t:=.int .i64) (by rw[hj,l1,l2]),fm (t:=.sl ag) (by rw[hj,l1])]
  exact⟨h1,h2,h3,h4,h5⟩
 ·have hlt:j<(all.length:Int):=by simp at j1;omega
  rw[gF (t:=.sl (.sl af)) j0 hlt,gF (t:=.int .i64) j0 (by rw[l2,<-l1];exact hlt),gF (t:=.sl ag) j0 (by rw[<-l1];exact hlt)]
  exact h j j0 hlt
end M
end Go.AE
end
