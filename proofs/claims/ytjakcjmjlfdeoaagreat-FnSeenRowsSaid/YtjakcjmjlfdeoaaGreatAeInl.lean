/- Small functions, followed in place: what the caller knows goes along. -/
import Derived.Test.YtjakcjmjlfdeoaaGreatAeX
import Derived.Test.YtjakcjmjlfdeoaaGreatChecked
import Derived.Test.YtjakcjmjlfdeoaaGreatAeMQ
import Derived.KernelRfl
section
namespace Go.AE
open Go Go.RowKit
def mQ:Env->Env
 | []=>[]
 | (j,v)::l=>(Nat.add j bW,v)::mQ l
def nu:Env->Env
 | []=>[]
 | (j,v)::l=>bif Nat.ble bW j then (Nat.sub j bW,v)::nu l else nu l
def CI (E:Tab) (deep:Bool) (rs:List ResultVar) (K:AV->St->Prop) (s:St):Prop:=match rs with
 | [r]=>cL (qP E deep s r) fun p=>K p.1 ⟨nu p.2.env,p.2.hp⟩
 | rs=>cL (rF E deep rs s) fun p=>K (.tup p.1) ⟨nu p.2.env,p.2.hp⟩
def JQ (E:Tab) (deep:Bool) (rs:List ResultVar) (K:AV->St->Prop):X->St->Prop
 | .normal,s=>CI E deep rs K s
 | .ret,s=>CI E deep rs K s
 | .exit _,_=>False
def aA:bE:=fun _ _ _ _=>False
def sO (C:Ctx) (ann:Nat->List Dir) (code:Code) (rs:List ResultVar):Inl:=fun args s K=>
 bif Nat.ble args.length C.n&&Nat.ble C.n bW then awp C aA ann code ⟨nR 0 args++mQ s.env,s.hp⟩ (JQ C.tab C.deep rs K) else False
theorem lookup_append {α:Type}:∀(l k:List (Nat×α)) (j:Nat),lookup (l++k) j=match lookup l j with | some v=>some v | none=>lookup k j
 | [],k,j=>by simp[lookup]
 | (i,x)::l,k,j=>by
  rw[List.cons_append,lookup_cons,lookup_cons]
  by_cases h:i=j
  ·rw[if_pos h,if_pos h]
  ·rw[if_neg h,if_neg h]
   exact lookup_append l k j
theorem vK:∀(e:Env) (j:Nat) (v:AV),lookup (mQ e) j=some v->∃k,j=k+bW/\lookup e k=some v
 | [],j,v,h=>by simp[mQ,lookup] at h
 | (i,x)::l,j,v,h=>by
  unfold mQ at h
  rw[lookup_cons] at h
  split at h
  ·rename_i e
   cases h
   exact⟨i,e.symm,by rw[lookup_cons,if_pos rfl]⟩
  ·rename_i hne
   obtain⟨k,hk,hl⟩:=vK l j v h
   refine⟨k,hk,?_⟩
   rw[lookup_cons,if_neg ?_]
   ·exact hl
   ·rintro rfl
    exact hne hk.symm
theorem mW:∀(e:Env) (k:Nat) (v:AV),lookup (nu e) k=some v->lookup e (k+bW)=some v
 | [],k,v,h=>by simp[nu,lookup] at h
 | (i,x)::l,k,v,h=>by
  unfold nu at h
  cases hb:Nat.ble bW i with
  | false=>
   rw[hb] at h
   have hlt:¬bW<=i:=by intro hc;rw[Nat.ble_eq_true_of_le hc] at hb;cases hb
   rw[lookup_cons,if_neg (by omega)]
   exact mW l k v h
  | true=>
   rw[hb] at h
   simp only[cond_true] at h
   have hle:bW<=i:=Nat.le_of_ble_eq_true hb
   rw[lookup_cons] at h
   have hs:Nat.sub i bW=i-bW:=rfl
   split at h
   ·rename_i e
    rw[hs] at e
    cases h
    rw[lookup_cons,if_pos (by omega)]
   ·rename_i e
    rw[hs] at e
    rw[lookup_cons,if_neg (by omega)]
    exact mW l k v h
section
variable {P:Program} {C:Ctx} {g:Gl} {N:Nat} {s:St} {a:Act} {w:World} {φ:Names}
def AT (g:Gl) (gh:Nat->Value):Gl:={ g with gh:=gh }
def At (g:Gl) (a:Act) (gh:Nat->Value):Prop:=∀k,gh (k+bW)=valOf g a k
theorem EN (g:Gl) (a:Act):∃gh,At g a gh:=⟨fun j=>valOf g a (j-bW),fun k=>by simp only[Nat.add_sub_cancel]⟩
theorem xw (gh:Nat->Value) {hp:Hp} {n:Nat}:imm (AT g gh) φ hp n=imm g φ hp n:=by unfold imm AT;rfl
theorem sF (gh:Nat->Value):aO (AT g gh)=aO g:=by unfold aO AT;rfl
theorem De {gh:Nat->Value} {a a':Act} {k:Nat} (hg:At g a gh):valOf (AT g gh) a' (k+bW)=valOf g a k:=by
 have hb:Nat.blt (k+bW) bW=false:=by
  cases hb:Nat.blt (k+bW) bW with
  | false=>rfl
  | true=>rw[Nat.blt_eq] at hb;omega
 unfold valOf
 rw[hb]
 simp only[cond_false,AT]
 exact hg k
theorem Jl {gh:Nat->Value} (hg:At g a gh) {hp:Hp} {args:List AV} {vals:List Value} {n:Nat} {e:Env} (hv:ax w (imm g φ hp w.heap.size) (aO g) φ hp args vals) (he:∀j av,lookup e j=some av->ak w (imm g φ hp w.heap.size) (aO g) φ hp av (valOf g a j))
  (hle:args.length<=n) (hgl:n<=bW) (j:Nat) (av:AV) (hj:lookup (nR 0 args++mQ e) j=some av) :
  ak w (imm g φ hp w.heap.size) (aO g) φ hp av (valOf (AT g gh) { tmps:=vals.toArray++Array.replicate (n-vals.toArray.size) undef,defers:=[] } j):=by
 have hlen:=hv.length
 rw[lookup_append] at hj
 split at hj
 ·rename_i v hla
  cases hj
  obtain⟨_,u,h1,h2⟩:=rO hv j av hla
  have h1:vals[j]? = some u:=by simpa using h1
  have hlt:j<vals.length:=(List.getElem?_eq_some_iff.1 h1).1
  have hu:(vals.toArray++Array.replicate (n-vals.toArray.size) undef).getD j undef=u:=by
   rw[Array.getD_eq_getD_getElem?,Array.getElem?_append_left (by simpa using hlt)]
   simp[h1]
  have hjg:Nat.blt j bW=true:=by rw[Nat.blt_eq];omega
  unfold valOf
  rw[hjg]
  simp only[cond_true]
  rw[hu]
  exact h2
 ·obtain⟨k,hk0,hk⟩:=vK _ _ _ hj
  rw[hk0,De hg]
  exact he k av hk
theorem Jq {gh:Nat->Value} (hg:At g a gh) {args:List AV} {vals:List Value} {n:Nat} (h:Sim g N s a w φ) (hv:ax w (imm g φ s.hp w.heap.size) (aO g) φ s.hp args vals) (hle:args.length<=n) (hgl:n<=bW) :
  Sim (AT g gh) n ⟨nR 0 args++mQ s.env,s.hp⟩ { tmps:=vals.toArray++Array.replicate (n-vals.toArray.size) undef,defers:=[] } w φ:=by
 have hlen:=hv.length
 refine⟨rfl,by simp;omega,h.os,h.tape,h.output,h.hsize,h.frame,h.inj,h.apart,h.place,fun i blk hi=>?_,fun j av hj=>?_,h.pinned⟩
 ·rw[xw,sF]
  exact h.blocks i blk hi
 ·rw[xw,sF]
  exact Jl hg hv h.env hle hgl j av hj
theorem FQ {gh:Nat->Value} (hg:At g a gh) {a':Act} {w':World} {s1:St} {φ1:Names} {n:Nat} (h:Sim g N s a w φ) (hs:Sim (AT g gh) n s1 a' w' φ1):Sim g N ⟨nu s1.env,s1.hp⟩ a w' φ1:=by
 refine⟨h.defers,h.size,hs.os,hs.tape,hs.output,hs.hsize,hs.frame,hs.inj,hs.apart,hs.place,fun i blk hi=>?_,fun k av hk=>?_,hs.pinned⟩
 ·have:=hs.blocks i blk hi
  rw[xw,sF] at this
  exact this
 ·have:=hs.env _ _ (mW _ _ _ hk)
  rw[xw,sF,De hg] at this
  exact this
theorem Js (hT:TabOk P C) (hC:dN P C) (hm:P.follows .mixedOrders=true) {f:FuncId} {fn:Func} {code:Code} (hf:P.funcs[f]? = some fn) (hb:fn.body=some code) (hN:C.n=fn.ntmps) {ann:Nat->List Dir} (hl:bU code=[]) :
  FW P f (sO C ann code fn.results.toList):=by
 intro g N s a w φ args vals K h hv hop
 unfold sO at hop
 cases hq:(Nat.ble args.length C.n&&Nat.ble C.n bW) with
 | false=>rw[hq] at hop;exact hop.elim
 | true=>
 rw[hq] at hop
 simp only[cond_true] at hop
 obtain⟨hq1,hq2⟩:=Bool.and_eq_true_iff.1 hq
 have hle:args.length<=fn.ntmps:=by rw[<-hN];exact Nat.le_of_ble_eq_true hq1
 have hgl:fn.ntmps<=bW:=by rw[<-hN];exact Nat.le_of_ble_eq_true hq2
 obtain⟨gh,hg⟩:=EN g a
 have hS:=Jq hg h hv hle hgl
 refine calls_of_wp hf hb (wp_mono (HG (L:=aA) (ann:=ann) hT hC hN hm code (by rw[hl];intro p hp;cases hp) _ _ _ _ φ hS hop) ?_)
 intro e a' w' hq
 have fin:(∃s1 φ1,CI C.tab C.deep fn.results.toList K s1/\Sim (AT g gh) fn.ntmps s1 a' w' φ1)->a'.defers=[]/\∃u,(results fn a'.tmps).run P w'=.ok u w' ∧
   ∃v s' φ',K v s'/\Sim g N s' a w' φ'/\ak w' (imm g φ' s'.hp w'.heap.size) (aO g) φ' s'.hp v u:=by
  rintro ⟨s1,φ1,hk,hs⟩
  refine⟨hs.defers,?_⟩
  unfold CI at hk
  split at hk
  ·rename_i r ht
   obtain⟨p,hp,hk⟩:=aL hk
   obtain⟨u,hrun,h1,_,hv⟩:=vw hT hs (show qP C.tab _ s1 r=some (p.1,p.2) from hp)
   rw[xw,sF] at hv
   refine⟨u,?_,p.1,_,φ1,hk,FQ hg h h1,hv⟩
   rw[jo (us:=[u]) (by rw[ht];exact .cons hrun .nil)]
   simp
  ·rename_i hne
   obtain⟨p,hp,hk⟩:=aL hk
   obtain⟨us,h1,_,h3,h4⟩:=tH hT hs (show rF C.tab _ fn.results.toList s1=some (p.1,p.2) from hp)
   rw[xw,sF] at h4
   have hlen:¬us.toArray.size=1:=by
    intro e
    have e:us.length=1:=e
    rw[<-h3.length_eq] at e
    match hq:fn.results.toList,e with
    | [r],_=>exact hne r hq
   refine⟨_,jo h3,.tup p.1,_,φ1,hk,FQ hg h h1,?_⟩
   rw[dif_neg hlen]
   simp only[ak]
   exact⟨_,rfl,h4⟩
 cases e with
 | normal=>exact fin hq
 | ret=>exact fin hq
 | exit i=>obtain⟨s,φ,hk,_⟩:=hq;exact hk.elim
 | goto l=>exact hq.elim
 | panic c=>exact hq.elim
 | outgrown=>exact hq.elim
end
theorem ln_of_fine:∀{t:Ty} {x:t.D},wP t x->Ln t x
 | .int _,_,_=>trivial
 | .bool,_,_=>trivial
 | .str,_,h=>by
  have h:(_:ByteArray).size<=Go.maxLen:=h
  exact h
 | .unit,_,_=>trivial
 | .sl _,_,h=>⟨h.1,fun y hy=>ln_of_fine (h.2 y hy)⟩
 | .pair _ _,_,h=>⟨ln_of_fine h.1,ln_of_fine h.2⟩
end Go.AE
end
section
namespace Go.AE
open Go Go.RowKit
abbrev LD {α:Type} (x:α) (p:α->Prop):Prop:=∀r,r=x->p r
structure Pat (α:Type) where
 av:α->AV
 run:AV->(α->Prop)->Prop
 elim:∀{v:AV} {k:α->Prop},run v k->∃x,v=av x/\k x
abbrev pD (t:Ty):Pat t.D:=⟨fun x=>.data t x,eV t,bw⟩
abbrev pB (t:Ty):Pat (List t.D):=⟨fun x=>.brw t x,nH t,dV⟩
abbrev pA (t:Ty):Pat t.D:=⟨fun x=>.adr t x,Fs t,zY⟩
abbrev pR (t:Ty):Pat t.D:=⟨fun x=>.ref (.data t x),Ac t,mP⟩
abbrev pQ (t:Ty):Pat (List t.D):=⟨fun x=>.ref (.brw t x),Ew t,Dj⟩
section
variable {α β γ δ ε:Type} {l:List AV} {hp:Hp}
def g1 (p:Pat α) (F:α->Prop) (l:List AV) (hp:Hp):Prop:=args1 (fun a=>p.run a F) l hp
def g2 (p:Pat α) (q:Pat β) (F:α->β->Prop) (l:List AV) (hp:Hp):Prop:=args2 (fun a b=>p.run a fun x=>q.run b fun y=>F x y) l hp
def g3 (p:Pat α) (q:Pat β) (r:Pat γ) (F:α->β->γ->Prop) (l:List AV) (hp:Hp):Prop:=uM (fun a b c=>p.run a fun x=>q.run b fun y=>r.run c fun z=>F x y z) l hp
def g4 (p:Pat α) (q:Pat β) (r:Pat γ) (s:Pat δ) (F:α->β->γ->δ->Prop) (l:List AV) (hp:Hp):Prop:=FT (fun a b c d=>p.run a fun x=>q.run b fun y=>r.run c fun z=>s.run d fun u=>F x y z u) l hp
theorem g1e {p:Pat α} {F:α->Prop} (h0:g1 p F l hp):∃x,l=[p.av x]/\hp=[]/\F x:=by
 obtain⟨a,rfl,rfl,h1⟩:=zM h0
 obtain⟨x,rfl,h2⟩:=p.elim h1
 exact⟨x,rfl,rfl,h2⟩
theorem g2e {p:Pat α} {q:Pat β} {F:α->β->Prop} (h0:g2 p q F l hp):∃x y,l=[p.av x,q.av y]/\hp=[]/\F x y:=by
 obtain⟨a,b,rfl,rfl,h1⟩:=ck h0
 obtain⟨x,rfl,h2⟩:=p.elim h1
 obtain⟨y,rfl,h3⟩:=q.elim h2
 exact⟨x,y,rfl,rfl,h3⟩
theorem g3e {p:Pat α} {q:Pat β} {r:Pat γ} {F:α->β->γ->Prop} (h0:g3 p q r F l hp):∃x y z,l=[p.av x,q.av y,r.av z]/\hp=[]/\F x y z:=by
 obtain⟨a,b,c,rfl,rfl,h1⟩:=jk h0
 obtain⟨x,rfl,h2⟩:=p.elim h1
 obtain⟨y,rfl,h3⟩:=q.elim h2
 obtain⟨z,rfl,h4⟩:=r.elim h3
 exact⟨x,y,z,rfl,rfl,h4⟩
end
def hpR (F:List Int->Int->Prop) (hp:Hp):Prop:=match hp with
 | [(k,.box [.data u b,.data v p])]=>(match Ty.eq? u (.sl (.int .u8)),Ty.eq? v (.int .i64) with
  | some ⟨h⟩,some ⟨h'⟩=>bif Nat.beq k base then F (dG h b) (dG h' p) else False
  | _,_=>False)
 | _=>False
theorem fk {F:List Int->Int->Prop} {hp:Hp} (h:hpR F hp):∃(b:List Int) (p:Int),hp=[(1000000,.box [.data (.sl (.int .u8)) b,.data (.int .i64) p])]/\F b p:=by
 unfold hpR at h
 split at h
 ·rename_i k u b v p
  split at h
  ·rename_i h1 h2 _ _
   cases h1
   cases h2
   rcases bt k base with⟨rfl,hb⟩ | ⟨_,hb⟩
   ·rw[hb] at h
    exact⟨b,p,rfl,h⟩
   ·rw[hb] at h
    exact h.elim
  ·exact h.elim
 ·exact h.elim
def mV (a:AV) (F:Prop):Prop:=match a with
 | .ptr k 0=>bif Nat.beq k base then F else False
 | _=>False
theorem cW {a:AV} {F:Prop} (h:mV a F):a=.ptr 1000000 0/\F:=by
 unfold mV at h
 split at h
 ·rename_i k
  rcases bt k base with⟨rfl,hb⟩ | ⟨_,hb⟩
  ·rw[hb] at h;exact⟨rfl,h⟩
  ·rw[hb] at h;exact h.elim
 ·exact h.elim
theorem oG {α:Type} {p q:Prop} {x:Option α} {K:α->Prop} (h:ok (af p x) K) (k:p->ok x K->q):p/\q:=⟨(aF h).1,k (aF h).1 (aF h).2⟩
theorem oL {α β:Type} {x:α} {f:α->Option β} {K:β->Prop} {Q:α->Prop} (h:ok (aK x f) K) (k:∀r,r=x->ok (f r) K->Q r):∀r,r=x->Q r:=fun r e=>k r e (cB h r e)
theorem oC {α:Type} {b:Bool} {x y:Option α} {K:α->Prop} {T U:Prop} (h:ok (cond b x y) K) (h1:b=true->ok x K->T) (h2:b=false->ok y K->U):cond b T U:=IC h h1 h2
def Hv:Nat->Nat->Nat->List Nat
 | 0,_,_=>[]
 | f+1,i,b=>bif Nat.beq b 0 then [] else bif Nat.beq (Nat.mod b 2) 1 then i::Hv f (Nat.succ i) (Nat.div b 2) else Hv f (Nat.succ i) (Nat.div b 2)
def kp (b:Nat):Dir:=.keep (Hv 400 0 b)
def HW:List (List Dir)->Nat->List Dir
 | [],_=>[]
 | d::l,n=>match n with
  | 0=>d
  | k+1=>HW l k
def an (l m:List (List Dir)) (n:Nat):List Dir:=bif Nat.blt n 100000 then HW l n else HW m (Nat.sub n 100000)
def lp1 (a:Nat) (A:Nat->St->(X->St->Prop)->Prop):bE:=fun id m s K=>bif Nat.beq id a then A m s K else False
def lp2 (a:Nat) (A:Nat->St->(X->St->Prop)->Prop) (b:Nat) (B:Nat->St->(X->St->Prop)->Prop):bE:=fun id m s K=>bif Nat.beq id a then A m s K else bif Nat.beq id b then B m s K else False
abbrev vcT (C:Ctx) (L:bE) (ann:Nat->List Dir) (fn:Func) (args:List AV) (hp:Hp) (k:RK) (K:AV->Hp->Prop):Prop:=
 awp C L ann (dr fn) ⟨nR 0 args,hp⟩ (JI C.tab C.deep fn.results.toList (ED hp) (EZ k K))
abbrev lvT (C:Ctx) (L:bE) (ann:Nat->List Dir) (fn:Func) (n id:Nat) (s:St) (m:Nat) (K:X->St->Prop):Prop:=
 awp C L ann (dc (dr fn) n) s (HL (fun s'=>∃m',m'<m/\L id m' s' K) (Dq id (ann (behind id)) K))
abbrev nxT (A:Nat->St->(X->St->Prop)->Prop) (m:Nat) (K:X->St->Prop) (s:St):Prop:=∃m_,m_<m/\A m_ s K
def bg (P:Program) (f:FuncId) (con:Con):Prop:=(∀args w,(callFunc f args).run P w=.ok (.enter f args) w)/\zT P f con
def uj (P:Program) (f:FuncId) (T:Inl):Prop:=(∀args w,(callFunc f args).run P w=.ok (.enter f args) w)/\FW P f T
section
variable {P:Program} {E:Tab} {c:TypeId->Bool} {n off:Nat} {deep:Bool} {f:FuncId} {con:Con} {T:Inl} {l:Cons} {inl:List (Nat×Inl)}
theorem kC (h1:bg P f con) (h:dN P ⟨E,c,l,n,inl,off,deep⟩):dN P ⟨E,c,(f,con)::l,n,inl,off,deep⟩:=DY h1.1 h1.2 h
theorem kI (h1:uj P f T) (h:dN P ⟨E,c,[],n,inl,off,deep⟩):dN P ⟨E,c,[],n,(f,T)::inl,off,deep⟩:=Ex h1.1 h1.2 h
theorem kN:dN P ⟨E,c,[],n,[],off,deep⟩:=EX
end
def si (ds:List (Nat×Bool)) (fn:Func):Func:=match ds with
 | []=>fn
 | ds=>{ fn with body:=fn.body.map (fR ds) }
theorem Ja {P:Program} {C:Ctx} (ds:List (Nat×Bool)) (hT:TabOk P C) (hm:P.follows .mixedOrders=true) {f:FuncId} {fn:Func} {con:Con} (hf:P.funcs[f]? = some fn) (hq:((fn.name == "runtime.NumGoroutine")||fn.body.isNone)=false) (hC:dN P C) (hN:C.n=fn.ntmps)
  (hcon:∀args hp K,con.run args hp K->(Nat.ble args.length fn.ntmps&&Nat.ble args.length bW)=true/\∃(ann:Nat->List Dir) (L:bE) (k:RK),(∀p∈bU (dr (si ds fn)),dh C L ann p.1 p.2)/\vcT C L ann (si ds fn) args hp k K):bg P f con:=by
 obtain⟨hq1,hq2⟩:=Bool.or_eq_false_iff.1 hq
 have hb:fn.body=some (dr fn):=by
  unfold dr
  cases h:fn.body with
  | none=>rw[h] at hq2;cases hq2
  | some c=>rfl
 have he:dr (si ds fn)=fR ds (dr fn):=by
  cases ds with
  | nil=>exact(kO _).symm
  | cons d l=>unfold si dr at *;rw[hb];rfl
 have hr:(si ds fn).results=fn.results:=by cases ds<;>rfl
 refine⟨Dr hf hq1 hq2,Ip (ds:=ds) hT hC hm hf hb hN fun args hp K h=>?_⟩
 obtain⟨h1,h2⟩:=hcon args hp K h
 obtain⟨h3,h4⟩:=Bool.and_eq_true_iff.1 h1
 unfold vcT at h2
 rw[he,hr] at h2
 exact⟨⟨Nat.le_of_ble_eq_true h3,Nat.le_of_ble_eq_true h4⟩,h2⟩
theorem JM {P:Program} {C:Ctx} (hT:TabOk P C) (hm:P.follows .mixedOrders=true) {f:FuncId} {fn:Func} (hf:P.funcs[f]? = some fn) (hq:((fn.name == "runtime.NumGoroutine")||fn.body.isNone)=false) (hC:dN P C) (hN:C.n=fn.ntmps) {ann:Nat->List Dir}
  (hl:bU (dr fn)=[]):uj P f (sO C ann (dr fn) fn.results.toList):=by
 obtain⟨hq1,hq2⟩:=Bool.or_eq_false_iff.1 hq
 have hb:fn.body=some (dr fn):=by
  unfold dr
  cases h:fn.body with
  | none=>rw[h] at hq2;cases hq2
  | some c=>rfl
 exact⟨Dr hf hq1 hq2,Js hT hC hm hf hb hN hl⟩
end Go.AE
end
section
namespace Go.AE
open Go Go.RowKit
noncomputable abbrev P:Program:=Go.Proofs.Tryz.prog
def tab:Tab:=[(4,⟨.val Ty.bool,1,1⟩),
  (22,⟨.sl 5 (Ty.int .u8),1,24⟩),
  (5,⟨.val (Ty.int .u8),1,1⟩),
  (3,⟨.val (Ty.int .i64),1,8⟩),
  (62,⟨.other,1,0⟩),
  (23,⟨.sl 32 aq,1,24⟩),
  (32,⟨.st [(0,29, "Columns"),(1,30, "Rows")] aq,2,48⟩),
  (29,⟨.sl 149 ag,1,24⟩),
  (149,⟨.st [(0,3, "Kind"),(1,4, "Empty")] ag,2,16⟩),
  (30,⟨.sl 42 (Ty.sl aa),1,24⟩),
  (42,⟨.sl 84 aa,1,24⟩),
  (84,⟨.st [(0,3, "Kind"),(1,3, "N"),(2,9, "S")] aa,3,32⟩),
  (9,⟨.val Ty.str,1,16⟩),
  (41,⟨.sl 57 aB,1,24⟩),
  (57,⟨.st [(0,3, "In"),(1,25, "E")] aB,2,32⟩),
  (25,⟨.sl 118 aC,1,24⟩),
  (118,⟨.st [(0,3, "Kind"),(1,3, "N"),(2,84, "V")] aC,5,48⟩),
  (24,⟨.sl 36 ah,1,24⟩),
  (36,⟨.st [(0,3, "Kind"),(1,3, "A"),(2,3, "B"),(3,3, "N"),(4,25, "E"),(5,34, "List")] ah,6,80⟩),
  (34,⟨.sl 3 (Ty.int .i64),1,24⟩),
  (53,⟨.other,1,0⟩),
  (71,⟨.other,1,0⟩),
  (70,⟨.sl 101 aI,1,24⟩),
  (101,⟨.st [(0,29, "columns"),(1,3, "most")] aI,2,32⟩),
  (74,⟨.other,1,0⟩),
  (73,⟨.sl 29 (Ty.sl ag),1,24⟩),
  (0,⟨.other,1,0⟩),
  (89,⟨.other,1,8⟩),
  (90,⟨.other,1,0⟩),
  (96,⟨.sl 30 (Ty.sl (Ty.sl aa)),1,24⟩),
  (47,⟨.other,1,0⟩),
  (65,⟨.ptr 114,1,8⟩),
  (114,⟨.st [(0,22, "b"),(1,3, "p")] (Ty.pair (Ty.sl (Ty.int .u8)) (Ty.pair (Ty.int .i64) Ty.unit)),2,32⟩),
  (50,⟨.other,1,0⟩),
  (112,⟨.other,1,8⟩),
  (120,⟨.other,1,0⟩),
  (122,⟨.other,1,0⟩),
  (146,⟨.other,1,0⟩),
  (129,⟨.other,1,8⟩),
  (194,⟨.sl 9 Ty.str,1,24⟩),
  (198,⟨.other,1,0⟩)]
def GU:List TypeId:=[4,84]
theorem tab_check:BP P tab tab=true:=by kernel_rfl
theorem wF:Em P tab GU=true:=by kernel_rfl
theorem mixed:P.follows .mixedOrders=true:=by kernel_rfl
abbrev cx (l:Cons) (n:Nat) (inl:List (Nat×Inl)) (off:Nat) (deep:Bool):Ctx:=⟨tab,fun t=>jv t GU,l,n,inl,off,deep⟩
theorem bq (C:Ctx) {f:FuncId} {fn:Func} {con:Con} (hf:P.funcs[f]? = some fn) (hC:dN P C) (hcon:∀args hp K,con.run args hp K->(Nat.ble args.length fn.ntmps&&Nat.ble args.length bW)=true/\∃(ann:Nat->List Dir) (L:bE) (k:RK),(∀p∈bU (dr fn),dh C L ann p.1 p.2)/\vcT C L ann fn args hp k K)
    (hT:TabOk P C:=by exact CS tab_check wF) (hq:((fn.name == "runtime.NumGoroutine")||fn.body.isNone)=false:=by kernel_rfl) (hN:C.n=fn.ntmps:=by rfl):bg P f con:=Ja [] hT mixed hf hq hC hN hcon
theorem HH (ds:List (Nat×Bool)) (C:Ctx) {f:FuncId} {fn:Func} {con:Con} (hf:P.funcs[f]? = some fn) (hC:dN P C) (hcon:∀args hp K,con.run args hp K->(Nat.ble args.length fn.ntmps&&Nat.ble args.length bW)=true/\∃(ann:Nat->List Dir) (L:bE) (k:RK),(∀p∈bU (dr (si ds fn)),dh C L ann p.1 p.2)/\vcT C L ann (si ds fn) args hp k K)
    (hT:TabOk P C:=by exact CS tab_check wF) (hq:((fn.name == "runtime.NumGoroutine")||fn.body.isNone)=false:=by kernel_rfl) (hN:C.n=fn.ntmps:=by rfl):bg P f con:=Ja ds hT mixed hf hq hC hN hcon
theorem yz (C:Ctx) {f:FuncId} {fn:Func} (hf:P.funcs[f]? = some fn) (hC:dN P C) {ann:Nat->List Dir} (hT:TabOk P C:=by exact CS tab_check wF) (hq:((fn.name == "runtime.NumGoroutine")||fn.body.isNone)=false:=by kernel_rfl) (hN:C.n=fn.ntmps:=by rfl)
    (hl:bU (dr fn)=[]:=by kernel_rfl):uj P f (sO C ann (dr fn) fn.results.toList):=JM hT mixed hf hq hC hN hl
abbrev nT (xs:List aq.D) (i:Int):aq.D:=nth (t:=aq) xs i
abbrev nS (xs:List ah.D) (i:Int):ah.D:=nth (t:=ah) xs i
abbrev nC (xs:List ag.D) (i:Int):ag.D:=nth (t:=ag) xs i
abbrev nI (xs:List aE.D) (i:Int):aE.D:=nth (t:=aE) xs i
abbrev nP (xs:List aC.D) (i:Int):aC.D:=nth (t:=aC) xs i
abbrev nM (xs:List aI.D) (i:Int):aI.D:=nth (t:=aI) xs i
abbrev nG (xs:List aB.D) (i:Int):aB.D:=nth (t:=aB) xs i
abbrev nV (xs:List aa.D) (i:Int):aa.D:=nth (t:=aa) xs i
abbrev Z0:Int:=0
abbrev Z1:Int:=1
abbrev Z2:Int:=2
abbrev Z3:Int:=3
abbrev Z4:Int:=4
abbrev Z5:Int:=5
abbrev Z6:Int:=6
abbrev dI (n:Int):AV:=.data aE n
abbrev dB (b:Bool):AV:=.data Ty.bool b
abbrev KA:Type:=AV->Hp->Prop
abbrev KX:Type:=X->St->Prop
abbrev TBy:Ty:=.sl (.int .u8)
abbrev LI:Type:=List Int
abbrev LLI:Type:=List LI
end Go.AE
end
section
namespace Go.AE
open Go Go.RowKit
set_option linter.unusedVariables false
def M.dH (rows:List (List aa.D)) (row:List aa.D):Nat:=rows.countP fun r=>decide (r=row)
def M.eR (out:List (List aa.D)) (r:List aa.D):List (List aa.D):=cond (decide ((dH out r:Int)=(0:Int))) (out++[r]) out
def M.eO (rows:List (List aa.D)):List (List aa.D):=rows.foldl eR []
def M.joined (e:List aC.D) (r:List aa.D) (rows:List (List aa.D)):List (List aa.D):=(rows.map fun q=>r++q).filter fun x=>holds x e
def M.bP (tables:List aq.D) (ahead:List (List (List aa.D))) (s:ah.D):List (List aa.D):=
 cond (decide (s.1=(1:Int))) (nth (t:=aq) tables s.2.2.2.1).2.1
 (cond (decide (s.1=(2:Int))) (List.filter (fun r=>holds r s.2.2.2.2.1) (nth (t:=.sl (.sl aa)) ahead s.2.1))
 (cond (decide (s.1=(3:Int))) (List.map (fun r=>taken r s.2.2.2.2.2.1) (nth (t:=.sl (.sl aa)) ahead s.2.1))
 (cond (decide (s.1=(4:Int))) (List.flatMap (fun r=>joined s.2.2.2.2.1 r (nth (t:=.sl (.sl aa)) ahead s.2.2.1)) (nth (t:=.sl (.sl aa)) ahead s.2.1))
 (cond (decide (s.1=(5:Int))) (nth (t:=.sl (.sl aa)) ahead s.2.1++nth (t:=.sl (.sl aa)) ahead s.2.2.1:List (List aa.D))
 (cond (decide (s.1=(6:Int))) (eO (nth (t:=.sl (.sl aa)) ahead s.2.1)) [])))))
def M.yS (R:List (List aa.D)):Prop:=R.length<=300/\∀r∈R,r.length<=4
def M.kA (tables:List aq.D) (ahead:List (List (List aa.D))) (s:ah.D):Prop:=
 (s.1=(1:Int)->0<=s.2.2.2.1/\s.2.2.2.1<(tables.length:Int))/\nK (ahead.length:Int) s ∧
 (¬s.1=(1:Int)->yS (nth (t:=.sl (.sl aa)) ahead s.2.1)/\yS (nth (t:=.sl (.sl aa)) ahead s.2.2.1)) ∧
 (s.1=(2:Int)->∀r∈(nth (t:=.sl (.sl aa)) ahead s.2.1:List (List aa.D)),bX r.length s.2.2.2.2.1) ∧
 (s.1=(3:Int)->∀r∈(nth (t:=.sl (.sl aa)) ahead s.2.1:List (List aa.D)),sY r s.2.2.2.2.2.1) ∧
 (s.1=(4:Int)->∀r∈(nth (t:=.sl (.sl aa)) ahead s.2.1:List (List aa.D)),∀q∈(nth (t:=.sl (.sl aa)) ahead s.2.2.1:List (List aa.D)),bX (r++q:List aa.D).length s.2.2.2.2.1)
def M.eU (tables:List aq.D) (all:List (List (List aa.D))) (s:ah.D):List (List (List aa.D)):=all++[bP tables all s]
def M.cn (tables:List aq.D) (plan:List ah.D):List (List (List aa.D)):=plan.foldl (eU tables) []
def M.cO (tables:List aq.D) (plan:List ah.D):List (List aa.D):=cond (bK tables plan) (nth (t:=.sl (.sl aa)) (cn tables plan) ((plan.length:Int)-1)) []
namespace M
theorem DD (out:List (List aa.D)) (r:List aa.D):(eR out r).length<=out.length+1/\∀x∈eR out r,x∈out\/x=r:=by
 unfold eR
 cases decide ((dH out r:Int)=(0:Int)) with
 | true=>
  refine⟨by simp,fun x hx=>?_⟩
  rcases List.mem_append.1 hx with h | h
  ·exact .inl h
  ·exact .inr (List.mem_singleton.1 h)
 | false=>exact⟨by show out.length<=out.length+1;omega,fun x hx=>.inl hx⟩
theorem GR (rows:List (List aa.D)):(eO rows).length<=rows.length/\∀x∈eO rows,x∈rows:=by
 have key:∀(l:List (List aa.D)) (out:List (List aa.D)),(l.foldl eR out).length<=out.length+l.length/\∀x∈l.foldl eR out,x∈out\/x∈l:=by
  intro l
  induction l with
  | nil=>intro out;exact⟨by simp,fun x hx=>.inl hx⟩
  | cons y l ih=>
   intro out
   obtain⟨h1,h2⟩:=ih (eR out y)
   obtain⟨h3,h4⟩:=DD out y
   refine⟨by rw[List.foldl_cons,List.length_cons];omega,fun x hx=>?_⟩
   rcases h2 x hx with h | h
   ·rcases h4 x h with h | h
    ·exact .inl h
    ·exact .inr (by simp[h])
   ·exact .inr (by simp[h])
 have:=key rows []
 refine⟨by have:=this.1;unfold eO;simpa using this,fun x hx=>?_⟩
 rcases this.2 x hx with h | h
 ·cases h
 ·exact h
theorem tM (e:List aC.D) (r:List aa.D) (rows:List (List aa.D)):(joined e r rows).length<=rows.length:=by
 unfold joined
 refine Nat.le_trans (List.length_filter_le _ _) ?_
 rw[List.length_map]
 exact Nat.le_refl _
theorem DL {α β:Type} (f:α->List β) (n:Nat):∀(xs:List α),(∀x∈xs,(f x).length<=n)->(xs.flatMap f).length<=xs.length * n
 | [],_=>by simp
 | x::xs,h=>by
  have h1:=h x (by simp)
  have h2:=DL f n xs (fun y hy=>h y (by simp[hy]))
  rw[List.flatMap_cons,List.length_append,List.length_cons,Nat.succ_mul]
  omega
def Rows (st:eW) (all:List (List (List aa.D))):Prop:=all.length=st.1.length/\st.2.length=st.1.length/\∀j:Int,0<=j->j<(all.length:Int) →
 ((nth (t:=.sl (.sl aa)) all j:List (List aa.D)).length:Int)<=nth (t:=.int .i64) st.2 j/\nth (t:=.int .i64) st.2 j<=300/\(nth (t:=.sl ag) st.1 j:List ag.D).length<=4 ∧
 Sm (.sl (.sl aa)) (nth (t:=.sl (.sl aa)) all j)/\∀r∈(nth (t:=.sl (.sl aa)) all j:List (List aa.D)),r.length=(nth (t:=.sl ag) st.1 j:List ag.D).length
theorem oK {st:eW} {all:List (List (List aa.D))} (h:Rows st all) {R:List (List aa.D)} {c:List ag.D} {m:Int} (h1:(R.length:Int)<=m) (h2:m<=300) (h3:c.length<=4) (h4:Sm (.sl (.sl aa)) R) (h5:∀r∈R,r.length=c.length) :
  Rows (st.1++[c],st.2++[m]) (all++[R]):=by
 obtain⟨l1,l2,h⟩:=h
 refine⟨by simp[l1],by simp[l2],fun j j0 j1=>?_⟩
 by_cases hj:j=(all.length:Int)
 ·rw[eJ (t:=.sl (.sl aa)) hj,eJ (t:=.int .i64) (by rw[hj,l1,l2]),eJ (t:=.sl ag) (by rw[hj,l1])]
  exact⟨h1,h2,h3,h4,h5⟩
 ·have hlt:j<(all.length:Int):=by simp at j1;omega
  rw[gu (t:=.sl (.sl aa)) j0 hlt,gu (t:=.int .i64) j0 (by rw[l2,<-l1];exact hlt),gu (t:=.sl ag) j0 (by rw[<-l1];exact hlt)]
  exact h j j0 hlt
end M
end Go.AE
end
