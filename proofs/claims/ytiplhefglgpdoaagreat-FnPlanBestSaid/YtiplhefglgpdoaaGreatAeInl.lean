/- Small functions, followed in place: what the caller knows goes along. -/
import Derived.Test.YtiplhefglgpdoaaGreatAeX
import Derived.Test.YtiplhefglgpdoaaGreatChecked
import Derived.Test.YtiplhefglgpdoaaGreatAeMQ
import Derived.KernelRfl
section
namespace Go.AE
open Go Go.RowKit
def nu:Env->Env
 | []=>[]
 | (j,v)::l=>(Nat.add j cn,v)::nu l
def oh:Env->Env
 | []=>[]
 | (j,v)::l=>bif Nat.ble cn j then (Nat.sub j cn,v)::oh l else oh l
def Dx (E:Tab) (deep:Bool) (rs:List ResultVar) (K:AV->St->Prop) (s:St):Prop:=match rs with
 | [r]=>cQ (rW E deep s r) fun p=>K p.1 ⟨oh p.2.env,p.2.hp⟩
 | rs=>cQ (sP E deep rs s) fun p=>K (.tup p.1) ⟨oh p.2.env,p.2.hp⟩
def LO (E:Tab) (deep:Bool) (rs:List ResultVar) (K:AV->St->Prop):X->St->Prop
 | .normal,s=>Dx E deep rs K s
 | .ret,s=>Dx E deep rs K s
 | .exit _,_=>False
def aD:bG:=fun _ _ _ _=>False
def uo (C:Ctx) (ann:Nat->List Dir) (code:Code) (rs:List ResultVar):Inl:=fun args s K=>
 bif Nat.ble args.length C.n&&Nat.ble C.n cn then awp C aD ann code ⟨oU 0 args++nu s.env,s.hp⟩ (LO C.tab C.deep rs K) else False
theorem lookup_append {α:Type}:∀(l k:List (Nat×α)) (j:Nat),lookup (l++k) j=match lookup l j with | some v=>some v | none=>lookup k j
 | [],k,j=>by simp[lookup]
 | (i,x)::l,k,j=>by
  rw[List.cons_append,lookup_cons,lookup_cons]
  by_cases h:i=j
  ·rw[if_pos h,if_pos h]
  ·rw[if_neg h,if_neg h]
   exact lookup_append l k j
theorem wH:∀(e:Env) (j:Nat) (v:AV),lookup (nu e) j=some v->∃k,j=k+cn/\lookup e k=some v
 | [],j,v,h=>by simp[nu,lookup] at h
 | (i,x)::l,j,v,h=>by
  unfold nu at h
  rw[lookup_cons] at h
  split at h
  ·rename_i e
   cases h
   exact⟨i,e.symm,by rw[lookup_cons,if_pos rfl]⟩
  ·rename_i hne
   obtain⟨k,hk,hl⟩:=wH l j v h
   refine⟨k,hk,?_⟩
   rw[lookup_cons,if_neg ?_]
   ·exact hl
   ·rintro rfl
    exact hne hk.symm
theorem oa:∀(e:Env) (k:Nat) (v:AV),lookup (oh e) k=some v->lookup e (k+cn)=some v
 | [],k,v,h=>by simp[oh,lookup] at h
 | (i,x)::l,k,v,h=>by
  unfold oh at h
  cases hb:Nat.ble cn i with
  | false=>
   rw[hb] at h
   have hlt:¬cn<=i:=by intro hc;rw[Nat.ble_eq_true_of_le hc] at hb;cases hb
   rw[lookup_cons,if_neg (by omega)]
   exact oa l k v h
  | true=>
   rw[hb] at h
   simp only[cond_true] at h
   have hle:cn<=i:=Nat.le_of_ble_eq_true hb
   rw[lookup_cons] at h
   have hs:Nat.sub i cn=i-cn:=rfl
   split at h
   ·rename_i e
    rw[hs] at e
    cases h
    rw[lookup_cons,if_pos (by omega)]
   ·rename_i e
    rw[hs] at e
    rw[lookup_cons,if_neg (by omega)]
    exact oa l k v h
section
variable {P:Program} {C:Ctx} {g:Gl} {N:Nat} {s:St} {a:Act} {w:World} {φ:Names}
def Bu (g:Gl) (gh:Nat->Value):Gl:={ g with gh:=gh }
def AR (g:Gl) (a:Act) (gh:Nat->Value):Prop:=∀k,gh (k+cn)=valOf g a k
theorem FK (g:Gl) (a:Act):∃gh,AR g a gh:=⟨fun j=>valOf g a (j-cn),fun k=>by simp only[Nat.add_sub_cancel]⟩
theorem xU (gh:Nat->Value) {hp:Hp} {n:Nat}:imm (Bu g gh) φ hp n=imm g φ hp n:=by unfold imm Bu;rfl
theorem sR (gh:Nat->Value):aR (Bu g gh)=aR g:=by unfold aR Bu;rfl
theorem EB {gh:Nat->Value} {a a':Act} {k:Nat} (hg:AR g a gh):valOf (Bu g gh) a' (k+cn)=valOf g a k:=by
 have hb:Nat.blt (k+cn) cn=false:=by
  cases hb:Nat.blt (k+cn) cn with
  | false=>rfl
  | true=>rw[Nat.blt_eq] at hb;omega
 unfold valOf
 rw[hb]
 simp only[cond_false,Bu]
 exact hg k
theorem Lq {gh:Nat->Value} (hg:AR g a gh) {hp:Hp} {args:List AV} {vals:List Value} {n:Nat} {e:Env} (hv:aq w (imm g φ hp w.heap.size) (aR g) φ hp args vals) (he:∀j av,lookup e j=some av->ak w (imm g φ hp w.heap.size) (aR g) φ hp av (valOf g a j))
  (hle:args.length<=n) (hgl:n<=cn) (j:Nat) (av:AV) (hj:lookup (oU 0 args++nu e) j=some av) :
  ak w (imm g φ hp w.heap.size) (aR g) φ hp av (valOf (Bu g gh) { tmps:=vals.toArray++Array.replicate (n-vals.toArray.size) undef,defers:=[] } j):=by
 have hlen:=hv.length
 rw[lookup_append] at hj
 split at hj
 ·rename_i v hla
  cases hj
  obtain⟨_,u,h1,h2⟩:=sF hv j av hla
  have h1:vals[j]? = some u:=by simpa using h1
  have hlt:j<vals.length:=(List.getElem?_eq_some_iff.1 h1).1
  have hu:(vals.toArray++Array.replicate (n-vals.toArray.size) undef).getD j undef=u:=by
   rw[Array.getD_eq_getD_getElem?,Array.getElem?_append_left (by simpa using hlt)]
   simp[h1]
  have hjg:Nat.blt j cn=true:=by rw[Nat.blt_eq];omega
  unfold valOf
  rw[hjg]
  simp only[cond_true]
  rw[hu]
  exact h2
 ·obtain⟨k,hk0,hk⟩:=wH _ _ _ hj
  rw[hk0,EB hg]
  exact he k av hk
theorem Lh {gh:Nat->Value} (hg:AR g a gh) {args:List AV} {vals:List Value} {n:Nat} (h:Sim g N s a w φ) (hv:aq w (imm g φ s.hp w.heap.size) (aR g) φ s.hp args vals) (hle:args.length<=n) (hgl:n<=cn) :
  Sim (Bu g gh) n ⟨oU 0 args++nu s.env,s.hp⟩ { tmps:=vals.toArray++Array.replicate (n-vals.toArray.size) undef,defers:=[] } w φ:=by
 have hlen:=hv.length
 refine⟨rfl,by simp;omega,h.os,h.tape,h.output,h.hsize,h.frame,h.inj,h.apart,h.place,fun i blk hi=>?_,fun j av hj=>?_,h.pinned⟩
 ·rw[xU,sR]
  exact h.blocks i blk hi
 ·rw[xU,sR]
  exact Lq hg hv h.env hle hgl j av hj
theorem GQ {gh:Nat->Value} (hg:AR g a gh) {a':Act} {w':World} {s1:St} {φ1:Names} {n:Nat} (h:Sim g N s a w φ) (hs:Sim (Bu g gh) n s1 a' w' φ1):Sim g N ⟨oh s1.env,s1.hp⟩ a w' φ1:=by
 refine⟨h.defers,h.size,hs.os,hs.tape,hs.output,hs.hsize,hs.frame,hs.inj,hs.apart,hs.place,fun i blk hi=>?_,fun k av hk=>?_,hs.pinned⟩
 ·have:=hs.blocks i blk hi
  rw[xU,sR] at this
  exact this
 ·have:=hs.env _ _ (oa _ _ _ hk)
  rw[xU,sR,EB hg] at this
  exact this
theorem Lm (hT:TabOk P C) (hC:ee P C) (hm:P.follows .mixedOrders=true) {f:FuncId} {fn:Func} {code:Code} (hf:P.funcs[f]? = some fn) (hb:fn.body=some code) (hN:C.n=fn.ntmps) {ann:Nat->List Dir} (hl:bY code=[]) :
  GW P f (uo C ann code fn.results.toList):=by
 intro g N s a w φ args vals K h hv hop
 unfold uo at hop
 cases hq:(Nat.ble args.length C.n&&Nat.ble C.n cn) with
 | false=>rw[hq] at hop;exact hop.elim
 | true=>
 rw[hq] at hop
 simp only[cond_true] at hop
 obtain⟨hq1,hq2⟩:=Bool.and_eq_true_iff.1 hq
 have hle:args.length<=fn.ntmps:=by rw[<-hN];exact Nat.le_of_ble_eq_true hq1
 have hgl:fn.ntmps<=cn:=by rw[<-hN];exact Nat.le_of_ble_eq_true hq2
 obtain⟨gh,hg⟩:=FK g a
 have hS:=Lh hg h hv hle hgl
 refine calls_of_wp hf hb (wp_mono (IZ (L:=aD) (ann:=ann) hT hC hN hm code (by rw[hl];intro p hp;cases hp) _ _ _ _ φ hS hop) ?_)
 intro e a' w' hq
 have fin:(∃s1 φ1,Dx C.tab C.deep fn.results.toList K s1/\Sim (Bu g gh) fn.ntmps s1 a' w' φ1)->a'.defers=[]/\∃u,(results fn a'.tmps).run P w'=.ok u w' ∧
   ∃v s' φ',K v s'/\Sim g N s' a w' φ'/\ak w' (imm g φ' s'.hp w'.heap.size) (aR g) φ' s'.hp v u:=by
  rintro ⟨s1,φ1,hk,hs⟩
  refine⟨hs.defers,?_⟩
  unfold Dx at hk
  split at hk
  ·rename_i r ht
   obtain⟨p,hp,hk⟩:=aI hk
   obtain⟨u,hrun,h1,_,hv⟩:=vS hT hs (show rW C.tab _ s1 r=some (p.1,p.2) from hp)
   rw[xU,sR] at hv
   refine⟨u,?_,p.1,_,φ1,hk,GQ hg h h1,hv⟩
   rw[jE (us:=[u]) (by rw[ht];exact .cons hrun .nil)]
   simp
  ·rename_i hne
   obtain⟨p,hp,hk⟩:=aI hk
   obtain⟨us,h1,_,h3,h4⟩:=tV hT hs (show sP C.tab _ fn.results.toList s1=some (p.1,p.2) from hp)
   rw[xU,sR] at h4
   have hlen:¬us.toArray.size=1:=by
    intro e
    have e:us.length=1:=e
    rw[<-h3.length_eq] at e
    match hq:fn.results.toList,e with
    | [r],_=>exact hne r hq
   refine⟨_,jE h3,.tup p.1,_,φ1,hk,GQ hg h h1,?_⟩
   rw[dif_neg hlen]
   simp only[ak]
   exact⟨_,rfl,h4⟩
 cases e with
 | normal=>exact fin hq
 | ret=>exact fin hq
 | exit i=>obtain⟨s,φ,hk,_⟩:=hq;exact hk.elim
 | goto l=>exact hq.elim
 | panic c=>exact hq.elim
 | outgrown=>exact hq.elim
end
theorem ln_of_fine:∀{t:Ty} {x:t.D},xQ t x->Ln t x
 | .int _,_,_=>trivial
 | .bool,_,_=>trivial
 | .str,_,h=>by
  have h:(_:ByteArray).size<=Go.maxLen:=h
  exact h
 | .unit,_,_=>trivial
 | .sl _,_,h=>⟨h.1,fun y hy=>ln_of_fine (h.2 y hy)⟩
 | .pair _ _,_,h=>⟨ln_of_fine h.1,ln_of_fine h.2⟩
end Go.AE
end
section
namespace Go.AE
open Go Go.RowKit
abbrev LD {α:Type} (x:α) (p:α->Prop):Prop:=∀r,r=x->p r
structure Pat (α:Type) where
 av:α->AV
 run:AV->(α->Prop)->Prop
 elim:∀{v:AV} {k:α->Prop},run v k->∃x,v=av x/\k x
abbrev pD (t:Ty):Pat t.D:=⟨fun x=>.data t x,gj t,bN⟩
abbrev pB (t:Ty):Pat (List t.D):=⟨fun x=>.brw t x,oI t,eF⟩
abbrev pA (t:Ty):Pat t.D:=⟨fun x=>.adr t x,Jz t,GB⟩
abbrev pR (t:Ty):Pat t.D:=⟨fun x=>.ref (.data t x),zT t,nE⟩
abbrev pQ (t:Ty):Pat (List t.D):=⟨fun x=>.ref (.brw t x),FO t,Fp⟩
section
variable {α β γ δ ε:Type} {l:List AV} {hp:Hp}
def g1 (p:Pat α) (F:α->Prop) (l:List AV) (hp:Hp):Prop:=args1 (fun a=>p.run a F) l hp
def g2 (p:Pat α) (q:Pat β) (F:α->β->Prop) (l:List AV) (hp:Hp):Prop:=args2 (fun a b=>p.run a fun x=>q.run b fun y=>F x y) l hp
def g3 (p:Pat α) (q:Pat β) (r:Pat γ) (F:α->β->γ->Prop) (l:List AV) (hp:Hp):Prop:=AZ (fun a b c=>p.run a fun x=>q.run b fun y=>r.run c fun z=>F x y z) l hp
def g4 (p:Pat α) (q:Pat β) (r:Pat γ) (s:Pat δ) (F:α->β->γ->δ->Prop) (l:List AV) (hp:Hp):Prop:=GJ (fun a b c d=>p.run a fun x=>q.run b fun y=>r.run c fun z=>s.run d fun u=>F x y z u) l hp
theorem g1e {p:Pat α} {F:α->Prop} (h0:g1 p F l hp):∃x,l=[p.av x]/\hp=[]/\F x:=by
 obtain⟨a,rfl,rfl,h1⟩:=zN h0
 obtain⟨x,rfl,h2⟩:=p.elim h1
 exact⟨x,rfl,rfl,h2⟩
theorem g2e {p:Pat α} {q:Pat β} {F:α->β->Prop} (h0:g2 p q F l hp):∃x y,l=[p.av x,q.av y]/\hp=[]/\F x y:=by
 obtain⟨a,b,rfl,rfl,h1⟩:=cr h0
 obtain⟨x,rfl,h2⟩:=p.elim h1
 obtain⟨y,rfl,h3⟩:=q.elim h2
 exact⟨x,y,rfl,rfl,h3⟩
theorem g3e {p:Pat α} {q:Pat β} {r:Pat γ} {F:α->β->γ->Prop} (h0:g3 p q r F l hp):∃x y z,l=[p.av x,q.av y,r.av z]/\hp=[]/\F x y z:=by
 obtain⟨a,b,c,rfl,rfl,h1⟩:=nL h0
 obtain⟨x,rfl,h2⟩:=p.elim h1
 obtain⟨y,rfl,h3⟩:=q.elim h2
 obtain⟨z,rfl,h4⟩:=r.elim h3
 exact⟨x,y,z,rfl,rfl,h4⟩
theorem g4e {p:Pat α} {q:Pat β} {r:Pat γ} {s:Pat δ} {F:α->β->γ->δ->Prop} (h0:g4 p q r s F l hp):∃x y z u,l=[p.av x,q.av y,r.av z,s.av u]/\hp=[]/\F x y z u:=by
 obtain⟨a,b,c,d,rfl,rfl,h1⟩:=ua h0
 obtain⟨x,rfl,h2⟩:=p.elim h1
 obtain⟨y,rfl,h3⟩:=q.elim h2
 obtain⟨z,rfl,h4⟩:=r.elim h3
 obtain⟨u,rfl,h5⟩:=s.elim h4
 exact⟨x,y,z,u,rfl,rfl,h5⟩
end
def hpR (F:List Int->Int->Prop) (hp:Hp):Prop:=match hp with
 | [(k,.box [.data u b,.data v p])]=>(match Ty.eq? u (.sl (.int .u8)),Ty.eq? v (.int .i64) with
  | some ⟨h⟩,some ⟨h'⟩=>bif Nat.beq k base then F (dR h b) (dR h' p) else False
  | _,_=>False)
 | _=>False
theorem fS {F:List Int->Int->Prop} {hp:Hp} (h:hpR F hp):∃(b:List Int) (p:Int),hp=[(1000000,.box [.data (.sl (.int .u8)) b,.data (.int .i64) p])]/\F b p:=by
 unfold hpR at h
 split at h
 ·rename_i k u b v p
  split at h
  ·rename_i h1 h2 _ _
   cases h1
   cases h2
   rcases bt k base with⟨rfl,hb⟩ | ⟨_,hb⟩
   ·rw[hb] at h
    exact⟨b,p,rfl,h⟩
   ·rw[hb] at h
    exact h.elim
  ·exact h.elim
 ·exact h.elim
def oJ (a:AV) (F:Prop):Prop:=match a with
 | .ptr k 0=>bif Nat.beq k base then F else False
 | _=>False
theorem dO {a:AV} {F:Prop} (h:oJ a F):a=.ptr 1000000 0/\F:=by
 unfold oJ at h
 split at h
 ·rename_i k
  rcases bt k base with⟨rfl,hb⟩ | ⟨_,hb⟩
  ·rw[hb] at h;exact⟨rfl,h⟩
  ·rw[hb] at h;exact h.elim
 ·exact h.elim
theorem oG {α:Type} {p q:Prop} {x:Option α} {K:α->Prop} (h:ok (ag p x) K) (k:p->ok x K->q):p/\q:=⟨(aA h).1,k (aA h).1 (aA h).2⟩
theorem oL {α β:Type} {x:α} {f:α->Option β} {K:β->Prop} {Q:α->Prop} (h:ok (aJ x f) K) (k:∀r,r=x->ok (f r) K->Q r):∀r,r=x->Q r:=fun r e=>k r e (cU h r e)
theorem oC {α:Type} {b:Bool} {x y:Option α} {K:α->Prop} {T U:Prop} (h:ok (cond b x y) K) (h1:b=true->ok x K->T) (h2:b=false->ok y K->U):cond b T U:=KD h h1 h2
def Jm:Nat->Nat->Nat->List Nat
 | 0,_,_=>[]
 | f+1,i,b=>bif Nat.beq b 0 then [] else bif Nat.beq (Nat.mod b 2) 1 then i::Jm f (Nat.succ i) (Nat.div b 2) else Jm f (Nat.succ i) (Nat.div b 2)
def kp (b:Nat):Dir:=.keep (Jm 400 0 b)
def Jx:List (List Dir)->Nat->List Dir
 | [],_=>[]
 | d::l,n=>match n with
  | 0=>d
  | k+1=>Jx l k
def an (l m:List (List Dir)) (n:Nat):List Dir:=bif Nat.blt n 100000 then Jx l n else Jx m (Nat.sub n 100000)
def lp1 (a:Nat) (A:Nat->St->(X->St->Prop)->Prop):bG:=fun id m s K=>bif Nat.beq id a then A m s K else False
def lp2 (a:Nat) (A:Nat->St->(X->St->Prop)->Prop) (b:Nat) (B:Nat->St->(X->St->Prop)->Prop):bG:=fun id m s K=>bif Nat.beq id a then A m s K else bif Nat.beq id b then B m s K else False
abbrev vcT (C:Ctx) (L:bG) (ann:Nat->List Dir) (fn:Func) (args:List AV) (hp:Hp) (k:RK) (K:AV->Hp->Prop):Prop:=
 awp C L ann (dP fn) ⟨oU 0 args,hp⟩ (Ly C.tab C.deep fn.results.toList (Ga hp) (FL k K))
abbrev lvT (C:Ctx) (L:bG) (ann:Nat->List Dir) (fn:Func) (n id:Nat) (s:St) (m:Nat) (K:X->St->Prop):Prop:=
 awp C L ann (fJ (dP fn) n) s (Js (fun s'=>∃m',m'<m/\L id m' s' K) (Ee id (ann (behind id)) K))
abbrev nxT (A:Nat->St->(X->St->Prop)->Prop) (m:Nat) (K:X->St->Prop) (s:St):Prop:=∃m_,m_<m/\A m_ s K
def bw (P:Program) (f:FuncId) (con:Con):Prop:=(∀args w,(callFunc f args).run P w=.ok (.enter f args) w)/\Bs P f con
def vO (P:Program) (f:FuncId) (T:Inl):Prop:=(∀args w,(callFunc f args).run P w=.ok (.enter f args) w)/\GW P f T
section
variable {P:Program} {E:Tab} {c:TypeId->Bool} {n off:Nat} {deep:Bool} {f:FuncId} {con:Con} {T:Inl} {l:Cons} {inl:List (Nat×Inl)}
theorem kC (h1:bw P f con) (h:ee P ⟨E,c,l,n,inl,off,deep⟩):ee P ⟨E,c,(f,con)::l,n,inl,off,deep⟩:=FE h1.1 h1.2 h
theorem kI (h1:vO P f T) (h:ee P ⟨E,c,[],n,inl,off,deep⟩):ee P ⟨E,c,[],n,(f,T)::inl,off,deep⟩:=Gy h1.1 h1.2 h
theorem kN:ee P ⟨E,c,[],n,[],off,deep⟩:=Gh
end
def rL (ds:List (Nat×Bool)) (fn:Func):Func:=match ds with
 | []=>fn
 | ds=>{ fn with body:=fn.body.map (fW ds) }
theorem KP {P:Program} {C:Ctx} (ds:List (Nat×Bool)) (hT:TabOk P C) (hm:P.follows .mixedOrders=true) {f:FuncId} {fn:Func} {con:Con} (hf:P.funcs[f]? = some fn) (hq:((fn.name == "runtime.NumGoroutine")||fn.body.isNone)=false) (hC:ee P C) (hN:C.n=fn.ntmps)
  (hcon:∀args hp K,con.run args hp K->(Nat.ble args.length fn.ntmps&&Nat.ble args.length cn)=true/\∃(ann:Nat->List Dir) (L:bG) (k:RK),(∀p∈bY (dP (rL ds fn)),eC C L ann p.1 p.2)/\vcT C L ann (rL ds fn) args hp k K):bw P f con:=by
 obtain⟨hq1,hq2⟩:=Bool.or_eq_false_iff.1 hq
 have hb:fn.body=some (dP fn):=by
  unfold dP
  cases h:fn.body with
  | none=>rw[h] at hq2;cases hq2
  | some c=>rfl
 have he:dP (rL ds fn)=fW ds (dP fn):=by
  cases ds with
  | nil=>exact(lV _).symm
  | cons d l=>unfold rL dP at *;rw[hb];rfl
 have hr:(rL ds fn).results=fn.results:=by cases ds<;>rfl
 refine⟨Fg hf hq1 hq2,Kw (ds:=ds) hT hC hm hf hb hN fun args hp K h=>?_⟩
 obtain⟨h1,h2⟩:=hcon args hp K h
 obtain⟨h3,h4⟩:=Bool.and_eq_true_iff.1 h1
 unfold vcT at h2
 rw[he,hr] at h2
 exact⟨⟨Nat.le_of_ble_eq_true h3,Nat.le_of_ble_eq_true h4⟩,h2⟩
theorem Lz {P:Program} {C:Ctx} (hT:TabOk P C) (hm:P.follows .mixedOrders=true) {f:FuncId} {fn:Func} (hf:P.funcs[f]? = some fn) (hq:((fn.name == "runtime.NumGoroutine")||fn.body.isNone)=false) (hC:ee P C) (hN:C.n=fn.ntmps) {ann:Nat->List Dir}
  (hl:bY (dP fn)=[]):vO P f (uo C ann (dP fn) fn.results.toList):=by
 obtain⟨hq1,hq2⟩:=Bool.or_eq_false_iff.1 hq
 have hb:fn.body=some (dP fn):=by
  unfold dP
  cases h:fn.body with
  | none=>rw[h] at hq2;cases hq2
  | some c=>rfl
 exact⟨Fg hf hq1 hq2,Lm hT hC hm hf hb hN hl⟩
end Go.AE
end
section
namespace Go.AE
open Go Go.RowKit
noncomputable abbrev P:Program:=Go.Proofs.Tryz.prog
def tab:Tab:=[(4,⟨.val Ty.bool,1,1⟩),
  (22,⟨.sl 5 (Ty.int .u8),1,24⟩),
  (5,⟨.val (Ty.int .u8),1,1⟩),
  (3,⟨.val (Ty.int .i64),1,8⟩),
  (38,⟨.other,1,0⟩),
  (36,⟨.sl 50 az,1,24⟩),
  (50,⟨.st [(0,23, "Columns"),(1,44, "Rows")] az,2,48⟩),
  (23,⟨.sl 58 ah,1,24⟩),
  (58,⟨.st [(0,3, "Kind"),(1,4, "Empty")] ah,2,16⟩),
  (44,⟨.sl 24 (Ty.sl af),1,24⟩),
  (24,⟨.sl 33 af,1,24⟩),
  (33,⟨.st [(0,3, "Kind"),(1,3, "N"),(2,9, "S")] af,3,32⟩),
  (9,⟨.val Ty.str,1,16⟩),
  (37,⟨.sl 84 aa,1,24⟩),
  (84,⟨.st [(0,3, "Kind"),(1,3, "A"),(2,3, "B"),(3,3, "N"),(4,25, "E"),(5,47, "List")] aa,6,80⟩),
  (25,⟨.sl 72 ax,1,24⟩),
  (72,⟨.st [(0,3, "Kind"),(1,3, "N"),(2,33, "V")] ax,5,48⟩),
  (47,⟨.sl 3 (Ty.int .i64),1,24⟩),
  (0,⟨.other,1,0⟩),
  (77,⟨.other,1,0⟩),
  (85,⟨.sl 4 Ty.bool,1,24⟩),
  (87,⟨.other,1,0⟩),
  (86,⟨.sl 103 aF,1,24⟩),
  (103,⟨.st [(0,23, "columns"),(1,3, "most")] aF,2,32⟩),
  (96,⟨.other,1,0⟩),
  (95,⟨.sl 23 (Ty.sl ah),1,24⟩),
  (64,⟨.ptr 117,1,8⟩),
  (117,⟨.st [(0,22, "b"),(1,3, "p")] (Ty.pair (Ty.sl (Ty.int .u8)) (Ty.pair (Ty.int .i64) Ty.unit)),2,32⟩),
  (54,⟨.other,1,0⟩),
  (123,⟨.other,1,0⟩),
  (129,⟨.other,1,8⟩),
  (67,⟨.other,1,8⟩),
  (133,⟨.other,1,0⟩),
  (135,⟨.sl 44 (Ty.sl (Ty.sl af)),1,24⟩),
  (142,⟨.other,1,0⟩),
  (182,⟨.mp .i64 3 (Ty.int .i64),1,8⟩),
  (185,⟨.sl 9 Ty.str,1,24⟩),
  (115,⟨.other,1,8⟩),
  (210,⟨.sl 25 (Ty.sl ax),1,24⟩)]
def IV:List TypeId:=[33,58,72]
theorem tab_check:Cn P tab tab=true:=by kernel_rfl
theorem xp:EA P tab IV=true:=by kernel_rfl
theorem mixed:P.follows .mixedOrders=true:=by kernel_rfl
abbrev cx (l:Cons) (n:Nat) (inl:List (Nat×Inl)) (off:Nat) (deep:Bool):Ctx:=⟨tab,fun t=>jY t IV,l,n,inl,off,deep⟩
theorem bD (C:Ctx) {f:FuncId} {fn:Func} {con:Con} (hf:P.funcs[f]? = some fn) (hC:ee P C) (hcon:∀args hp K,con.run args hp K->(Nat.ble args.length fn.ntmps&&Nat.ble args.length cn)=true/\∃(ann:Nat->List Dir) (L:bG) (k:RK),(∀p∈bY (dP fn),eC C L ann p.1 p.2)/\vcT C L ann fn args hp k K)
    (hT:TabOk P C:=by exact Dq tab_check xp) (hq:((fn.name == "runtime.NumGoroutine")||fn.body.isNone)=false:=by kernel_rfl) (hN:C.n=fn.ntmps:=by rfl):bw P f con:=KP [] hT mixed hf hq hC hN hcon
theorem Jv (ds:List (Nat×Bool)) (C:Ctx) {f:FuncId} {fn:Func} {con:Con} (hf:P.funcs[f]? = some fn) (hC:ee P C) (hcon:∀args hp K,con.run args hp K->(Nat.ble args.length fn.ntmps&&Nat.ble args.length cn)=true/\∃(ann:Nat->List Dir) (L:bG) (k:RK),(∀p∈bY (dP (rL ds fn)),eC C L ann p.1 p.2)/\vcT C L ann (rL ds fn) args hp k K)
    (hT:TabOk P C:=by exact Dq tab_check xp) (hq:((fn.name == "runtime.NumGoroutine")||fn.body.isNone)=false:=by kernel_rfl) (hN:C.n=fn.ntmps:=by rfl):bw P f con:=KP ds hT mixed hf hq hC hN hcon
theorem Ba (C:Ctx) {f:FuncId} {fn:Func} (hf:P.funcs[f]? = some fn) (hC:ee P C) {ann:Nat->List Dir} (hT:TabOk P C:=by exact Dq tab_check xp) (hq:((fn.name == "runtime.NumGoroutine")||fn.body.isNone)=false:=by kernel_rfl) (hN:C.n=fn.ntmps:=by rfl)
    (hl:bY (dP fn)=[]:=by kernel_rfl):vO P f (uo C ann (dP fn) fn.results.toList):=Lz hT mixed hf hq hC hN hl
abbrev nT (xs:List az.D) (i:Int):az.D:=nth (t:=az) xs i
abbrev nS (xs:List aa.D) (i:Int):aa.D:=nth (t:=aa) xs i
abbrev nC (xs:List ah.D) (i:Int):ah.D:=nth (t:=ah) xs i
abbrev nI (xs:List aE.D) (i:Int):aE.D:=nth (t:=aE) xs i
abbrev nP (xs:List ax.D) (i:Int):ax.D:=nth (t:=ax) xs i
abbrev nM (xs:List aF.D) (i:Int):aF.D:=nth (t:=aF) xs i
abbrev nG (xs:List mh.D) (i:Int):mh.D:=nth (t:=mh) xs i
abbrev nV (xs:List af.D) (i:Int):af.D:=nth (t:=af) xs i
abbrev Z0:Int:=0
abbrev Z1:Int:=1
abbrev Z2:Int:=2
abbrev Z3:Int:=3
abbrev Z4:Int:=4
abbrev Z5:Int:=5
abbrev Z6:Int:=6
abbrev dI (n:Int):AV:=.data aE n
abbrev dB (b:Bool):AV:=.data Ty.bool b
abbrev KA:Type:=AV->Hp->Prop
abbrev KX:Type:=X->St->Prop
abbrev TBy:Ty:=.sl (.int .u8)
abbrev LI:Type:=List Int
abbrev LLI:Type:=List LI
end Go.AE
end
