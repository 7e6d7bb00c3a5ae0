/- Small functions, followed in place: what the caller knows goes along. -/
import Derived.Test.YtmkgiaecgkicoaaGreatAeX
section
namespace Go.AE
open Go Go.RowKit
def mU:Env->Env
 | []=>[]
 | (j,v)::l=>(Nat.add j bF,v)::mU l
def nj:Env->Env
 | []=>[]
 | (j,v)::l=>bif Nat.ble bF j then (Nat.sub j bF,v)::nj l else nj l
def Cv (E:Tab) (deep:Bool) (rs:List ResultVar) (K:AV->St->Prop) (s:St):Prop:=match rs with
 | [r]=>cw (qM E deep s r) fun p=>K p.1 ⟨nj p.2.env,p.2.hp⟩
 | rs=>cw (qQ E deep rs s) fun p=>K (.tup p.1) ⟨nj p.2.env,p.2.hp⟩
def Jq (E:Tab) (deep:Bool) (rs:List ResultVar) (K:AV->St->Prop):X->St->Prop
 | .normal,s=>Cv E deep rs K s
 | .ret,s=>Cv E deep rs K s
 | .exit _,_=>False
def aq:aX:=fun _ _ _ _=>False
def vW (C:Ctx) (ann:Nat->List Dir) (code:Code) (rs:List ResultVar):Inl:=fun args s K=>
 bif Nat.ble args.length C.n&&Nat.ble C.n bF then awp C aq ann code ⟨nN 0 args++mU s.env,s.hp⟩ (Jq C.tab C.deep rs K) else False
theorem lookup_append {α:Type}:∀(l k:List (Nat×α)) (j:Nat),lookup (l++k) j=match lookup l j with | some v=>some v | none=>lookup k j
 | [],k,j=>by simp[lookup]
 | (i,x)::l,k,j=>by
  rw[List.cons_append,lookup_cons,lookup_cons]
  by_cases h:i=j
  ·rw[if_pos h,if_pos h]
  ·rw[if_neg h,if_neg h]
   exact lookup_append l k j
theorem vb:∀(e:Env) (j:Nat) (v:AV),lookup (mU e) j=some v->∃k,j=k+bF/\lookup e k=some v
 | [],j,v,h=>by simp[mU,lookup] at h
 | (i,x)::l,j,v,h=>by
  unfold mU at h
  rw[lookup_cons] at h
  split at h
  ·rename_i e
   cases h
   exact⟨i,e.symm,by rw[lookup_cons,if_pos rfl]⟩
  ·rename_i hne
   obtain⟨k,hk,hl⟩:=vb l j v h
   refine⟨k,hk,?_⟩
   rw[lookup_cons,if_neg ?_]
   ·exact hl
   ·rintro rfl
    exact hne hk.symm
theorem mE:∀(e:Env) (k:Nat) (v:AV),lookup (nj e) k=some v->lookup e (k+bF)=some v
 | [],k,v,h=>by simp[nj,lookup] at h
 | (i,x)::l,k,v,h=>by
  unfold nj at h
  cases hb:Nat.ble bF i with
  | false=>
   rw[hb] at h
   have hlt:¬bF<=i:=by intro hc;rw[Nat.ble_eq_true_of_le hc] at hb;cases hb
   rw[lookup_cons,if_neg (by omega)]
   exact mE l k v h
  | true=>
   rw[hb] at h
   simp only[cond_true] at h
   have hle:bF<=i:=Nat.le_of_ble_eq_true hb
   rw[lookup_cons] at h
   have hs:Nat.sub i bF=i-bF:=rfl
   split at h
   ·rename_i e
    rw[hs] at e
    cases h
    rw[lookup_cons,if_pos (by omega)]
   ·rename_i e
    rw[hs] at e
    rw[lookup_cons,if_neg (by omega)]
    exact mE l k v h
section
variable {P:Program} {C:Ctx} {g:Gl} {N:Nat} {s:St} {a:Act} {w:World} {φ:Names}
def AT (g:Gl) (gh:Nat->Value):Gl:={ g with gh:=gh }
def zO (g:Gl) (a:Act) (gh:Nat->Value):Prop:=∀k,gh (k+bF)=valOf g a k
theorem EG (g:Gl) (a:Act):∃gh,zO g a gh:=⟨fun j=>valOf g a (j-bF),fun k=>by simp only[Nat.add_sub_cancel]⟩
theorem wg (gh:Nat->Value) {hp:Hp} {n:Nat}:imm (AT g gh) φ hp n=imm g φ hp n:=by unfold imm AT;rfl
theorem sj (gh:Nat->Value):aF (AT g gh)=aF g:=by unfold aF AT;rfl
theorem CP {gh:Nat->Value} {a a':Act} {k:Nat} (hg:zO g a gh):valOf (AT g gh) a' (k+bF)=valOf g a k:=by
 have hb:Nat.blt (k+bF) bF=false:=by
  cases hb:Nat.blt (k+bF) bF with
  | false=>rfl
  | true=>rw[Nat.blt_eq] at hb;omega
 unfold valOf
 rw[hb]
 simp only[cond_false,AT]
 exact hg k
theorem IL {gh:Nat->Value} (hg:zO g a gh) {hp:Hp} {args:List AV} {vals:List Value} {n:Nat} {e:Env} (hv:aj w (imm g φ hp w.heap.size) (aF g) φ hp args vals) (he:∀j av,lookup e j=some av->ah w (imm g φ hp w.heap.size) (aF g) φ hp av (valOf g a j))
  (hle:args.length<=n) (hgl:n<=bF) (j:Nat) (av:AV) (hj:lookup (nN 0 args++mU e) j=some av) :
  ah w (imm g φ hp w.heap.size) (aF g) φ hp av (valOf (AT g gh) { tmps:=vals.toArray++Array.replicate (n-vals.toArray.size) undef,defers:=[] } j):=by
 have hlen:=hv.length
 rw[lookup_append] at hj
 split at hj
 ·rename_i v hla
  cases hj
  obtain⟨_,u,h1,h2⟩:=qE hv j av hla
  have h1:vals[j]? = some u:=by simpa using h1
  have hlt:j<vals.length:=(List.getElem?_eq_some_iff.1 h1).1
  have hu:(vals.toArray++Array.replicate (n-vals.toArray.size) undef).getD j undef=u:=by
   rw[Array.getD_eq_getD_getElem?,Array.getElem?_append_left (by simpa using hlt)]
   simp[h1]
  have hjg:Nat.blt j bF=true:=by rw[Nat.blt_eq];omega
  unfold valOf
  rw[hjg]
  simp only[cond_true]
  rw[hu]
  exact h2
 ·obtain⟨k,hk0,hk⟩:=vb _ _ _ hj
  rw[hk0,CP hg]
  exact he k av hk
theorem IZ {gh:Nat->Value} (hg:zO g a gh) {args:List AV} {vals:List Value} {n:Nat} (h:Sim g N s a w φ) (hv:aj w (imm g φ s.hp w.heap.size) (aF g) φ s.hp args vals) (hle:args.length<=n) (hgl:n<=bF) :
  Sim (AT g gh) n ⟨nN 0 args++mU s.env,s.hp⟩ { tmps:=vals.toArray++Array.replicate (n-vals.toArray.size) undef,defers:=[] } w φ:=by
 have hlen:=hv.length
 refine⟨rfl,by simp;omega,h.os,h.tape,h.output,h.hsize,h.frame,h.inj,h.apart,h.place,fun i blk hi=>?_,fun j av hj=>?_,h.pinned⟩
 ·rw[wg,sj]
  exact h.blocks i blk hi
 ·rw[wg,sj]
  exact IL hg hv h.env hle hgl j av hj
theorem ES {gh:Nat->Value} (hg:zO g a gh) {a':Act} {w':World} {s1:St} {φ1:Names} {n:Nat} (h:Sim g N s a w φ) (hs:Sim (AT g gh) n s1 a' w' φ1):Sim g N ⟨nj s1.env,s1.hp⟩ a w' φ1:=by
 refine⟨h.defers,h.size,hs.os,hs.tape,hs.output,hs.hsize,hs.frame,hs.inj,hs.apart,hs.place,fun i blk hi=>?_,fun k av hk=>?_,hs.pinned⟩
 ·have:=hs.blocks i blk hi
  rw[wg,sj] at this
  exact this
 ·have:=hs.env _ _ (mE _ _ _ hk)
  rw[wg,sj,CP hg] at this
  exact this
theorem IT (hT:TabOk P C) (hC:dx P C) (hm:P.follows .mixedOrders=true) {f:FuncId} {fn:Func} {code:Code} (hf:P.funcs[f]? = some fn) (hb:fn.body=some code) (hN:C.n=fn.ntmps) {ann:Nat->List Dir} (hl:bJ code=[]) :
  Dk P f (vW C ann code fn.results.toList):=by
 intro g N s a w φ args vals K h hv hop
 unfold vW at hop
 cases hq:(Nat.ble args.length C.n&&Nat.ble C.n bF) with
 | false=>rw[hq] at hop;exact hop.elim
 | true=>
 rw[hq] at hop
 simp only[cond_true] at hop
 obtain⟨hq1,hq2⟩:=Bool.and_eq_true_iff.1 hq
 have hle:args.length<=fn.ntmps:=by rw[<-hN];exact Nat.le_of_ble_eq_true hq1
 have hgl:fn.ntmps<=bF:=by rw[<-hN];exact Nat.le_of_ble_eq_true hq2
 obtain⟨gh,hg⟩:=EG g a
 have hS:=IZ hg h hv hle hgl
 refine calls_of_wp hf hb (wp_mono (Gi (L:=aq) (ann:=ann) hT hC hN hm code (by rw[hl];intro p hp;cases hp) _ _ _ _ φ hS hop) ?_)
 intro e a' w' hq
 have fin:(∃s1 φ1,Cv C.tab C.deep fn.results.toList K s1/\Sim (AT g gh) fn.ntmps s1 a' w' φ1)->a'.defers=[]/\∃u,(results fn a'.tmps).run P w'=.ok u w' ∧
   ∃v s' φ',K v s'/\Sim g N s' a w' φ'/\ah w' (imm g φ' s'.hp w'.heap.size) (aF g) φ' s'.hp v u:=by
  rintro ⟨s1,φ1,hk,hs⟩
  refine⟨hs.defers,?_⟩
  unfold Cv at hk
  split at hk
  ·rename_i r ht
   obtain⟨p,hp,hk⟩:=aD hk
   obtain⟨u,hrun,h1,_,hv⟩:=uj hT hs (show qM C.tab _ s1 r=some (p.1,p.2) from hp)
   rw[wg,sj] at hv
   refine⟨u,?_,p.1,_,φ1,hk,ES hg h h1,hv⟩
   rw[je (us:=[u]) (by rw[ht];exact .cons hrun .nil)]
   simp
  ·rename_i hne
   obtain⟨p,hp,hk⟩:=aD hk
   obtain⟨us,h1,_,h3,h4⟩:=tF hT hs (show qQ C.tab _ fn.results.toList s1=some (p.1,p.2) from hp)
   rw[wg,sj] at h4
   have hlen:¬us.toArray.size=1:=by
    intro e
    have e:us.length=1:=e
    rw[<-h3.length_eq] at e
    match hq:fn.results.toList,e with
    | [r],_=>exact hne r hq
   refine⟨_,je h3,.tup p.1,_,φ1,hk,ES hg h h1,?_⟩
   rw[dif_neg hlen]
   simp only[ah]
   exact⟨_,rfl,h4⟩
 cases e with
 | normal=>exact fin hq
 | ret=>exact fin hq
 | exit i=>obtain⟨s,φ,hk,_⟩:=hq;exact hk.elim
 | goto l=>exact hq.elim
 | panic c=>exact hq.elim
 | outgrown=>exact hq.elim
end
theorem ln_of_fine:∀{t:Ty} {x:t.D},zm t x->Ln t x
 | .int _,_,_=>trivial
 | .bool,_,_=>trivial
 | .str,_,h=>by
  have h:(_:ByteArray).size<=Go.maxLen:=h
  exact h
 | .unit,_,_=>trivial
 | .sl _,_,h=>⟨h.1,fun y hy=>ln_of_fine (h.2 y hy)⟩
 | .pair _ _,_,h=>⟨ln_of_fine h.1,ln_of_fine h.2⟩
end Go.AE
end
section
namespace Go.AE
open Go Go.RowKit
abbrev LD {α:Type} (x:α) (p:α->Prop):Prop:=∀r,r=x->p r
structure Pat (α:Type) where
 av:α->AV
 run:AV->(α->Prop)->Prop
 elim:∀{v:AV} {k:α->Prop},run v k->∃x,v=av x/\k x
abbrev pD (t:Ty):Pat t.D:=⟨fun x=>.data t x,ja t,bX⟩
abbrev pB (t:Ty):Pat (List t.D):=⟨fun x=>.brw t x,iu t,bS⟩
abbrev pA (t:Ty):Pat t.D:=⟨fun x=>.adr t x,Dd t,tr⟩
abbrev pR (t:Ty):Pat t.D:=⟨fun x=>.ref (.data t x),kQ t,cK⟩
abbrev pQ (t:Ty):Pat (List t.D):=⟨fun x=>.ref (.brw t x),DX t,CQ⟩
section
variable {α β γ δ ε:Type} {l:List AV} {hp:Hp}
def g1 (p:Pat α) (F:α->Prop) (l:List AV) (hp:Hp):Prop:=args1 (fun a=>p.run a F) l hp
def g2 (p:Pat α) (q:Pat β) (F:α->β->Prop) (l:List AV) (hp:Hp):Prop:=args2 (fun a b=>p.run a fun x=>q.run b fun y=>F x y) l hp
def g3 (p:Pat α) (q:Pat β) (r:Pat γ) (F:α->β->γ->Prop) (l:List AV) (hp:Hp):Prop:=Da (fun a b c=>p.run a fun x=>q.run b fun y=>r.run c fun z=>F x y z) l hp
def g4 (p:Pat α) (q:Pat β) (r:Pat γ) (s:Pat δ) (F:α->β->γ->δ->Prop) (l:List AV) (hp:Hp):Prop:=Jj (fun a b c d=>p.run a fun x=>q.run b fun y=>r.run c fun z=>s.run d fun u=>F x y z u) l hp
theorem g1e {p:Pat α} {F:α->Prop} (h0:g1 p F l hp):∃x,l=[p.av x]/\hp=[]/\F x:=by
 obtain⟨a,rfl,rfl,h1⟩:=Eb h0
 obtain⟨x,rfl,h2⟩:=p.elim h1
 exact⟨x,rfl,rfl,h2⟩
theorem g2e {p:Pat α} {q:Pat β} {F:α->β->Prop} (h0:g2 p q F l hp):∃x y,l=[p.av x,q.av y]/\hp=[]/\F x y:=by
 obtain⟨a,b,rfl,rfl,h1⟩:=bu h0
 obtain⟨x,rfl,h2⟩:=p.elim h1
 obtain⟨y,rfl,h3⟩:=q.elim h2
 exact⟨x,y,rfl,rfl,h3⟩
theorem g3e {p:Pat α} {q:Pat β} {r:Pat γ} {F:α->β->γ->Prop} (h0:g3 p q r F l hp):∃x y z,l=[p.av x,q.av y,r.av z]/\hp=[]/\F x y z:=by
 obtain⟨a,b,c,rfl,rfl,h1⟩:=tB h0
 obtain⟨x,rfl,h2⟩:=p.elim h1
 obtain⟨y,rfl,h3⟩:=q.elim h2
 obtain⟨z,rfl,h4⟩:=r.elim h3
 exact⟨x,y,z,rfl,rfl,h4⟩
end
theorem oG {α:Type} {p q:Prop} {x:Option α} {K:α->Prop} (h:ok (ag p x) K) (k:p->ok x K->q):p/\q:=⟨(Ai h).1,k (Ai h).1 (Ai h).2⟩
theorem oL {α β:Type} {x:α} {f:α->Option β} {K:β->Prop} {Q:α->Prop} (h:ok (bD x f) K) (k:∀r,r=x->ok (f r) K->Q r):∀r,r=x->Q r:=fun r e=>k r e (fH h r e)
theorem oC {α:Type} {b:Bool} {x y:Option α} {K:α->Prop} {T U:Prop} (h:ok (cond b x y) K) (h1:b=true->ok x K->T) (h2:b=false->ok y K->U):cond b T U:=HP h h1 h2
def Hj:Nat->Nat->Nat->List Nat
 | 0,_,_=>[]
 | f+1,i,b=>bif Nat.beq b 0 then [] else bif Nat.beq (Nat.mod b 2) 1 then i::Hj f (Nat.succ i) (Nat.div b 2) else Hj f (Nat.succ i) (Nat.div b 2)
def kp (b:Nat):Dir:=.keep (Hj 400 0 b)
def GY:List (List Dir)->Nat->List Dir
 | [],_=>[]
 | d::l,n=>match n with
  | 0=>d
  | k+1=>GY l k
def an (l m:List (List Dir)) (n:Nat):List Dir:=bif Nat.blt n 100000 then GY l n else GY m (Nat.sub n 100000)
def lp1 (a:Nat) (A:Nat->St->(X->St->Prop)->Prop):aX:=fun id m s K=>bif Nat.beq id a then A m s K else False
def lp2 (a:Nat) (A:Nat->St->(X->St->Prop)->Prop) (b:Nat) (B:Nat->St->(X->St->Prop)->Prop):aX:=fun id m s K=>bif Nat.beq id a then A m s K else bif Nat.beq id b then B m s K else False
abbrev vcT (C:Ctx) (L:aX) (ann:Nat->List Dir) (fn:Func) (args:List AV) (hp:Hp) (k:RK) (K:AV->Hp->Prop):Prop:=
 awp C L ann (dL fn) ⟨nN 0 args,hp⟩ (Jk C.tab C.deep fn.results.toList (Ew hp) (DE k K))
abbrev lvT (C:Ctx) (L:aX) (ann:Nat->List Dir) (fn:Func) (n id:Nat) (s:St) (m:Nat) (K:X->St->Prop):Prop:=
 awp C L ann (kg (dL fn) n) s (Gj (fun s'=>∃m',m'<m/\L id m' s' K) (CV id (ann (behind id)) K))
abbrev nxT (A:Nat->St->(X->St->Prop)->Prop) (m:Nat) (K:X->St->Prop) (s:St):Prop:=∃m_,m_<m/\A m_ s K
def aP (P:Program) (f:FuncId) (con:Con):Prop:=(∀args w,(callFunc f args).run P w=.ok (.enter f args) w)/\zg P f con
def vL (P:Program) (f:FuncId) (T:Inl):Prop:=(∀args w,(callFunc f args).run P w=.ok (.enter f args) w)/\Dk P f T
section
variable {P:Program} {E:Tab} {c:TypeId->Bool} {n off:Nat} {deep:Bool} {f:FuncId} {con:Con} {T:Inl} {l:Cons} {inl:List (Nat×Inl)}
theorem kC (h1:aP P f con) (h:dx P ⟨E,c,l,n,inl,off,deep⟩):dx P ⟨E,c,(f,con)::l,n,inl,off,deep⟩:=DH h1.1 h1.2 h
theorem kI (h1:vL P f T) (h:dx P ⟨E,c,[],n,inl,off,deep⟩):dx P ⟨E,c,[],n,(f,T)::inl,off,deep⟩:=EE h1.1 h1.2 h
theorem kN:dx P ⟨E,c,[],n,[],off,deep⟩:=Eh
end
def En (ds:List (Nat×Bool)) (fn:Func):Func:=match ds with
 | []=>fn
 | ds=>{ fn with body:=fn.body.map (fA ds) }
theorem IF {P:Program} {C:Ctx} (ds:List (Nat×Bool)) (hT:TabOk P C) (hm:P.follows .mixedOrders=true) {f:FuncId} {fn:Func} {con:Con} (hf:P.funcs[f]? = some fn) (hq:((fn.name == "runtime.NumGoroutine")||fn.body.isNone)=false) (hC:dx P C) (hN:C.n=fn.ntmps)
  (hcon:∀args hp K,con.run args hp K->(Nat.ble args.length fn.ntmps&&Nat.ble args.length bF)=true/\∃(ann:Nat->List Dir) (L:aX) (k:RK),(∀p∈bJ (dL (En ds fn)),fo C L ann p.1 p.2)/\vcT C L ann (En ds fn) args hp k K):aP P f con:=by
 obtain⟨hq1,hq2⟩:=Bool.or_eq_false_iff.1 hq
 have hb:fn.body=some (dL fn):=by
  unfold dL
  cases h:fn.body with
  | none=>rw[h] at hq2;cases hq2
  | some c=>rfl
 have he:dL (En ds fn)=fA ds (dL fn):=by
  cases ds with
  | nil=>exact(kK _).symm
  | cons d l=>unfold En dL at *;rw[hb];rfl
 have hr:(En ds fn).results=fn.results:=by cases ds<;>rfl
 refine⟨Db hf hq1 hq2,Is (ds:=ds) hT hC hm hf hb hN fun args hp K h=>?_⟩
 obtain⟨h1,h2⟩:=hcon args hp K h
 obtain⟨h3,h4⟩:=Bool.and_eq_true_iff.1 h1
 unfold vcT at h2
 rw[he,hr] at h2
 exact⟨⟨Nat.le_of_ble_eq_true h3,Nat.le_of_ble_eq_true h4⟩,h2⟩
theorem Jn {P:Program} {C:Ctx} (hT:TabOk P C) (hm:P.follows .mixedOrders=true) {f:FuncId} {fn:Func} (hf:P.funcs[f]? = some fn) (hq:((fn.name == "runtime.NumGoroutine")||fn.body.isNone)=false) (hC:dx P C) (hN:C.n=fn.ntmps) {ann:Nat->List Dir}
  (hl:bJ (dL fn)=[]):vL P f (vW C ann (dL fn) fn.results.toList):=by
 obtain⟨hq1,hq2⟩:=Bool.or_eq_false_iff.1 hq
 have hb:fn.body=some (dL fn):=by
  unfold dL
  cases h:fn.body with
  | none=>rw[h] at hq2;cases hq2
  | some c=>rfl
 exact⟨Db hf hq1 hq2,IT hT hC hm hf hb hN hl⟩
end Go.AE
end
