/- Small functions, followed in place: what the caller knows goes along. -/
import Derived.Test.YtmkgiaecgkicoaaGreatAeX
import Derived.Test.YtmkgiaecgkicoaaGreatChecked
import Derived.Test.YtmkgiaecgkicoaaGreatAeLem
import Derived.KernelRfl
section
namespace Go.AE
open Go Go.RowKit
def mP:Env->Env
 | []=>[]
 | (j,v)::l=>(Nat.add j bT,v)::mP l
def nW:Env->Env
 | []=>[]
 | (j,v)::l=>bif Nat.ble bT j then (Nat.sub j bT,v)::nW l else nW l
def Co (E:Tab) (deep:Bool) (rs:List ResultVar) (K:AV->St->Prop) (s:St):Prop:=match rs with
 | [r]=>cL (rI E deep s r) fun p=>K p.1 ⟨nW p.2.env,p.2.hp⟩
 | rs=>cL (qD E deep rs s) fun p=>K (.tup p.1) ⟨nW p.2.env,p.2.hp⟩
def Kt (E:Tab) (deep:Bool) (rs:List ResultVar) (K:AV->St->Prop):X->St->Prop
 | .normal,s=>Co E deep rs K s
 | .ret,s=>Co E deep rs K s
 | .exit _,_=>False
def aA:bC:=fun _ _ _ _=>False
def AB (C:Ctx) (ann:Nat->List Dir) (code:Code) (rs:List ResultVar):Inl:=fun args s K=>
 bif Nat.ble args.length C.n&&Nat.ble C.n bT then awp C aA ann code ⟨oo 0 args++mP s.env,s.hp⟩ (Kt C.tab C.deep rs K) else False
theorem lookup_append {α:Type}:∀(l k:List (Nat×α)) (j:Nat),lookup (l++k) j=match lookup l j with | some v=>some v | none=>lookup k j
 | [],k,j=>by simp[lookup]
 | (i,x)::l,k,j=>by
  rw[List.cons_append,lookup_cons,lookup_cons]
  by_cases h:i=j
  ·rw[if_pos h,if_pos h]
  ·rw[if_neg h,if_neg h]
   exact lookup_append l k j
theorem uR:∀(e:Env) (j:Nat) (v:AV),lookup (mP e) j=some v->∃k,j=k+bT/\lookup e k=some v
 | [],j,v,h=>by simp[mP,lookup] at h
 | (i,x)::l,j,v,h=>by
  unfold mP at h
  rw[lookup_cons] at h
  split at h
  ·rename_i e
   cases h
   exact⟨i,e.symm,by rw[lookup_cons,if_pos rfl]⟩
  ·rename_i hne
   obtain⟨k,hk,hl⟩:=uR l j v h
   refine⟨k,hk,?_⟩
   rw[lookup_cons,if_neg ?_]
   ·exact hl
   ·rintro rfl
    exact hne hk.symm
theorem nc:∀(e:Env) (k:Nat) (v:AV),lookup (nW e) k=some v->lookup e (k+bT)=some v
 | [],k,v,h=>by simp[nW,lookup] at h
 | (i,x)::l,k,v,h=>by
  unfold nW at h
  cases hb:Nat.ble bT i with
  | false=>
   rw[hb] at h
   have hlt:¬bT<=i:=by intro hc;rw[Nat.ble_eq_true_of_le hc] at hb;cases hb
   rw[lookup_cons,if_neg (by omega)]
   exact nc l k v h
  | true=>
   rw[hb] at h
   simp only[cond_true] at h
   have hle:bT<=i:=Nat.le_of_ble_eq_true hb
   rw[lookup_cons] at h
   have hs:Nat.sub i bT=i-bT:=rfl
   split at h
   ·rename_i e
    rw[hs] at e
    cases h
    rw[lookup_cons,if_pos (by omega)]
   ·rename_i e
    rw[hs] at e
    rw[lookup_cons,if_neg (by omega)]
    exact nc l k v h
section
variable {P:Program} {C:Ctx} {g:Gl} {N:Nat} {s:St} {a:Act} {w:World} {φ:Names}
def AY (g:Gl) (gh:Nat->Value):Gl:={ g with gh:=gh }
def Ad (g:Gl) (a:Act) (gh:Nat->Value):Prop:=∀k,gh (k+bT)=valOf g a k
theorem EK (g:Gl) (a:Act):∃gh,Ad g a gh:=⟨fun j=>valOf g a (j-bT),fun k=>by simp only[Nat.add_sub_cancel]⟩
theorem xg (gh:Nat->Value) {hp:Hp} {n:Nat}:imm (AY g gh) φ hp n=imm g φ hp n:=by unfold imm AY;rfl
theorem sQ (gh:Nat->Value):aM (AY g gh)=aM g:=by unfold aM AY;rfl
theorem DB {gh:Nat->Value} {a a':Act} {k:Nat} (hg:Ad g a gh):valOf (AY g gh) a' (k+bT)=valOf g a k:=by
 have hb:Nat.blt (k+bT) bT=false:=by
  cases hb:Nat.blt (k+bT) bT with
  | false=>rfl
  | true=>rw[Nat.blt_eq] at hb;omega
 unfold valOf
 rw[hb]
 simp only[cond_false,AY]
 exact hg k
theorem JS {gh:Nat->Value} (hg:Ad g a gh) {hp:Hp} {args:List AV} {vals:List Value} {n:Nat} {e:Env} (hv:aq w (imm g φ hp w.heap.size) (aM g) φ hp args vals) (he:∀j av,lookup e j=some av->aj w (imm g φ hp w.heap.size) (aM g) φ hp av (valOf g a j))
  (hle:args.length<=n) (hgl:n<=bT) (j:Nat) (av:AV) (hj:lookup (oo 0 args++mP e) j=some av) :
  aj w (imm g φ hp w.heap.size) (aM g) φ hp av (valOf (AY g gh) { tmps:=vals.toArray++Array.replicate (n-vals.toArray.size) undef,defers:=[] } j):=by
 have hlen:=hv.length
 rw[lookup_append] at hj
 split at hj
 ·rename_i v hla
  cases hj
  obtain⟨_,u,h1,h2⟩:=rA hv j av hla
  have h1:vals[j]? = some u:=by simpa using h1
  have hlt:j<vals.length:=(List.getElem?_eq_some_iff.1 h1).1
  have hu:(vals.toArray++Array.replicate (n-vals.toArray.size) undef).getD j undef=u:=by
   rw[Array.getD_eq_getD_getElem?,Array.getElem?_append_left (by simpa using hlt)]
   simp[h1]
  have hjg:Nat.blt j bT=true:=by rw[Nat.blt_eq];omega
  unfold valOf
  rw[hjg]
  simp only[cond_true]
  rw[hu]
  exact h2
 ·obtain⟨k,hk0,hk⟩:=uR _ _ _ hj
  rw[hk0,DB hg]
  exact he k av hk
theorem JG {gh:Nat->Value} (hg:Ad g a gh) {args:List AV} {vals:List Value} {n:Nat} (h:Sim g N s a w φ) (hv:aq w (imm g φ s.hp w.heap.size) (aM g) φ s.hp args vals) (hle:args.length<=n) (hgl:n<=bT) :
  Sim (AY g gh) n ⟨oo 0 args++mP s.env,s.hp⟩ { tmps:=vals.toArray++Array.replicate (n-vals.toArray.size) undef,defers:=[] } w φ:=by
 have hlen:=hv.length
 refine⟨rfl,by simp;omega,h.os,h.tape,h.output,h.hsize,h.frame,h.inj,h.apart,h.place,fun i blk hi=>?_,fun j av hj=>?_,h.pinned⟩
 ·rw[xg,sQ]
  exact h.blocks i blk hi
 ·rw[xg,sQ]
  exact JS hg hv h.env hle hgl j av hj
theorem Ft {gh:Nat->Value} (hg:Ad g a gh) {a':Act} {w':World} {s1:St} {φ1:Names} {n:Nat} (h:Sim g N s a w φ) (hs:Sim (AY g gh) n s1 a' w' φ1):Sim g N ⟨nW s1.env,s1.hp⟩ a w' φ1:=by
 refine⟨h.defers,h.size,hs.os,hs.tape,hs.output,hs.hsize,hs.frame,hs.inj,hs.apart,hs.place,fun i blk hi=>?_,fun k av hk=>?_,hs.pinned⟩
 ·have:=hs.blocks i blk hi
  rw[xg,sQ] at this
  exact this
 ·have:=hs.env _ _ (nc _ _ _ hk)
  rw[xg,sQ,DB hg] at this
  exact this
theorem JV (hT:TabOk P C) (hC:dY P C) (hm:P.follows .mixedOrders=true) {f:FuncId} {fn:Func} {code:Code} (hf:P.funcs[f]? = some fn) (hb:fn.body=some code) (hN:C.n=fn.ntmps) {ann:Nat->List Dir} (hl:bY code=[]) :
  DC P f (AB C ann code fn.results.toList):=by
 intro g N s a w φ args vals K h hv hop
 unfold AB at hop
 cases hq:(Nat.ble args.length C.n&&Nat.ble C.n bT) with
 | false=>rw[hq] at hop;exact hop.elim
 | true=>
 rw[hq] at hop
 simp only[cond_true] at hop
 obtain⟨hq1,hq2⟩:=Bool.and_eq_true_iff.1 hq
 have hle:args.length<=fn.ntmps:=by rw[<-hN];exact Nat.le_of_ble_eq_true hq1
 have hgl:fn.ntmps<=bT:=by rw[<-hN];exact Nat.le_of_ble_eq_true hq2
 obtain⟨gh,hg⟩:=EK g a
 have hS:=JG hg h hv hle hgl
 refine calls_of_wp hf hb (wp_mono (HO (L:=aA) (ann:=ann) hT hC hN hm code (by rw[hl];intro p hp;cases hp) _ _ _ _ φ hS hop) ?_)
 intro e a' w' hq
 have fin:(∃s1 φ1,Co C.tab C.deep fn.results.toList K s1/\Sim (AY g gh) fn.ntmps s1 a' w' φ1)->a'.defers=[]/\∃u,(results fn a'.tmps).run P w'=.ok u w' ∧
   ∃v s' φ',K v s'/\Sim g N s' a w' φ'/\aj w' (imm g φ' s'.hp w'.heap.size) (aM g) φ' s'.hp v u:=by
  rintro ⟨s1,φ1,hk,hs⟩
  refine⟨hs.defers,?_⟩
  unfold Co at hk
  split at hk
  ·rename_i r ht
   obtain⟨p,hp,hk⟩:=aK hk
   obtain⟨u,hrun,h1,_,hv⟩:=uJ hT hs (show rI C.tab _ s1 r=some (p.1,p.2) from hp)
   rw[xg,sQ] at hv
   refine⟨u,?_,p.1,_,φ1,hk,Ft hg h h1,hv⟩
   rw[hU (us:=[u]) (by rw[ht];exact .cons hrun .nil)]
   simp
  ·rename_i hne
   obtain⟨p,hp,hk⟩:=aK hk
   obtain⟨us,h1,_,h3,h4⟩:=qL hT hs (show qD C.tab _ fn.results.toList s1=some (p.1,p.2) from hp)
   rw[xg,sQ] at h4
   have hlen:¬us.toArray.size=1:=by
    intro e
    have e:us.length=1:=e
    rw[<-h3.length_eq] at e
    match hq:fn.results.toList,e with
    | [r],_=>exact hne r hq
   refine⟨_,hU h3,.tup p.1,_,φ1,hk,Ft hg h h1,?_⟩
   rw[dif_neg hlen]
   simp only[aj]
   exact⟨_,rfl,h4⟩
 cases e with
 | normal=>exact fin hq
 | ret=>exact fin hq
 | exit i=>obtain⟨s,φ,hk,_⟩:=hq;exact hk.elim
 | goto l=>exact hq.elim
 | panic c=>exact hq.elim
 | outgrown=>exact hq.elim
end
theorem ln_of_fine:∀{t:Ty} {x:t.D},wD t x->Ln t x
 | .int _,_,_=>trivial
 | .bool,_,_=>trivial
 | .str,_,h=>by
  have h:(_:ByteArray).size<=Go.maxLen:=h
  exact h
 | .unit,_,_=>trivial
 | .sl _,_,h=>⟨h.1,fun y hy=>ln_of_fine (h.2 y hy)⟩
 | .pair _ _,_,h=>⟨ln_of_fine h.1,ln_of_fine h.2⟩
end Go.AE
end
section
namespace Go.AE
open Go Go.RowKit
abbrev LD {α:Type} (x:α) (p:α->Prop):Prop:=∀r,r=x->p r
structure Pat (α:Type) where
 av:α->AV
 run:AV->(α->Prop)->Prop
 elim:∀{v:AV} {k:α->Prop},run v k->∃x,v=av x/\k x
abbrev pD (t:Ty):Pat t.D:=⟨fun x=>.data t x,eX t,bw⟩
abbrev pB (t:Ty):Pat (List t.D):=⟨fun x=>.brw t x,gw t,bV⟩
abbrev pA (t:Ty):Pat t.D:=⟨fun x=>.adr t x,Dt t,ud⟩
abbrev pR (t:Ty):Pat t.D:=⟨fun x=>.ref (.data t x),lB t,de⟩
abbrev pQ (t:Ty):Pat (List t.D):=⟨fun x=>.ref (.brw t x),EU t,DT⟩
section
variable {α β γ δ ε:Type} {l:List AV} {hp:Hp}
def g1 (p:Pat α) (F:α->Prop) (l:List AV) (hp:Hp):Prop:=args1 (fun a=>p.run a F) l hp
def g2 (p:Pat α) (q:Pat β) (F:α->β->Prop) (l:List AV) (hp:Hp):Prop:=args2 (fun a b=>p.run a fun x=>q.run b fun y=>F x y) l hp
def g3 (p:Pat α) (q:Pat β) (r:Pat γ) (F:α->β->γ->Prop) (l:List AV) (hp:Hp):Prop:=rQ (fun a b c=>p.run a fun x=>q.run b fun y=>r.run c fun z=>F x y z) l hp
def g4 (p:Pat α) (q:Pat β) (r:Pat γ) (s:Pat δ) (F:α->β->γ->δ->Prop) (l:List AV) (hp:Hp):Prop:=FP (fun a b c d=>p.run a fun x=>q.run b fun y=>r.run c fun z=>s.run d fun u=>F x y z u) l hp
theorem g1e {p:Pat α} {F:α->Prop} (h0:g1 p F l hp):∃x,l=[p.av x]/\hp=[]/\F x:=by
 obtain⟨a,rfl,rfl,h1⟩:=zw h0
 obtain⟨x,rfl,h2⟩:=p.elim h1
 exact⟨x,rfl,rfl,h2⟩
theorem g2e {p:Pat α} {q:Pat β} {F:α->β->Prop} (h0:g2 p q F l hp):∃x y,l=[p.av x,q.av y]/\hp=[]/\F x y:=by
 obtain⟨a,b,rfl,rfl,h1⟩:=bB h0
 obtain⟨x,rfl,h2⟩:=p.elim h1
 obtain⟨y,rfl,h3⟩:=q.elim h2
 exact⟨x,y,rfl,rfl,h3⟩
theorem g3e {p:Pat α} {q:Pat β} {r:Pat γ} {F:α->β->γ->Prop} (h0:g3 p q r F l hp):∃x y z,l=[p.av x,q.av y,r.av z]/\hp=[]/\F x y z:=by
 obtain⟨a,b,c,rfl,rfl,h1⟩:=gd h0
 obtain⟨x,rfl,h2⟩:=p.elim h1
 obtain⟨y,rfl,h3⟩:=q.elim h2
 obtain⟨z,rfl,h4⟩:=r.elim h3
 exact⟨x,y,z,rfl,rfl,h4⟩
end
def hpR (F:List Int->Int->Prop) (hp:Hp):Prop:=match hp with
 | [(k,.box [.data u b,.data v p])]=>(match Ty.eq? u (.sl (.int .u8)),Ty.eq? v (.int .i64) with
  | some ⟨h⟩,some ⟨h'⟩=>bif Nat.beq k base then F (dQ h b) (dQ h' p) else False
  | _,_=>False)
 | _=>False
theorem eT {F:List Int->Int->Prop} {hp:Hp} (h:hpR F hp):∃(b:List Int) (p:Int),hp=[(1000000,.box [.data (.sl (.int .u8)) b,.data (.int .i64) p])]/\F b p:=by
 unfold hpR at h
 split at h
 ·rename_i k u b v p
  split at h
  ·rename_i h1 h2 _ _
   cases h1
   cases h2
   rcases bg k base with⟨rfl,hb⟩ | ⟨_,hb⟩
   ·rw[hb] at h
    exact⟨b,p,rfl,h⟩
   ·rw[hb] at h
    exact h.elim
  ·exact h.elim
 ·exact h.elim
def me (a:AV) (F:Prop):Prop:=match a with
 | .ptr k 0=>bif Nat.beq k base then F else False
 | _=>False
theorem dh {a:AV} {F:Prop} (h:me a F):a=.ptr 1000000 0/\F:=by
 unfold me at h
 split at h
 ·rename_i k
  rcases bg k base with⟨rfl,hb⟩ | ⟨_,hb⟩
  ·rw[hb] at h;exact⟨rfl,h⟩
  ·rw[hb] at h;exact h.elim
 ·exact h.elim
theorem oG {α:Type} {p q:Prop} {x:Option α} {K:α->Prop} (h:ok (af p x) K) (k:p->ok x K->q):p/\q:=⟨(aG h).1,k (aG h).1 (aG h).2⟩
theorem oL {α β:Type} {x:α} {f:α->Option β} {K:β->Prop} {Q:α->Prop} (h:ok (aL x f) K) (k:∀r,r=x->ok (f r) K->Q r):∀r,r=x->Q r:=fun r e=>k r e (cX h r e)
theorem oC {α:Type} {b:Bool} {x y:Option α} {K:α->Prop} {T U:Prop} (h:ok (cond b x y) K) (h1:b=true->ok x K->T) (h2:b=false->ok y K->U):cond b T U:=Jh h h1 h2
def Ht:Nat->Nat->Nat->List Nat
 | 0,_,_=>[]
 | f+1,i,b=>bif Nat.beq b 0 then [] else bif Nat.beq (Nat.mod b 2) 1 then i::Ht f (Nat.succ i) (Nat.div b 2) else Ht f (Nat.succ i) (Nat.div b 2)
def kp (b:Nat):Dir:=.keep (Ht 400 0 b)
def Hs:List (List Dir)->Nat->List Dir
 | [],_=>[]
 | d::l,n=>match n with
  | 0=>d
  | k+1=>Hs l k
def an (l m:List (List Dir)) (n:Nat):List Dir:=bif Nat.blt n 100000 then Hs l n else Hs m (Nat.sub n 100000)
def lp1 (a:Nat) (A:Nat->St->(X->St->Prop)->Prop):bC:=fun id m s K=>bif Nat.beq id a then A m s K else False
def lp2 (a:Nat) (A:Nat->St->(X->St->Prop)->Prop) (b:Nat) (B:Nat->St->(X->St->Prop)->Prop):bC:=fun id m s K=>bif Nat.beq id a then A m s K else bif Nat.beq id b then B m s K else False
abbrev vcT (C:Ctx) (L:bC) (ann:Nat->List Dir) (fn:Func) (args:List AV) (hp:Hp) (k:RK) (K:AV->Hp->Prop):Prop:=
 awp C L ann (eY fn) ⟨oo 0 args,hp⟩ (Km C.tab C.deep C.two fn.results.toList (ED hp) (DS k K))
abbrev lvT (C:Ctx) (L:bC) (ann:Nat->List Dir) (fn:Func) (n id:Nat) (s:St) (m:Nat) (K:X->St->Prop):Prop:=
 awp C L ann (kO (eY fn) n) s (HX (fun s'=>∃m',m'<m/\L id m' s' K) (DL id (ann (behind id)) K))
abbrev nxT (A:Nat->St->(X->St->Prop)->Prop) (m:Nat) (K:X->St->Prop) (s:St):Prop:=∃m_,m_<m/\A m_ s K
def aV (P:Program) (f:FuncId) (con:Con):Prop:=(∀args w,(callFunc f args).run P w=.ok (.enter f args) w)/\Ar P f con
def AO (P:Program) (f:FuncId) (T:Inl):Prop:=(∀args w,(callFunc f args).run P w=.ok (.enter f args) w)/\DC P f T
section
variable {P:Program} {E:Tab} {c:TypeId->Bool} {n off:Nat} {deep two:Bool} {f:FuncId} {con:Con} {T:Inl} {l:Cons} {inl:List (Nat×Inl)}
theorem kC (h1:aV P f con) (h:dY P ⟨E,c,l,n,inl,off,deep,two⟩):dY P ⟨E,c,(f,con)::l,n,inl,off,deep,two⟩:=CO h1.1 h1.2 h
theorem kI (h1:AO P f T) (h:dY P ⟨E,c,[],n,inl,off,deep,two⟩):dY P ⟨E,c,[],n,(f,T)::inl,off,deep,two⟩:=EA h1.1 h1.2 h
theorem kN:dY P ⟨E,c,[],n,[],off,deep,two⟩:=Ek
end
def wj (ds:List (Nat×Bool)) (fn:Func):Func:=match ds with
 | []=>fn
 | ds=>{ fn with body:=fn.body.map (fM ds) }
theorem Jq {P:Program} {C:Ctx} (ds:List (Nat×Bool)) (hT:TabOk P C) (hm:P.follows .mixedOrders=true) {f:FuncId} {fn:Func} {con:Con} (hf:P.funcs[f]? = some fn) (hq:((fn.name == "runtime.NumGoroutine")||fn.body.isNone)=false) (hC:dY P C) (hN:C.n=fn.ntmps)
  (hcon:∀args hp K,con.run args hp K->(Nat.ble args.length fn.ntmps&&Nat.ble args.length bT)=true/\∃(ann:Nat->List Dir) (L:bC) (k:RK),(∀p∈bY (eY (wj ds fn)),fJ C L ann p.1 p.2)/\vcT C L ann (wj ds fn) args hp k K):aV P f con:=by
 obtain⟨hq1,hq2⟩:=Bool.or_eq_false_iff.1 hq
 have hb:fn.body=some (eY fn):=by
  unfold eY
  cases h:fn.body with
  | none=>rw[h] at hq2;cases hq2
  | some c=>rfl
 have he:eY (wj ds fn)=fM ds (eY fn):=by
  cases ds with
  | nil=>exact(lf _).symm
  | cons d l=>unfold wj eY at *;rw[hb];rfl
 have hr:(wj ds fn).results=fn.results:=by cases ds<;>rfl
 refine⟨DW hf hq1 hq2,II (ds:=ds) hT hC hm hf hb hN fun args hp K h=>?_⟩
 obtain⟨h1,h2⟩:=hcon args hp K h
 obtain⟨h3,h4⟩:=Bool.and_eq_true_iff.1 h1
 unfold vcT at h2
 rw[he,hr] at h2
 exact⟨⟨Nat.le_of_ble_eq_true h3,Nat.le_of_ble_eq_true h4⟩,h2⟩
theorem Kj {P:Program} {C:Ctx} (hT:TabOk P C) (hm:P.follows .mixedOrders=true) {f:FuncId} {fn:Func} (hf:P.funcs[f]? = some fn) (hq:((fn.name == "runtime.NumGoroutine")||fn.body.isNone)=false) (hC:dY P C) (hN:C.n=fn.ntmps) {ann:Nat->List Dir}
  (hl:bY (eY fn)=[]):AO P f (AB C ann (eY fn) fn.results.toList):=by
 obtain⟨hq1,hq2⟩:=Bool.or_eq_false_iff.1 hq
 have hb:fn.body=some (eY fn):=by
  unfold eY
  cases h:fn.body with
  | none=>rw[h] at hq2;cases hq2
  | some c=>rfl
 exact⟨DW hf hq1 hq2,JV hT hC hm hf hb hN hl⟩
end Go.AE
end
section
namespace Go.AE
open Go Go.RowKit
noncomputable abbrev P:Program:=Go.Proofs.Tryz.prog
def tab:Tab:=[(4,⟨.val Ty.bool,1,1⟩),
  (43,⟨.sl 5 (Ty.int .u8),1,24⟩),
  (5,⟨.val (Ty.int .u8),1,1⟩),
  (3,⟨.val (Ty.int .i64),1,8⟩),
  (54,⟨.other,1,0⟩),
  (28,⟨.sl 75 ag,1,24⟩),
  (75,⟨.st [(0,73, "Columns"),(1,71, "Rows")] ag,2,48⟩),
  (73,⟨.sl 115 ax,1,24⟩),
  (115,⟨.st [(0,3, "Kind"),(1,4, "Empty")] ax,2,16⟩),
  (71,⟨.sl 48 (Ty.sl aa),1,24⟩),
  (48,⟨.sl 118 aa,1,24⟩),
  (118,⟨.st [(0,3, "Kind"),(1,3, "N"),(2,9, "S")] aa,3,32⟩),
  (9,⟨.val Ty.str,1,16⟩),
  (32,⟨.sl 61 ah,1,24⟩),
  (61,⟨.st [(0,3, "Kind"),(1,3, "In"),(2,56, "List"),(3,3, "Of"),(4,56, "To"),(5,4, "Follow"),(6,59, "E")] ah,7,104⟩),
  (56,⟨.sl 3 (Ty.int .i64),1,24⟩),
  (59,⟨.sl 165 aE,1,24⟩),
  (165,⟨.st [(0,3, "Kind"),(1,3, "N"),(2,118, "V")] aE,5,48⟩),
  (50,⟨.st [(0,3, "In"),(1,48, "Row"),(2,4, "Come")] ay,3,40⟩),
  (0,⟨.other,1,0⟩),
  (29,⟨.other,1,0⟩),
  (132,⟨.other,1,8⟩),
  (107,⟨.ptr 168,1,8⟩),
  (168,⟨.st [(0,43, "b"),(1,3, "p")] (Ty.pair (Ty.sl (Ty.int .u8)) (Ty.pair (Ty.int .i64) Ty.unit)),2,32⟩),
  (109,⟨.other,1,0⟩),
  (174,⟨.ptr 75,1,8⟩),
  (179,⟨.other,1,8⟩),
  (196,⟨.other,1,0⟩),
  (224,⟨.other,1,0⟩),
  (228,⟨.other,1,8⟩),
  (172,⟨.other,1,8⟩),
  (251,⟨.sl 9 Ty.str,1,24⟩)]
def GD:List TypeId:=[4,115,118]
theorem tab_check:Bs P tab tab=true:=by kernel_rfl
theorem vW:CU P tab GD=true:=by kernel_rfl
theorem mixed:P.follows .mixedOrders=true:=by kernel_rfl
abbrev cx (l:Cons) (n:Nat) (inl:List (Nat×Inl)) (off:Nat) (deep:Bool):Ctx:=⟨tab,fun t=>jB t GD,l,n,inl,off,deep,false⟩
abbrev cx2 (l:Cons) (n:Nat) (inl:List (Nat×Inl)) (off:Nat) (deep:Bool):Ctx:=⟨tab,fun t=>jB t GD,l,n,inl,off,deep,true⟩
theorem aY (C:Ctx) {f:FuncId} {fn:Func} {con:Con} (hf:P.funcs[f]? = some fn) (hC:dY P C) (hcon:∀args hp K,con.run args hp K->(Nat.ble args.length fn.ntmps&&Nat.ble args.length bT)=true/\∃(ann:Nat->List Dir) (L:bC) (k:RK),(∀p∈bY (eY fn),fJ C L ann p.1 p.2)/\vcT C L ann fn args hp k K)
    (hT:TabOk P C:=by exact Cc tab_check vW) (hq:((fn.name == "runtime.NumGoroutine")||fn.body.isNone)=false:=by kernel_rfl) (hN:C.n=fn.ntmps:=by rfl):aV P f con:=Jq [] hT mixed hf hq hC hN hcon
theorem JB (ds:List (Nat×Bool)) (C:Ctx) {f:FuncId} {fn:Func} {con:Con} (hf:P.funcs[f]? = some fn) (hC:dY P C) (hcon:∀args hp K,con.run args hp K->(Nat.ble args.length fn.ntmps&&Nat.ble args.length bT)=true/\∃(ann:Nat->List Dir) (L:bC) (k:RK),(∀p∈bY (eY (wj ds fn)),fJ C L ann p.1 p.2)/\vcT C L ann (wj ds fn) args hp k K)
    (hT:TabOk P C:=by exact Cc tab_check vW) (hq:((fn.name == "runtime.NumGoroutine")||fn.body.isNone)=false:=by kernel_rfl) (hN:C.n=fn.ntmps:=by rfl):aV P f con:=Jq ds hT mixed hf hq hC hN hcon
theorem GC (C:Ctx) {f:FuncId} {fn:Func} (hf:P.funcs[f]? = some fn) (hC:dY P C) {ann:Nat->List Dir} (hT:TabOk P C:=by exact Cc tab_check vW) (hq:((fn.name == "runtime.NumGoroutine")||fn.body.isNone)=false:=by kernel_rfl) (hN:C.n=fn.ntmps:=by rfl)
    (hl:bY (eY fn)=[]:=by kernel_rfl):AO P f (AB C ann (eY fn) fn.results.toList):=Kj hT mixed hf hq hC hN hl
abbrev nT (xs:List ag.D) (i:Int):ag.D:=nth (t:=ag) xs i
abbrev nS (xs:List sk.D) (i:Int):sk.D:=nth (t:=sk) xs i
abbrev nC (xs:List ax.D) (i:Int):ax.D:=nth (t:=ax) xs i
abbrev nI (xs:List aD.D) (i:Int):aD.D:=nth (t:=aD) xs i
abbrev nP (xs:List aE.D) (i:Int):aE.D:=nth (t:=aE) xs i
abbrev nM (xs:List GS.D) (i:Int):GS.D:=nth (t:=GS) xs i
abbrev nG (xs:List lQ.D) (i:Int):lQ.D:=nth (t:=lQ) xs i
abbrev nV (xs:List aa.D) (i:Int):aa.D:=nth (t:=aa) xs i
abbrev Z0:Int:=0
abbrev Z1:Int:=1
abbrev Z2:Int:=2
abbrev Z3:Int:=3
abbrev Z4:Int:=4
abbrev Z5:Int:=5
abbrev Z6:Int:=6
abbrev dI (n:Int):AV:=.data aD n
abbrev dB (b:Bool):AV:=.data Ty.bool b
abbrev KA:Type:=AV->Hp->Prop
abbrev KX:Type:=X->St->Prop
abbrev TBy:Ty:=.sl (.int .u8)
abbrev LI:Type:=List Int
abbrev LLI:Type:=List LI
end Go.AE
end
