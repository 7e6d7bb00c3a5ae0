/- Plans with guards: plain Lean. -/
import Derived.Test.YtiplhefglgpdoaaGreatAeMP
import Derived.Test.YtiplhefglgpdoaaGreatAeX
import Derived.Test.YtiplhefglgpdoaaGreatChecked
import Derived.KernelRfl
section
namespace Go.AE
open Go Go.RowKit
set_option linter.unusedVariables false
namespace M
theorem tc {σ α:Type} (g:σ->α->Option σ):∀(xs:List α) (x:α) (s:σ),dr g (xs++[x]) s=match dr g xs s with
  | some s'=>g s' x
  | none=>none
 | [],x,s=>by
  show (match g s x with | some s'=>some s' | none=>none)=_
  show _=g s x
  cases g s x<;>rfl
 | y::xs,x,s=>by
  show (match g s y with | some s'=>dr g (xs++[x]) s' | none=>none)=match (match g s y with | some s'=>dr g xs s' | none=>none) with | some s'=>g s' x | none=>none
  cases g s y with
  | none=>rfl
  | some s'=>exact tc g xs x s'
theorem yR {σ α:Type} (g:σ->α->Option σ):∀(xs:List α) (k:Nat) (s r:σ),dr g xs s=some r->∃s',dr g (xs.take k) s=some s'
 | [],k,s,r,h=>⟨s,by simp[dr]⟩
 | x::xs,0,s,r,h=>⟨s,rfl⟩
 | x::xs,k+1,s,r,h=>by
  unfold dr at h
  cases hg:g s x with
  | none=>rw[hg] at h;cases h
  | some s1=>
   rw[hg] at h
   obtain⟨s',h'⟩:=yR g xs k s1 r h
   refine⟨s',?_⟩
   rw[List.take_succ_cons]
   unfold dr
   rw[hg]
   exact h'
theorem fL {t:Ty} {xs ys:List t.D} {i:Int} (h0:0<=i) (h1:i<(xs.length:Int)):nth (t:=t) (xs++ys) i=nth (t:=t) xs i:=by
 unfold nth
 rw[List.getD_eq_getElem?_getD,List.getD_eq_getElem?_getD,List.getElem?_append_left (by omega)]
theorem iL {t:Ty} {xs:List t.D} {x:t.D} {i:Int} (h:i=(xs.length:Int)):nth (t:=t) (xs++[x]) i=x:=by
 subst h
 unfold nth
 rw[List.getD_eq_getElem?_getD]
 simp
theorem yI (to:List Int) (s:ah.D):bJ (ren to s)=bJ s:=by
 unfold bJ ren
 simp only
 cases h1:decide (s.1=(1:Int))<;>cases h2:two s.1<;>simp
def mF (st st':fk) (to:List Int) (k:Int):Prop:=(st.1.length:Int)=k/\(st.2.length:Int)=k/\st'.1.length=st'.2.length ∧
 ∀j:Int,0<=j->j<k->(0<=nth (t:=.int .i64) to j/\nth (t:=.int .i64) to j<(st'.1.length:Int))/\nth (t:=.sl ag) st'.1 (nth (t:=.int .i64) to j)=nth (t:=.sl ag) st.1 j/\nth (t:=.int .i64) st'.2 (nth (t:=.int .i64) to j)=nth (t:=.int .i64) st.2 j
theorem lT {n N:Int}:inR n 0 (N-1)=true ↔ 0<=n/\n<N:=by
 unfold inR
 simp
 omega
theorem HN {s:ah.D} (h:bJ s=true) (h2:two s.1=false):s.2.2.1=(0:Int):=by
 unfold bJ at h
 rw[h2] at h
 have h:=(Bool.and_eq_true_iff.1 (Bool.and_eq_true_iff.1 h).2).1
 simpa using h
theorem iC {tables:List ax.D} {st st':fk} {s:ah.D} (h:bQ tables st s=some st') :
  ∃c,bZ tables st.1 s=some c/\decide ((300:Int)<aP st.2 s)=false/\st'=(st.1++[c],st.2++[aP st.2 s]):=by
 unfold bQ at h
 cases hc:bZ tables st.1 s with
 | none=>rw[hc] at h;cases h
 | some c=>
  rw[hc] at h
  simp only at h
  cases hd:decide ((300:Int)<aP st.2 s) with
  | true=>rw[hd] at h;cases h
  | false=>
   rw[hd] at h
   cases h
   exact⟨c,rfl,rfl,rfl⟩
theorem Ca {tables:List ax.D} {st:fk} {s:ah.D} {c:List ag.D} {m:Int} (h1:bZ tables st.1 s=some c) (h2:aP st.2 s=m) (h3:decide ((300:Int)<m)=false):bQ tables st s=some (st.1++[c],st.2++[m]):=by
 unfold bQ
 rw[h1]
 simp only
 rw[h2,h3]
 rfl
theorem jZ {t:Ty} {xs:List t.D} {k:Nat} (h:k<xs.length):xs.take (k+1)=xs.take k++[nth (t:=t) xs (k:Int)]:=by
 rw[List.take_succ_eq_append_getElem h,vN (t:=t) (by omega) (by omega)]
 rfl
end M
end Go.AE
namespace Go.AE
open Go Go.RowKit
theorem M.DW {tables:List ax.D} {plan:List ah.D} (h:bC tables plan=true):plan.length<=6:=by
 unfold bC at h
 obtain⟨_,h⟩:=Bool.and_eq_true_iff.1 h
 obtain⟨_,h⟩:=Bool.and_eq_true_iff.1 h
 unfold inR at h
 simp at h
 omega
end Go.AE
end
section
namespace Go.AE
open Go Go.RowKit
def mS:Env->Env
 | []=>[]
 | (j,v)::l=>(Nat.add j bO,v)::mS l
def ng:Env->Env
 | []=>[]
 | (j,v)::l=>bif Nat.ble bO j then (Nat.sub j bO,v)::ng l else ng l
def Ct (E:Tab) (deep:Bool) (rs:List ResultVar) (K:AV->St->Prop) (s:St):Prop:=match rs with
 | [r]=>cD (qV E deep s r) fun p=>K p.1 ⟨ng p.2.env,p.2.hp⟩
 | rs=>cD (qH E deep rs s) fun p=>K (.tup p.1) ⟨ng p.2.env,p.2.hp⟩
def JW (E:Tab) (deep:Bool) (rs:List ResultVar) (K:AV->St->Prop):X->St->Prop
 | .normal,s=>Ct E deep rs K s
 | .ret,s=>Ct E deep rs K s
 | .exit _,_=>False
def aB:bH:=fun _ _ _ _=>False
def uo (C:Ctx) (ann:Nat->List Dir) (code:Code) (rs:List ResultVar):Inl:=fun args s K=>
 bif Nat.ble args.length C.n&&Nat.ble C.n bO then awp C aB ann code ⟨oa 0 args++mS s.env,s.hp⟩ (JW C.tab C.deep rs K) else False
theorem lookup_append {α:Type}:∀(l k:List (Nat×α)) (j:Nat),lookup (l++k) j=match lookup l j with | some v=>some v | none=>lookup k j
 | [],k,j=>by simp[lookup]
 | (i,x)::l,k,j=>by
  rw[List.cons_append,lookup_cons,lookup_cons]
  by_cases h:i=j
  ·rw[if_pos h,if_pos h]
  ·rw[if_neg h,if_neg h]
   exact lookup_append l k j
theorem ua:∀(e:Env) (j:Nat) (v:AV),lookup (mS e) j=some v->∃k,j=k+bO/\lookup e k=some v
 | [],j,v,h=>by simp[mS,lookup] at h
 | (i,x)::l,j,v,h=>by
  unfold mS at h
  rw[lookup_cons] at h
  split at h
  ·rename_i e
   cases h
   exact⟨i,e.symm,by rw[lookup_cons,if_pos rfl]⟩
  ·rename_i hne
   obtain⟨k,hk,hl⟩:=ua l j v h
   refine⟨k,hk,?_⟩
   rw[lookup_cons,if_neg ?_]
   ·exact hl
   ·rintro rfl
    exact hne hk.symm
theorem mT:∀(e:Env) (k:Nat) (v:AV),lookup (ng e) k=some v->lookup e (k+bO)=some v
 | [],k,v,h=>by simp[ng,lookup] at h
 | (i,x)::l,k,v,h=>by
  unfold ng at h
  cases hb:Nat.ble bO i with
  | false=>
   rw[hb] at h
   have hlt:¬bO<=i:=by intro hc;rw[Nat.ble_eq_true_of_le hc] at hb;cases hb
   rw[lookup_cons,if_neg (by omega)]
   exact mT l k v h
  | true=>
   rw[hb] at h
   simp only[cond_true] at h
   have hle:bO<=i:=Nat.le_of_ble_eq_true hb
   rw[lookup_cons] at h
   have hs:Nat.sub i bO=i-bO:=rfl
   split at h
   ·rename_i e
    rw[hs] at e
    cases h
    rw[lookup_cons,if_pos (by omega)]
   ·rename_i e
    rw[hs] at e
    rw[lookup_cons,if_neg (by omega)]
    exact mT l k v h
section
variable {P:Program} {C:Ctx} {g:Gl} {N:Nat} {s:St} {a:Act} {w:World} {φ:Names}
def Az (g:Gl) (gh:Nat->Value):Gl:={ g with gh:=gh }
def yT (g:Gl) (a:Act) (gh:Nat->Value):Prop:=∀k,gh (k+bO)=valOf g a k
theorem Ez (g:Gl) (a:Act):∃gh,yT g a gh:=⟨fun j=>valOf g a (j-bO),fun k=>by simp only[Nat.add_sub_cancel]⟩
theorem wg (gh:Nat->Value) {hp:Hp} {n:Nat}:imm (Az g gh) φ hp n=imm g φ hp n:=by unfold imm Az;rfl
theorem rK (gh:Nat->Value):aL (Az g gh)=aL g:=by unfold aL Az;rfl
theorem CF {gh:Nat->Value} {a a':Act} {k:Nat} (hg:yT g a gh):valOf (Az g gh) a' (k+bO)=valOf g a k:=by
 have hb:Nat.blt (k+bO) bO=false:=by
  cases hb:Nat.blt (k+bO) bO with
  | false=>rfl
  | true=>rw[Nat.blt_eq] at hb;omega
 unfold valOf
 rw[hb]
 simp only[cond_false,Az]
 exact hg k
theorem Je {gh:Nat->Value} (hg:yT g a gh) {hp:Hp} {args:List AV} {vals:List Value} {n:Nat} {e:Env} (hv:ak w (imm g φ hp w.heap.size) (aL g) φ hp args vals) (he:∀j av,lookup e j=some av->aj w (imm g φ hp w.heap.size) (aL g) φ hp av (valOf g a j))
  (hle:args.length<=n) (hgl:n<=bO) (j:Nat) (av:AV) (hj:lookup (oa 0 args++mS e) j=some av) :
  aj w (imm g φ hp w.heap.size) (aL g) φ hp av (valOf (Az g gh) { tmps:=vals.toArray++Array.replicate (n-vals.toArray.size) undef,defers:=[] } j):=by
 have hlen:=hv.length
 rw[lookup_append] at hj
 split at hj
 ·rename_i v hla
  cases hj
  obtain⟨_,u,h1,h2⟩:=rG hv j av hla
  have h1:vals[j]? = some u:=by simpa using h1
  have hlt:j<vals.length:=(List.getElem?_eq_some_iff.1 h1).1
  have hu:(vals.toArray++Array.replicate (n-vals.toArray.size) undef).getD j undef=u:=by
   rw[Array.getD_eq_getD_getElem?,Array.getElem?_append_left (by simpa using hlt)]
   simp[h1]
  have hjg:Nat.blt j bO=true:=by rw[Nat.blt_eq];omega
  unfold valOf
  rw[hjg]
  simp only[cond_true]
  rw[hu]
  exact h2
 ·obtain⟨k,hk0,hk⟩:=ua _ _ _ hj
  rw[hk0,CF hg]
  exact he k av hk
theorem Jq {gh:Nat->Value} (hg:yT g a gh) {args:List AV} {vals:List Value} {n:Nat} (h:Sim g N s a w φ) (hv:ak w (imm g φ s.hp w.heap.size) (aL g) φ s.hp args vals) (hle:args.length<=n) (hgl:n<=bO) :
  Sim (Az g gh) n ⟨oa 0 args++mS s.env,s.hp⟩ { tmps:=vals.toArray++Array.replicate (n-vals.toArray.size) undef,defers:=[] } w φ:=by
 have hlen:=hv.length
 refine⟨rfl,by simp;omega,h.os,h.tape,h.output,h.hsize,h.frame,h.inj,h.apart,h.place,fun i blk hi=>?_,fun j av hj=>?_,h.pinned⟩
 ·rw[wg,rK]
  exact h.blocks i blk hi
 ·rw[wg,rK]
  exact Je hg hv h.env hle hgl j av hj
theorem Fh {gh:Nat->Value} (hg:yT g a gh) {a':Act} {w':World} {s1:St} {φ1:Names} {n:Nat} (h:Sim g N s a w φ) (hs:Sim (Az g gh) n s1 a' w' φ1):Sim g N ⟨ng s1.env,s1.hp⟩ a w' φ1:=by
 refine⟨h.defers,h.size,hs.os,hs.tape,hs.output,hs.hsize,hs.frame,hs.inj,hs.apart,hs.place,fun i blk hi=>?_,fun k av hk=>?_,hs.pinned⟩
 ·have:=hs.blocks i blk hi
  rw[wg,rK] at this
  exact this
 ·have:=hs.env _ _ (mT _ _ _ hk)
  rw[wg,rK,CF hg] at this
  exact this
theorem Jx (hT:TabOk P C) (hC:dO P C) (hm:P.follows .mixedOrders=true) {f:FuncId} {fn:Func} {code:Code} (hf:P.funcs[f]? = some fn) (hb:fn.body=some code) (hN:C.n=fn.ntmps) {ann:Nat->List Dir} (hl:bS code=[]) :
  FK P f (uo C ann code fn.results.toList):=by
 intro g N s a w φ args vals K h hv hop
 unfold uo at hop
 cases hq:(Nat.ble args.length C.n&&Nat.ble C.n bO) with
 | false=>rw[hq] at hop;exact hop.elim
 | true=>
 rw[hq] at hop
 simp only[cond_true] at hop
 obtain⟨hq1,hq2⟩:=Bool.and_eq_true_iff.1 hq
 have hle:args.length<=fn.ntmps:=by rw[<-hN];exact Nat.le_of_ble_eq_true hq1
 have hgl:fn.ntmps<=bO:=by rw[<-hN];exact Nat.le_of_ble_eq_true hq2
 obtain⟨gh,hg⟩:=Ez g a
 have hS:=Jq hg h hv hle hgl
 refine calls_of_wp hf hb (wp_mono (GX (L:=aB) (ann:=ann) hT hC hN hm code (by rw[hl];intro p hp;cases hp) _ _ _ _ φ hS hop) ?_)
 intro e a' w' hq
 have fin:(∃s1 φ1,Ct C.tab C.deep fn.results.toList K s1/\Sim (Az g gh) fn.ntmps s1 a' w' φ1)->a'.defers=[]/\∃u,(results fn a'.tmps).run P w'=.ok u w' ∧
   ∃v s' φ',K v s'/\Sim g N s' a w' φ'/\aj w' (imm g φ' s'.hp w'.heap.size) (aL g) φ' s'.hp v u:=by
  rintro ⟨s1,φ1,hk,hs⟩
  refine⟨hs.defers,?_⟩
  unfold Ct at hk
  split at hk
  ·rename_i r ht
   obtain⟨p,hp,hk⟩:=aG hk
   obtain⟨u,hrun,h1,_,hv⟩:=uS hT hs (show qV C.tab _ s1 r=some (p.1,p.2) from hp)
   rw[wg,rK] at hv
   refine⟨u,?_,p.1,_,φ1,hk,Fh hg h h1,hv⟩
   rw[jc (us:=[u]) (by rw[ht];exact .cons hrun .nil)]
   simp
  ·rename_i hne
   obtain⟨p,hp,hk⟩:=aG hk
   obtain⟨us,h1,_,h3,h4⟩:=sN hT hs (show qH C.tab _ fn.results.toList s1=some (p.1,p.2) from hp)
   rw[wg,rK] at h4
   have hlen:¬us.toArray.size=1:=by
    intro e
    have e:us.length=1:=e
    rw[<-h3.length_eq] at e
    match hq:fn.results.toList,e with
    | [r],_=>exact hne r hq
   refine⟨_,jc h3,.tup p.1,_,φ1,hk,Fh hg h h1,?_⟩
   rw[dif_neg hlen]
   simp only[aj]
   exact⟨_,rfl,h4⟩
 cases e with
 | normal=>exact fin hq
 | ret=>exact fin hq
 | exit i=>obtain⟨s,φ,hk,_⟩:=hq;exact hk.elim
 | goto l=>exact hq.elim
 | panic c=>exact hq.elim
 | outgrown=>exact hq.elim
end
theorem ln_of_fine:∀{t:Ty} {x:t.D},wz t x->Ln t x
 | .int _,_,_=>trivial
 | .bool,_,_=>trivial
 | .str,_,h=>by
  have h:(_:ByteArray).size<=Go.maxLen:=h
  exact h
 | .unit,_,_=>trivial
 | .sl _,_,h=>⟨h.1,fun y hy=>ln_of_fine (h.2 y hy)⟩
 | .pair _ _,_,h=>⟨ln_of_fine h.1,ln_of_fine h.2⟩
end Go.AE
end
section
namespace Go.AE
open Go Go.RowKit
abbrev LD {α:Type} (x:α) (p:α->Prop):Prop:=∀r,r=x->p r
structure Pat (α:Type) where
 av:α->AV
 run:AV->(α->Prop)->Prop
 elim:∀{v:AV} {k:α->Prop},run v k->∃x,v=av x/\k x
abbrev pD (t:Ty):Pat t.D:=⟨fun x=>.data t x,ff t,bp⟩
abbrev pB (t:Ty):Pat (List t.D):=⟨fun x=>.brw t x,lJ t,cZ⟩
abbrev pA (t:Ty):Pat t.D:=⟨fun x=>.adr t x,Ia t,Ea⟩
abbrev pR (t:Ty):Pat t.D:=⟨fun x=>.ref (.data t x),zT t,mD⟩
abbrev pQ (t:Ty):Pat (List t.D):=⟨fun x=>.ref (.brw t x),Eh t,DY⟩
section
variable {α β γ δ ε:Type} {l:List AV} {hp:Hp}
def g1 (p:Pat α) (F:α->Prop) (l:List AV) (hp:Hp):Prop:=args1 (fun a=>p.run a F) l hp
def g2 (p:Pat α) (q:Pat β) (F:α->β->Prop) (l:List AV) (hp:Hp):Prop:=args2 (fun a b=>p.run a fun x=>q.run b fun y=>F x y) l hp
def g3 (p:Pat α) (q:Pat β) (r:Pat γ) (F:α->β->γ->Prop) (l:List AV) (hp:Hp):Prop:=wO (fun a b c=>p.run a fun x=>q.run b fun y=>r.run c fun z=>F x y z) l hp
def g4 (p:Pat α) (q:Pat β) (r:Pat γ) (s:Pat δ) (F:α->β->γ->δ->Prop) (l:List AV) (hp:Hp):Prop:=CH (fun a b c d=>p.run a fun x=>q.run b fun y=>r.run c fun z=>s.run d fun u=>F x y z u) l hp
theorem g1e {p:Pat α} {F:α->Prop} (h0:g1 p F l hp):∃x,l=[p.av x]/\hp=[]/\F x:=by
 obtain⟨a,rfl,rfl,h1⟩:=sL h0
 obtain⟨x,rfl,h2⟩:=p.elim h1
 exact⟨x,rfl,rfl,h2⟩
theorem g2e {p:Pat α} {q:Pat β} {F:α->β->Prop} (h0:g2 p q F l hp):∃x y,l=[p.av x,q.av y]/\hp=[]/\F x y:=by
 obtain⟨a,b,rfl,rfl,h1⟩:=bT h0
 obtain⟨x,rfl,h2⟩:=p.elim h1
 obtain⟨y,rfl,h3⟩:=q.elim h2
 exact⟨x,y,rfl,rfl,h3⟩
theorem g3e {p:Pat α} {q:Pat β} {r:Pat γ} {F:α->β->γ->Prop} (h0:g3 p q r F l hp):∃x y z,l=[p.av x,q.av y,r.av z]/\hp=[]/\F x y z:=by
 obtain⟨a,b,c,rfl,rfl,h1⟩:=jP h0
 obtain⟨x,rfl,h2⟩:=p.elim h1
 obtain⟨y,rfl,h3⟩:=q.elim h2
 obtain⟨z,rfl,h4⟩:=r.elim h3
 exact⟨x,y,z,rfl,rfl,h4⟩
end
def hpR (F:List Int->Int->Prop) (hp:Hp):Prop:=match hp with
 | [(k,.box [.data u b,.data v p])]=>(match Ty.eq? u (.sl (.int .u8)),Ty.eq? v (.int .i64) with
  | some ⟨h⟩,some ⟨h'⟩=>bif Nat.beq k base then F (dJ h b) (dJ h' p) else False
  | _,_=>False)
 | _=>False
theorem fu {F:List Int->Int->Prop} {hp:Hp} (h:hpR F hp):∃(b:List Int) (p:Int),hp=[(1000000,.box [.data (.sl (.int .u8)) b,.data (.int .i64) p])]/\F b p:=by
 unfold hpR at h
 split at h
 ·rename_i k u b v p
  split at h
  ·rename_i h1 h2 _ _
   cases h1
   cases h2
   rcases aV k base with⟨rfl,hb⟩ | ⟨_,hb⟩
   ·rw[hb] at h
    exact⟨b,p,rfl,h⟩
   ·rw[hb] at h
    exact h.elim
  ·exact h.elim
 ·exact h.elim
def mY (a:AV) (F:Prop):Prop:=match a with
 | .ptr k 0=>bif Nat.beq k base then F else False
 | _=>False
theorem dH {a:AV} {F:Prop} (h:mY a F):a=.ptr 1000000 0/\F:=by
 unfold mY at h
 split at h
 ·rename_i k
  rcases aV k base with⟨rfl,hb⟩ | ⟨_,hb⟩
  ·rw[hb] at h;exact⟨rfl,h⟩
  ·rw[hb] at h;exact h.elim
 ·exact h.elim
theorem oG {α:Type} {p q:Prop} {x:Option α} {K:α->Prop} (h:ok (aa p x) K) (k:p->ok x K->q):p/\q:=⟨(aD h).1,k (aD h).1 (aD h).2⟩
theorem oL {α β:Type} {x:α} {f:α->Option β} {K:β->Prop} {Q:α->Prop} (h:ok (aJ x f) K) (k:∀r,r=x->ok (f r) K->Q r):∀r,r=x->Q r:=fun r e=>k r e (cL h r e)
theorem oC {α:Type} {b:Bool} {x y:Option α} {K:α->Prop} {T U:Prop} (h:ok (cond b x y) K) (h1:b=true->ok x K->T) (h2:b=false->ok y K->U):cond b T U:=Il h h1 h2
def GN:Nat->Nat->Nat->List Nat
 | 0,_,_=>[]
 | f+1,i,b=>bif Nat.beq b 0 then [] else bif Nat.beq (Nat.mod b 2) 1 then i::GN f (Nat.succ i) (Nat.div b 2) else GN f (Nat.succ i) (Nat.div b 2)
def kp (b:Nat):Dir:=.keep (GN 400 0 b)
def GI:List (List Dir)->Nat->List Dir
 | [],_=>[]
 | d::l,n=>match n with
  | 0=>d
  | k+1=>GI l k
def an (l m:List (List Dir)) (n:Nat):List Dir:=bif Nat.blt n 100000 then GI l n else GI m (Nat.sub n 100000)
def lp1 (a:Nat) (A:Nat->St->(X->St->Prop)->Prop):bH:=fun id m s K=>bif Nat.beq id a then A m s K else False
def lp2 (a:Nat) (A:Nat->St->(X->St->Prop)->Prop) (b:Nat) (B:Nat->St->(X->St->Prop)->Prop):bH:=fun id m s K=>bif Nat.beq id a then A m s K else bif Nat.beq id b then B m s K else False
abbrev vcT (C:Ctx) (L:bH) (ann:Nat->List Dir) (fn:Func) (args:List AV) (hp:Hp) (k:RK) (K:AV->Hp->Prop):Prop:=
 awp C L ann (dP fn) ⟨oa 0 args,hp⟩ (JM C.tab C.deep fn.results.toList (Eo hp) (EO k K))
abbrev lvT (C:Ctx) (L:bH) (ann:Nat->List Dir) (fn:Func) (n id:Nat) (s:St) (m:Nat) (K:X->St->Prop):Prop:=
 awp C L ann (iV (dP fn) n) s (HK (fun s'=>∃m',m'<m/\L id m' s' K) (DS id (ann (behind id)) K))
abbrev nxT (A:Nat->St->(X->St->Prop)->Prop) (m:Nat) (K:X->St->Prop) (s:St):Prop:=∃m_,m_<m/\A m_ s K
def bf (P:Program) (f:FuncId) (con:Con):Prop:=(∀args w,(callFunc f args).run P w=.ok (.enter f args) w)/\zm P f con
def vj (P:Program) (f:FuncId) (T:Inl):Prop:=(∀args w,(callFunc f args).run P w=.ok (.enter f args) w)/\FK P f T
section
variable {P:Program} {E:Tab} {c:TypeId->Bool} {n off:Nat} {deep:Bool} {f:FuncId} {con:Con} {T:Inl} {l:Cons} {inl:List (Nat×Inl)}
theorem kC (h1:bf P f con) (h:dO P ⟨E,c,l,n,inl,off,deep⟩):dO P ⟨E,c,(f,con)::l,n,inl,off,deep⟩:=DQ h1.1 h1.2 h
theorem kI (h1:vj P f T) (h:dO P ⟨E,c,[],n,inl,off,deep⟩):dO P ⟨E,c,[],n,(f,T)::inl,off,deep⟩:=EG h1.1 h1.2 h
theorem kN:dO P ⟨E,c,[],n,[],off,deep⟩:=EA
end
def qt (ds:List (Nat×Bool)) (fn:Func):Func:=match ds with
 | []=>fn
 | ds=>{ fn with body:=fn.body.map (fz ds) }
theorem IT {P:Program} {C:Ctx} (ds:List (Nat×Bool)) (hT:TabOk P C) (hm:P.follows .mixedOrders=true) {f:FuncId} {fn:Func} {con:Con} (hf:P.funcs[f]? = some fn) (hq:((fn.name == "runtime.NumGoroutine")||fn.body.isNone)=false) (hC:dO P C) (hN:C.n=fn.ntmps)
  (hcon:∀args hp K,con.run args hp K->(Nat.ble args.length fn.ntmps&&Nat.ble args.length bO)=true/\∃(ann:Nat->List Dir) (L:bH) (k:RK),(∀p∈bS (dP (qt ds fn)),fh C L ann p.1 p.2)/\vcT C L ann (qt ds fn) args hp k K):bf P f con:=by
 obtain⟨hq1,hq2⟩:=Bool.or_eq_false_iff.1 hq
 have hb:fn.body=some (dP fn):=by
  unfold dP
  cases h:fn.body with
  | none=>rw[h] at hq2;cases hq2
  | some c=>rfl
 have he:dP (qt ds fn)=fz ds (dP fn):=by
  cases ds with
  | nil=>exact(kH _).symm
  | cons d l=>unfold qt dP at *;rw[hb];rfl
 have hr:(qt ds fn).results=fn.results:=by cases ds<;>rfl
 refine⟨DZ hf hq1 hq2,IK (ds:=ds) hT hC hm hf hb hN fun args hp K h=>?_⟩
 obtain⟨h1,h2⟩:=hcon args hp K h
 obtain⟨h3,h4⟩:=Bool.and_eq_true_iff.1 h1
 unfold vcT at h2
 rw[he,hr] at h2
 exact⟨⟨Nat.le_of_ble_eq_true h3,Nat.le_of_ble_eq_true h4⟩,h2⟩
theorem JJ {P:Program} {C:Ctx} (hT:TabOk P C) (hm:P.follows .mixedOrders=true) {f:FuncId} {fn:Func} (hf:P.funcs[f]? = some fn) (hq:((fn.name == "runtime.NumGoroutine")||fn.body.isNone)=false) (hC:dO P C) (hN:C.n=fn.ntmps) {ann:Nat->List Dir}
  (hl:bS (dP fn)=[]):vj P f (uo C ann (dP fn) fn.results.toList):=by
 obtain⟨hq1,hq2⟩:=Bool.or_eq_false_iff.1 hq
 have hb:fn.body=some (dP fn):=by
  unfold dP
  cases h:fn.body with
  | none=>rw[h] at hq2;cases hq2
  | some c=>rfl
 exact⟨DZ hf hq1 hq2,Jx hT hC hm hf hb hN hl⟩
end Go.AE
end
section
namespace Go.AE
open Go Go.RowKit
noncomputable abbrev P:Program:=Go.Proofs.Tryz.prog
def tab:Tab:=[(4,⟨.val Ty.bool,1,1⟩),
  (22,⟨.sl 5 (Ty.int .u8),1,24⟩),
  (5,⟨.val (Ty.int .u8),1,1⟩),
  (3,⟨.val (Ty.int .i64),1,8⟩),
  (38,⟨.other,1,0⟩),
  (36,⟨.sl 50 ax,1,24⟩),
  (50,⟨.st [(0,23, "Columns"),(1,44, "Rows")] ax,2,48⟩),
  (23,⟨.sl 58 ag,1,24⟩),
  (58,⟨.st [(0,3, "Kind"),(1,4, "Empty")] ag,2,16⟩),
  (44,⟨.sl 24 (Ty.sl af),1,24⟩),
  (24,⟨.sl 33 af,1,24⟩),
  (33,⟨.st [(0,3, "Kind"),(1,3, "N"),(2,9, "S")] af,3,32⟩),
  (9,⟨.val Ty.str,1,16⟩),
  (37,⟨.sl 84 ah,1,24⟩),
  (84,⟨.st [(0,3, "Kind"),(1,3, "A"),(2,3, "B"),(3,3, "N"),(4,25, "E"),(5,47, "List")] ah,6,80⟩),
  (25,⟨.sl 72 aE,1,24⟩),
  (72,⟨.st [(0,3, "Kind"),(1,3, "N"),(2,33, "V")] aE,5,48⟩),
  (47,⟨.sl 3 (Ty.int .i64),1,24⟩),
  (0,⟨.other,1,0⟩),
  (77,⟨.other,1,0⟩),
  (64,⟨.ptr 117,1,8⟩),
  (117,⟨.st [(0,22, "b"),(1,3, "p")] (Ty.pair (Ty.sl (Ty.int .u8)) (Ty.pair (Ty.int .i64) Ty.unit)),2,32⟩),
  (85,⟨.sl 4 Ty.bool,1,24⟩),
  (87,⟨.other,1,0⟩),
  (86,⟨.sl 103 aF,1,24⟩),
  (103,⟨.st [(0,23, "columns"),(1,3, "most")] aF,2,32⟩),
  (123,⟨.other,1,0⟩),
  (129,⟨.other,1,8⟩),
  (67,⟨.other,1,8⟩),
  (96,⟨.other,1,0⟩),
  (95,⟨.sl 23 (Ty.sl ag),1,24⟩),
  (133,⟨.other,1,0⟩),
  (135,⟨.sl 44 (Ty.sl (Ty.sl af)),1,24⟩),
  (140,⟨.val (Ty.int .u64),1,8⟩),
  (142,⟨.other,1,0⟩),
  (179,⟨.val (Ty.int .u32),1,4⟩),
  (185,⟨.sl 9 Ty.str,1,24⟩),
  (115,⟨.other,1,8⟩),
  (181,⟨.val (Ty.int .u64),1,8⟩)]
def HY:List TypeId:=[33,72]
theorem tab_check:Br P tab tab=true:=by kernel_rfl
theorem vB:DU P tab HY=true:=by kernel_rfl
theorem mixed:P.follows .mixedOrders=true:=by kernel_rfl
abbrev cx (l:Cons) (n:Nat) (inl:List (Nat×Inl)) (off:Nat) (deep:Bool):Ctx:=⟨tab,fun t=>jA t HY,l,n,inl,off,deep⟩
theorem br (C:Ctx) {f:FuncId} {fn:Func} {con:Con} (hf:P.funcs[f]? = some fn) (hC:dO P C) (hcon:∀args hp K,con.run args hp K->(Nat.ble args.length fn.ntmps&&Nat.ble args.length bO)=true/\∃(ann:Nat->List Dir) (L:bH) (k:RK),(∀p∈bS (dP fn),fh C L ann p.1 p.2)/\vcT C L ann fn args hp k K)
    (hT:TabOk P C:=by exact BI tab_check vB) (hq:((fn.name == "runtime.NumGoroutine")||fn.body.isNone)=false:=by kernel_rfl) (hN:C.n=fn.ntmps:=by rfl):bf P f con:=IT [] hT mixed hf hq hC hN hcon
theorem Fg (ds:List (Nat×Bool)) (C:Ctx) {f:FuncId} {fn:Func} {con:Con} (hf:P.funcs[f]? = some fn) (hC:dO P C) (hcon:∀args hp K,con.run args hp K->(Nat.ble args.length fn.ntmps&&Nat.ble args.length bO)=true/\∃(ann:Nat->List Dir) (L:bH) (k:RK),(∀p∈bS (dP (qt ds fn)),fh C L ann p.1 p.2)/\vcT C L ann (qt ds fn) args hp k K)
    (hT:TabOk P C:=by exact BI tab_check vB) (hq:((fn.name == "runtime.NumGoroutine")||fn.body.isNone)=false:=by kernel_rfl) (hN:C.n=fn.ntmps:=by rfl):bf P f con:=IT ds hT mixed hf hq hC hN hcon
theorem AI (C:Ctx) {f:FuncId} {fn:Func} (hf:P.funcs[f]? = some fn) (hC:dO P C) {ann:Nat->List Dir} (hT:TabOk P C:=by exact BI tab_check vB) (hq:((fn.name == "runtime.NumGoroutine")||fn.body.isNone)=false:=by kernel_rfl) (hN:C.n=fn.ntmps:=by rfl)
    (hl:bS (dP fn)=[]:=by kernel_rfl):vj P f (uo C ann (dP fn) fn.results.toList):=JJ hT mixed hf hq hC hN hl
abbrev nT (xs:List ax.D) (i:Int):ax.D:=nth (t:=ax) xs i
abbrev nS (xs:List ah.D) (i:Int):ah.D:=nth (t:=ah) xs i
abbrev nC (xs:List ag.D) (i:Int):ag.D:=nth (t:=ag) xs i
abbrev nI (xs:List aC.D) (i:Int):aC.D:=nth (t:=aC) xs i
abbrev nP (xs:List aE.D) (i:Int):aE.D:=nth (t:=aE) xs i
abbrev nM (xs:List aF.D) (i:Int):aF.D:=nth (t:=aF) xs i
abbrev nG (xs:List kY.D) (i:Int):kY.D:=nth (t:=kY) xs i
abbrev nV (xs:List af.D) (i:Int):af.D:=nth (t:=af) xs i
abbrev Z0:Int:=0
abbrev Z1:Int:=1
abbrev Z2:Int:=2
abbrev Z3:Int:=3
abbrev Z4:Int:=4
abbrev Z5:Int:=5
abbrev Z6:Int:=6
abbrev dI (n:Int):AV:=.data aC n
abbrev dB (b:Bool):AV:=.data Ty.bool b
abbrev KA:Type:=AV->Hp->Prop
abbrev KX:Type:=X->St->Prop
abbrev TBy:Ty:=.sl (.int .u8)
abbrev LI:Type:=List Int
abbrev LLI:Type:=List LI
end Go.AE
end
