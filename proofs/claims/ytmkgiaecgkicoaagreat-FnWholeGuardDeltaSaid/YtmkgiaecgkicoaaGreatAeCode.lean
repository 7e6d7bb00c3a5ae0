/- Code: blocks, branches, loops. -/
import Derived.Test.YtmkgiaecgkicoaaGreatAeDrawB
import Derived.Laws.Sem
section
namespace Go.AE
open Go Go.RowKit
section
variable {P:Program} {C:Ctx} {g:Gl} {N:Nat}
def QK (g:Gl) (N:Nat) (K:X->St->Prop):Exit->Act->World->Prop
 | .normal,a,w=>∃s φ,K .normal s/\Sim g N s a w φ
 | .exit i,a,w=>∃s φ,K (.exit i) s/\Sim g N s a w φ
 | .ret,a,w=>∃s φ,K .ret s/\Sim g N s a w φ
 | _,_,_=>False
theorem exists_least {p:Nat->Prop} (h:∃n,p n):∃n,p n/\∀m,p m->n<=m:=by
 obtain⟨n,hn⟩:=h
 induction n using Nat.strongRecOn with
 | _ n ih=>
  by_cases hq:∃m,m<n/\p m
  ·obtain⟨m,h1,h2⟩:=hq
   exact ih m h1 h2
  ·refine⟨n,hn,fun m hm=>?_⟩
   rcases Nat.lt_or_ge m n with h | h
   ·exact absurd ⟨m,h,hm⟩ hq
   ·exact h
open Classical in
noncomputable def least (p:Nat->Prop):Nat:=if h:∃n,p n then Classical.choose (exists_least h) else 0
theorem zE {p:Nat->Prop} {n:Nat} (h:p n):p (least p)/\least p<=n:=by
 have he:∃n,p n:=⟨n,h⟩
 unfold least
 rw[dif_pos he]
 exact⟨(Classical.choose_spec (exists_least he)).1,(Classical.choose_spec (exists_least he)).2 n h⟩
theorem GP {L:bK} {ann:Nat->List Dir} {id:Nat} {b:Code} (hb:∀x,b≠.loop x) (s:St) (K:X->St->Prop):awp C L ann (.block id b) s K=awp C L ann b s (Ab id K):=by
 cases b<;>first | rfl | exact absurd rfl (hb _)
theorem Bo {id:Nat} {b:Code} (hb:∀x,b≠.loop x):bQ (.block id b)=bQ b:=by
 cases b<;>first | rfl | exact absurd rfl (hb _)
def zV (ds:List (Nat×Bool)) (c:Operand) (v:Bool):Bool:=match c with
 | .tmp t=>ds.any fun p=>Nat.beq p.1 t&&(p.2==v)
 | _=>false
def Jr:Code->Bool
 | .loop _=>true
 | _=>false
def Fx (ds:List (Nat×Bool)) (id:Nat) (b:Code):Bool:=(ds.any fun p=>Nat.beq p.1 (Nat.add id 1000000))&&!Jr b
def Gs (j:Bool) (id:Nat) (b:Code):Code:=bif j then .loop (.seq b (.exit id)) else b
def fT (ds:List (Nat×Bool)):Code->Code
 | .seq a b=>.seq (fT ds a) (fT ds b)
 | .cond c a b=>.cond c (bif zV ds c true then .goto 0 else fT ds a) (bif zV ds c false then .goto 0 else fT ds b)
 | .loop b=>.loop (fT ds b)
 | .block id b=>.block id (Gs (Fx ds id b) id (fT ds b))
 | c=>c
theorem lp:∀c:Code,fT [] c=c
 | .seq a b=>by simp only[fT,lp a,lp b]
 | .cond c a b=>by
  have h:∀v,zV [] c v=false:=fun v=>by cases c<;>rfl
  simp only[fT,h,cond_false,lp a,lp b]
 | .loop b=>by simp only[fT,lp b]
 | .block id b=>by simp only[fT,Gs,Fx,List.any_nil,Bool.false_and,cond_false,lp b]
 | .skip | .region .. | .exit _ | .ret | .rangeFunc .. | .scope _ | .label _ | .goto _ | .refuse _=>rfl
def ET (P:Program) (C:Ctx) (g:Gl) (N:Nat) (L:bK) (ann:Nat->List Dir) (ds:List (Nat×Bool)) (c:Code):Prop:=
 (∀p∈bQ (fT ds c),dn C L ann p.1 p.2)->∀(K:X->St->Prop) (s:St) (a:Act) (w:World) (φ:Names),Sim g N s a w φ->awp C L ann (fT ds c) s K->c.wp P (QK g N K) a w
theorem wg {id i:Nat} {ds:List Dir} {K:X->St->Prop} {a':Act} {w':World} (hq:QK g N (DM id ds K) (.exit i) a' w'):QK g N K (.exit i) a' w':=by
 obtain⟨s',φ',hk,hs'⟩:=hq
 simp only[DM] at hk
 rcases aZ i id with⟨e,hb⟩ | ⟨e,hb⟩
 ·rw[hb] at hk
  obtain⟨φ'',h''⟩:=hs'.norm ds
  exact⟨_,φ'',hk,h''⟩
 ·rw[hb] at hk
  exact⟨s',φ',hk,hs'⟩
theorem sP {id:Nat} {K:X->St->Prop} {e:Exit} {a':Act} {w':World} (hq:QK g N (Ab id K) e a' w'):Exit.inBlock id (QK g N K) e a' w':=by
 cases e with
 | normal=>exact hq
 | exit i=>
  obtain⟨s',φ',hk,hs'⟩:=hq
  simp only[Ab] at hk
  show if i=id then QK g N K .normal a' w' else QK g N K (.exit i) a' w'
  rcases aZ i id with⟨e,hb⟩ | ⟨e,hb⟩
  ·rw[if_pos e]
   rw[hb] at hk
   exact⟨s',φ',hk,hs'⟩
  ·rw[if_neg e]
   rw[hb] at hk
   exact⟨s',φ',hk,hs'⟩
 | ret=>exact hq
 | goto l=>exact hq.elim
 | panic ch=>exact hq.elim
 | outgrown=>exact hq.elim
theorem Dk (hT:TabOk P C) (hC:eL P C) (hN:C.n=N) (hm:P.follows .mixedOrders=true) {L:bK} {ann:Nat->List Dir} {ds:List (Nat×Bool)} (c:Code) :
  ET P C g N L ann ds c/\∀b,c=.loop b->ET P C g N L ann ds b:=by
 induction c with
 | skip=>exact⟨fun _ K s a w φ h hr=>wp_skip ⟨s,φ,hr,h⟩,fun b e=>by cases e⟩
 | region id ops draw=>
  refine⟨fun _ K s a w φ h hr=>?_,fun b e=>by cases e⟩
  simp only[fT] at hr
  unfold awp at hr
  have hQ:∀a' w' s' φ',ug (norm s' (ann id)) (fun s''=>K .normal s'')->Sim g N s' a' w' φ'->QK g N K .normal a' w':=by
   intro a' w' s' φ' hk hs
   rw[GX] at hk
   obtain⟨φ'',h''⟩:=hs.norm (ann id)
   exact⟨_,φ'',hk,h''⟩
  cases draw with
  | false=>exact Hy hT hC hN (K:=fun s'=>ug (norm s' (ann id)) fun s''=>K .normal s'') hQ h hr
  | true=>
   simp only[cond_true] at hr
   cases hreg:rE ops.toList with
   | false=>rw[hreg] at hr;exact hr.elim
   | true=>
    rw[hreg] at hr
    exact zw hT hC hN hm (K:=fun s'=>ug (norm s' (ann id)) fun s''=>K .normal s'') hreg hQ (fun _ _ _ hq=>hq) h hr
 | seq x y ihx ihy=>
  refine⟨fun hl K s a w φ h hr=>?_,fun b e=>by cases e⟩
  simp only[fT] at hr
  unfold awp at hr
  refine wp_seq (wp_mono (ihx.1 (fun p hp=>hl p (by simp[fT,bQ,hp])) _ s a w φ h hr) ?_)
  intro e a' w' hq
  cases e with
  | normal=>
   obtain⟨s',φ',hk,hs⟩:=hq
   exact ihy.1 (fun p hp=>hl p (by simp[fT,bQ,hp])) K s' a' w' φ' hs hk
  | exit i=>exact hq
  | ret=>exact hq
  | goto l=>exact hq.elim
  | panic ch=>exact hq.elim
  | outgrown=>exact hq.elim
 | cond c x y ihx ihy=>
  refine⟨fun hl K s a w φ h hr=>?_,fun b e=>by cases e⟩
  simp only[fT] at hr
  unfold awp at hr
  split at hr
  ·rename_i t ht
   have he:=h.eval c
   rw[ht] at he
   refine wp_cond (pH he) ?_
   cases t with
   | true=>
    simp only[cond_true] at hr
    cases hd:zV ds c true with
    | true=>rw[hd] at hr;simp only[cond_true] at hr;unfold awp at hr;exact hr.elim
    | false=>rw[hd] at hr;exact ihx.1 (fun p hp=>hl p (by simp[fT,bQ,hd,hp])) K s a w φ h hr
   | false=>
    simp only[cond_false] at hr
    cases hd:zV ds c false with
    | true=>rw[hd] at hr;simp only[cond_true] at hr;unfold awp at hr;exact hr.elim
    | false=>rw[hd] at hr;exact ihy.1 (fun p hp=>hl p (by simp[fT,bQ,hd,hp])) K s a w φ h hr
  ·exact hr.elim
 | loop b ih=>exact⟨fun _ K s a w φ h hr=>hr.elim,fun b' e=>by cases e;exact ih.1⟩
 | block id x ih=>
  refine⟨fun hl K s a w φ h hr=>?_,fun b e=>by cases e⟩
  cases hj:Fx ds id x with
  | true=>
   have e0:fT ds (.block id x)=.block id (.loop (.seq (fT ds x) (.exit id))):=by simp only[fT,hj,Gs,cond_true]
   rw[e0] at hr hl
   unfold awp at hr
   obtain⟨m0,hL0⟩:=hr
   have hok:dn C L ann id (.seq (fT ds x) (.exit id)):=hl (id,.seq (fT ds x) (.exit id)) (by simp[bQ])
   have hlb:∀p∈bQ (fT ds x),dn C L ann p.1 p.2:=fun p hp=>hl p (by simp[bQ,hp])
   have h1:=hok _ _ _ hL0
   unfold awp at h1
   refine wp_block (wp_mono (ih.1 hlb _ s a w φ h h1) ?_)
   intro e a' w' hq
   cases e with
   | normal=>
    obtain⟨s',φ',hk,hs'⟩:=hq
    have hk':DM id (ann (behind id)) (Ab id K) (.exit id) s':=hk
    have:=sP (e:=.exit id) (wg (g:=g) (N:=N) (a':=a') (w':=w') ⟨s',φ',hk',hs'⟩)
    have this:(if id=id then QK g N K .normal a' w' else QK g N K (.exit id) a' w'):=this
    rw[if_pos rfl] at this
    exact this
   | exit i=>exact sP (e:=.exit i) (wg hq)
   | ret=>exact hq
   | goto l=>exact hq.elim
   | panic ch=>exact hq.elim
   | outgrown=>exact hq.elim
  | false=>
  have e0:fT ds (.block id x)=.block id (fT ds x):=by simp only[fT,hj,Gs,cond_false]
  rw[e0] at hr hl
  by_cases hx:∃b,x=.loop b
  ·obtain⟨b,rfl⟩:=hx
   simp only[fT] at hr hl
   unfold awp at hr
   obtain⟨m0,hL0⟩:=hr
   have hok:dn C L ann id (fT ds b):=hl (id,fT ds b) (by simp[bQ])
   have hlb:∀p∈bQ (fT ds b),dn C L ann p.1 p.2:=fun p hp=>hl p (by simp[bQ,hp])
   let I0:Act->World->Nat->Prop:=fun a w m=>∃s φ,L id m s (Ab id K)/\Sim g N s a w φ
   refine wp_block (wp_loop (fun a w=>∃m,I0 a w m) (fun a w=>least (I0 a w)) ⟨m0,s,φ,hL0,h⟩ ?_)
   rintro a w ⟨m,hm0⟩
   obtain⟨s1,φ1,hL1,hs1⟩:=(zE hm0).1
   refine wp_mono ((ih.2 b rfl) hlb _ s1 a w φ1 hs1 (hok _ _ _ hL1)) ?_
   intro e a' w' hq
   cases e with
   | normal=>
    obtain⟨s',φ',⟨m',hlt,hL'⟩,hs'⟩:=hq
    have hI:I0 a' w' m':=⟨s',φ',hL',hs'⟩
    exact⟨⟨m',hI⟩,Nat.lt_of_le_of_lt (zE hI).2 hlt⟩
   | exit i=>exact sP (e:=.exit i) (wg hq)
   | ret=>exact hq
   | goto l=>exact hq.elim
   | panic ch=>exact hq.elim
   | outgrown=>exact hq.elim
  ·have hx':∀b,fT ds x≠.loop b:=fun b e=>by
    cases x<;>simp[fT] at e
    exact hx ⟨_,rfl⟩
   have hr:awp C L ann (.block id (fT ds x)) s K:=hr
   rw[GP hx'] at hr
   exact wp_block (wp_mono (ih.1 (fun p hp=>hl p (by rw[Bo hx'];exact hp)) _ s a w φ h hr) (fun e a' w' hq=>sP hq))
 | exit i=>exact⟨fun _ K s a w φ h hr=>wp_exit ⟨s,φ,hr,h⟩,fun b e=>by cases e⟩
 | ret=>exact⟨fun _ K s a w φ h hr=>wp_ret ⟨s,φ,hr,h⟩,fun b e=>by cases e⟩
 | _=>exact⟨fun _ K s a w φ h hr=>by simp only[fT] at hr;unfold awp at hr;exact hr.elim,fun b e=>by cases e⟩
theorem Iy (hT:TabOk P C) (hC:eL P C) (hN:C.n=N) (hm:P.follows .mixedOrders=true) {L:bK} {ann:Nat->List Dir} (c:Code) :
  (∀p∈bQ c,dn C L ann p.1 p.2)->∀(K:X->St->Prop) (s:St) (a:Act) (w:World) (φ:Names),Sim g N s a w φ->awp C L ann c s K->c.wp P (QK g N K) a w:=by
 have:=(Dk (L:=L) (ann:=ann) (ds:=[]) (g:=g) hT hC hN hm c).1
 unfold ET at this
 rw[lp] at this
 exact this
end
section
variable {P:Program} {C:Ctx} {g:Gl} {N:Nat} {s:St} {a:Act} {w:World} {φ:Names}
def oK:Nat->List AV->Env
 | _,[]=>[]
 | i,v::l=>(i,v)::oK (i+1) l
def EY:Hp->Bool
 | []=>false
 | (i,_)::_=>Nat.beq i base
def Lc (E:Tab) (deep two:Bool) (rs:List ResultVar) (io:Bool) (K:AV->Hp->Prop):X->St->Prop
 | .normal,s=>Ig E deep two rs io s K
 | .ret,s=>Ig E deep two rs io s K
 | .exit _,_=>False
theorem rq {w:World} {I S:Nat->Prop} {φ:Names} {hp:Hp}:∀{l:List AV} {vs:List Value} {i:Nat},ax w I S φ hp l vs->∀j av,lookup (oK i l) j=some av →
  i<=j/\∃u,vs[j-i]? = some u/\ak w I S φ hp av u
 | [],vs,i,_,j,av,hj=>by simp[oK,lookup] at hj
 | x::l,vs,i,h,j,av,hj=>by
  simp only[ax] at h
  obtain⟨u,us,rfl,h1,h2⟩:=h
  unfold oK at hj
  rw[lookup_cons] at hj
  split at hj
  ·rename_i e
   subst e
   cases hj
   exact⟨Nat.le_refl _,u,by simp,h1⟩
  ·obtain⟨h3,u',h4,h5⟩:=rq h2 j av hj
   refine⟨by omega,u',?_,h5⟩
   rw[show j-i=(j-(i+1))+1 by omega]
   simpa using h4
theorem Sim.bare (h:Sim g N s a w φ):Sim g 0 ⟨[],s.hp⟩ idle w φ:=
 ⟨rfl,rfl,h.os,h.tape,h.output,h.hsize,h.frame,h.inj,h.apart,h.place,h.blocks,fun _ _ e=>by simp[lookup] at e,h.pinned⟩
theorem Sim.entry {hp:Hp} {args:List AV} {vals:List Value} {n:Nat} (h:Sim g 0 ⟨[],hp⟩ idle g.w0 φ) (hv:ax g.w0 (imm g φ hp g.w0.heap.size) (aM g) φ hp args vals) (hn:args.length<=n) (hg:args.length<=bV) :
  Sim g n ⟨oK 0 args,hp⟩ { tmps:=vals.toArray++Array.replicate (n-vals.toArray.size) undef,defers:=[] } g.w0 φ:=by
 have hl:=hv.length
 refine⟨rfl,by simp;omega,h.os,h.tape,h.output,h.hsize,h.frame,h.inj,h.apart,h.place,h.blocks,?_,h.pinned⟩
 intro j av hj
 obtain⟨_,u,h1,h2⟩:=rq hv j av hj
 have h1:vals[j]? = some u:=by simpa using h1
 have hlt:j<vals.length:=(List.getElem?_eq_some_iff.1 h1).1
 have:(vals.toArray++Array.replicate (n-vals.toArray.size) undef).getD j undef=u:=by
  rw[Array.getD_eq_getD_getElem?,Array.getElem?_append_left (by simpa using hlt)]
  simp[h1]
 have hjg:Nat.blt j bV=true:=by rw[Nat.blt_eq];omega
 unfold valOf
 rw[hjg]
 simp only[cond_true]
 rw[this]
 exact h2
end
end Go.AE
end
section
namespace Go.AE
open Go Go.RowKit
section
variable {P:Program} {C:Ctx} {g:Gl} {N:Nat} {s:St} {a:Act} {w:World} {φ:Names}
inductive All2 {α β:Type} (R:α->β->Prop):List α->List β->Prop
 | nil:All2 R [] []
 | cons {x y l k}:R x y->All2 R l k->All2 R (x::l) (y::k)
theorem All2.length_eq {α β:Type} {R:α->β->Prop} {l:List α} {k:List β} (h:All2 R l k):l.length=k.length:=by
 induction h with
 | nil=>rfl
 | cons _ _ ih=>simp[ih]
def mX (tmps:Array Value):ResultVar->Sem Value
 | .tmp t=>pure (tmps.getD t undef)
 | .cell a t=>do loadVar t (<-asAddr (tmps.getD a undef))
theorem tA (tmps:Array Value) (w:World) (P:Program):∀(l:List ResultVar) (us:List Value),All2 (fun r u=>(mX tmps r).run P w=Result.ok u w) l us →
  (l.mapM (mX tmps)).run P w=Result.ok us w
 | [],_,h=>by cases h;simp
 | r::l,_,h=>by
  cases h with
  | cons h1 h2=>
   have ih:=tA tmps w P l _ h2
   simp only[List.mapM_cons,Sem.run_bind,h1,ih,Result.andThen_ok,Sem.run_pure]
theorem iB {fn:Func} {tmps:Array Value} {w:World} {us:List Value} (h:All2 (fun r u=>(mX tmps r).run P w=Result.ok u w) fn.results.toList us) :
  (results fn tmps).run P w=Result.ok (if h:us.toArray.size=1 then us.toArray[0] else Value.tuple us.toArray) w:=by
 have e:results fn tmps=(do
   let vs <-fn.results.mapM (mX tmps)
   pure (if h:vs.size=1 then vs[0] else .tuple vs):Sem Value):=by
  unfold results
  congr 1
 rw[e,Array.mapM_eq_mapM_toList]
 simp only[map_eq_pure_bind,bind_assoc,pure_bind,Sem.run_bind,tA tmps w P _ _ h,Result.andThen_ok,Sem.run_pure]
theorem Sim.yz (l:List Nat):∀{s:St},Sim g N s a w φ->Moved g w φ s (AE.gK s l):=by
 induction l with
 | nil=>exact fun h=>Moved.refl ..
 | cons i l ih=>intro s h;exact(h.Ck i).trans (ih (h.freeze i))
theorem uQ (hT:TabOk P C) (h:Sim g N s a w φ) {deep:Bool} {r:ResultVar} {v:AV} {s':St} (hr:rW C.tab deep s r=some (v,s')) :
  ∃u,(mX a.tmps r).run P w=.ok u w/\Sim g N s' a w φ/\Moved g w φ s s'/\ak w (imm g φ s'.hp w.heap.size) (aM g) φ s'.hp v u:=by
 cases r with
 | tmp t=>
  simp only[rW,Option.some.injEq,Prod.mk.injEq] at hr
  obtain⟨rfl,rfl⟩:=hr
  exact⟨_,by simp[mX],h,Moved.refl ..,h.slot t⟩
 | cell p ty=>
  simp only[rW] at hr
  have hx:=h.slot p
  split at hr
  case h_2=>cases hr
  rename_i id e1
  rw[e1] at hx
  split at hr
  case h_2=>cases hr
  rename_i u hu
  have hf:=hT.ty _ _ hu
  split at hr
  case h_2=>cases hr
  rename_i cs hl
  simp only[ak] at hx
  obtain⟨b,hφ,e⟩:=hx _ hl
  have hrun:∀{c:List Value},Cells w b 0 c->c.length=u.size->(mX a.tmps (.cell p ty)).run P w=.ok (mkv u c) w:=by
   intro c hc hlen
   have:=xS (P:=P) hf hc hlen
   simp only[mX,Sem.run_bind,e]
   simp[asAddr,this]
  cases ha:u.agg with
  | true=>
   rw[ha] at hr
   simp only[cond_true] at hr
   cases hdp:(deep&&(Nat.beq u.size cs.length&&!ee cs)) with
   | true=>
    rw[hdp] at hr
    simp only[cond_true,Option.some.injEq,Prod.mk.injEq] at hr
    obtain⟨rfl,rfl⟩:=hr
    obtain⟨_,hq⟩:=Bool.and_eq_true_iff.1 hdp
    have hsz:=Nat.eq_of_beq_eq_true (Bool.and_eq_true_iff.1 hq).1
    obtain⟨⟨b',vs,e0,hb',hg,hvs,h1c⟩,_⟩:=h.blocks id _ hl
    have hb':=hφ.symm.trans hb'
    cases hb'
    have hlen:vs.toList.length=u.size:=hvs.length.trans hsz.symm
    exact⟨_,hrun (dg hg) hlen,h,Moved.refl ..,by simp only[ak];exact⟨_,rfl,hlen,h1c,hvs⟩⟩
   | false=>
   rw[hdp] at hr
   simp only[cond_false] at hr
   split at hr
   case h_2=>cases hr
   rename_i cs1 hl1
   split at hr
   case h_2=>cases hr
   rename_i y hy
   simp only[Option.some.injEq,Prod.mk.injEq] at hr
   obtain⟨rfl,rfl⟩:=hr
   have h1:=h.gK (qF (cs.take u.size))
   obtain⟨⟨b',vs,e0,hb',hg,hvs,h1c⟩,_⟩:=h1.blocks id _ hl1
   have hb':=hφ.symm.trans hb'
   cases hb'
   obtain⟨c,vs',ev,hr,_⟩:=ql hvs hy
   have hc:Cells w b 0 c:=by
    have:=dg hg
    rw[ev] at this
    have:=this.take c.length
    rwa [List.take_left] at this
   exact⟨_,hrun hc hr.length,h1,h.yz _,by simp only[ak];exact⟨c,hr,rfl⟩⟩
  | false=>
   rw[ha] at hr
   simp only[cond_false] at hr
   split at hr
   case h_2=>cases hr
   rename_i v0 hv
   simp only[Option.some.injEq,Prod.mk.injEq] at hr
   obtain⟨rfl,rfl⟩:=hr
   obtain⟨⟨b',vs,e0,hb',hg,hvs,_⟩,_⟩:=h.blocks id _ hl
   have hb':=hφ.symm.trans hb'
   cases hb'
   obtain⟨uv,e2,hr⟩:=hvs.nth hv
   have hc:Cells w b 0 [uv]:=by
    have:=dg hg
    intro j v' hj
    cases j with
    | zero=>
     simp at hj
     subst hj
     exact this 0 uv e2
    | succ j=>simp at hj
   refine⟨_,hrun hc (by simp[ep u ha]),h,Moved.refl ..,?_⟩
   simpa [mkv,ha] using hr
theorem Sim.Jg (h:Sim g N s a w φ) {io:Bool} {hp:Hp} (hio:AB io s=some hp) :
  (∀j b,lookup hp j=some b->j=base/\lookup s.hp base=some b)/\Sim g 0 ⟨[],hp⟩ idle w φ/\(∀b,imm g φ s.hp w.heap.size b->imm g φ hp w.heap.size b):=by
 have key:∀j b,lookup hp j=some b->j=base/\lookup s.hp base=some b:=by
  unfold AB at hio
  cases io with
  | false=>
   simp only[cond_false,Option.some.injEq] at hio
   subst hio
   intro j b hj
   simp[lookup] at hj
  | true=>
   simp only[cond_true] at hio
   have one:∀{blk:Block},lookup s.hp base=some blk->hp=[(base,blk)]->∀j b,lookup hp j=some b->j=base/\lookup s.hp base=some b:=by
    intro blk hl e j b hj
    subst e
    rw[lookup_cons] at hj
    split at hj
    ·rename_i e
     cases hj
     exact⟨e.symm,hl⟩
    ·simp[lookup] at hj
   split at hio
   ·rename_i cs hl
    have hio:=(cT hio).2
    cases hio
    exact one hl rfl
   ·rename_i hl
    cases hio
    exact one hl rfl
   ·cases hio
 refine⟨key,?_,?_⟩
 ·refine(h.bare.less (s':=⟨[],hp⟩) (fun _ _ h=>h) fun j b hj=>?_)
  obtain⟨rfl,h2⟩:=key j b hj
  exact h2
 ·rintro b ⟨h1,h2,h3⟩
  refine⟨h1,h2,fun j blk hj=>?_⟩
  obtain⟨rfl,h4⟩:=key j blk hj
  exact h3 _ _ h4
theorem GM (h:Sim g N s a w φ) {io:Bool} {hp:Hp} (hio:AB io s=some hp) {K:AV->Hp->Prop} {v:AV} {u:Value} (hk:K v hp) (hf:v.kept=true) (hv:ak w (imm g φ s.hp w.heap.size) (aM g) φ s.hp v u) :
  Bs g K (.returned u) w:=by
 obtain⟨_,h2,h3⟩:=h.Jg hio
 exact⟨v,hp,φ,hk,h2,nt h3 (fun _ _ _=>rfl) _ _ hf hv⟩
theorem zS (hT:TabOk P C):∀{l:List ResultVar} {s s':St} {vs:List AV},Sim g N s a w φ->qf C.tab l s=some (vs,s') →
  ∃us,Sim g N s' a w φ/\Moved g w φ s s'/\All2 (fun r u=>(mX a.tmps r).run P w=Result.ok u w) l us/\ee vs=true/\ax w (imm g φ s'.hp w.heap.size) (aM g) φ s'.hp vs us
 | [],s,s',vs,h,hr=>by
  simp only[qf,Option.some.injEq,Prod.mk.injEq] at hr
  obtain⟨rfl,rfl⟩:=hr
  exact⟨[],h,Moved.refl ..,.nil,rfl,by simp[ax]⟩
 | r::l,s,s',vs,h,hr=>by
  unfold qf at hr
  split at hr
  case h_2=>cases hr
  rename_i v0 s0 h0
  obtain⟨u,hrun,hs0,hm0,hv⟩:=uQ hT h h0
  have fin:∀{s1:St} {v:AV} {ws:List AV},Sim g N s1 a w φ->Moved g w φ s s1->plainCell v=true->ak w (imm g φ s1.hp w.heap.size) (aM g) φ s1.hp v u->qf C.tab l s1=some (ws,s') →
    ∃us,Sim g N s' a w φ/\Moved g w φ s s'/\All2 (fun r u=>(mX a.tmps r).run P w=Result.ok u w) (r::l) us/\ee (v::ws)=true/\ax w (imm g φ s'.hp w.heap.size) (aM g) φ s'.hp (v::ws) us:=by
   intro s1 v ws h1 hm hp hv1 hr1
   obtain⟨us,q1,q2,q3,q4,q5⟩:=zS hT h1 hr1
   refine⟨u::us,q1,hm.trans q2,.cons hrun q3,by simp[ee,hp,q4],?_⟩
   simp only[ax]
   exact⟨_,_,rfl,ak.later (q2.later (fun _ h=>h)) _ _ hv1,q5⟩
  split at hr
  ·rename_i id cut
   split at hr
   case h_2=>cases hr
   rename_i ty xs hl
   split at hr
   case h_2=>cases hr
   rename_i x s1 hg
   split at hr
   case h_2=>cases hr
   rename_i ws s2 h2
   cases hr
   obtain⟨h1,cs,hrep,e⟩:=hs0.iT hv hg
   exact fin h1 (hm0.trans (hs0.uo hg)) rfl (by simp only[ak];exact⟨cs,hrep,e⟩) h2
  ·rename_i ty x
   split at hr
   case h_2=>cases hr
   rename_i ws s2 h2
   cases hr
   exact fin hs0 hm0 rfl hv h2
  ·rename_i c
   split at hr
   case h_2=>cases hr
   rename_i ws s2 h2
   cases hr
   exact fin hs0 hm0 rfl hv h2
  ·cases hr
theorem Bz (h:Sim g N s a w φ) {K:AV->Hp->Prop} {v:AV} {u:Value} (hv:ak w (imm g φ s.hp w.heap.size) (aM g) φ s.hp v u) (hk:yU s v K):Bs g K (.returned u) w:=by
 unfold yU at hk
 split at hk
 ·rename_i t vs
  obtain⟨q,hq,hk⟩:=aJ hk
  simp only[ak] at hv
  obtain⟨us,e1,e2,e3,e4⟩:=hv
  obtain⟨ψ,h1,h2⟩:=h.out e4 (show eJ 0 vs s=some (q.1,q.2) from hq)
  exact⟨_,_,ψ,hk,h1,by simp only[ak];exact⟨us,e1,e2,e3,h2⟩⟩
 ·split at hk
  ·rename_i v' hp ho
   obtain⟨ψ,h1,h2⟩:=h.out (us:=[u]) (by simp only[ax];exact⟨u,[],rfl,hv,rfl⟩) ho
   simp only[ax] at h2
   obtain⟨u',us',e1,h3,e2⟩:=h2
   cases e1
   exact⟨_,_,ψ,hk,h1,h3⟩
  ·exact hk.elim
theorem FN (h:Sim g N s a w φ) {io:Bool} {hp:Hp} (hio:AB io s=some hp) {id:Nat} {d0:Dp} {t:Ty} {xs:List t.D} (n:Nat) {u:Value} {e:TypeId} {l:List Value}
  (hid:id≠base) (hl:lookup s.hp id=some (.arr d0 t xs)) (hn:n<=xs.length) (hu:w.rowOf 0 e t.size u n l) (hb:u.ownBlock=φ id) :
  ∃ φ',Sim g 0 ⟨[],(0,.arr d0 t (xs.take n))::hp⟩ idle w φ'/\ak w (imm g φ' ((0,.arr d0 t (xs.take n))::hp) w.heap.size) (aM g) φ' ((0,.arr d0 t (xs.take n))::hp) (.own 0 none) u/\(∀b,imm g φ s.hp w.heap.size b->imm g φ' ((0,.arr d0 t (xs.take n))::hp) w.heap.size b):=by
 obtain⟨h1,h2,h3⟩:=h.Jg hio
 have hlen:(xs.take n).length=n:=by rw[List.length_take];omega
 have hlk:∀j b,lookup ((0,Block.arr d0 t (xs.take n))::hp) j=some b->(j=0/\b=.arr d0 t (xs.take n))\/(j=base/\lookup s.hp base=some b):=by
  intro j b hj
  rw[lookup_cons] at hj
  split at hj
  ·rename_i e;cases hj;exact .inl ⟨e.symm,rfl⟩
  ·exact .inr (h1 j b hj)
 have hb0:base≠0:=by decide
 have hne:∀b blk,φ.eI id b->φ.eI base b->lookup s.hp base=some blk->False:=fun b blk e1 e2 e3=>hid (h.inj id base _ _ b hl e3 e1 e2)
 have himm:∀b,imm g φ s.hp w.heap.size b->imm g (bp φ 0 (φ id) (φ.sub id)) ((0,Block.arr d0 t (xs.take n))::hp) w.heap.size b:=by
  rintro b ⟨i1,i2,i3⟩
  refine⟨i1,i2,fun j blk hj ho=>?_⟩
  rw[cD] at ho
  rcases hlk j blk hj with⟨rfl,_⟩ | ⟨rfl,h4⟩
  ·rw[if_pos rfl] at ho;exact i3 id _ hl ho
  ·rw[if_neg hb0] at ho;exact i3 _ _ h4 ho
 refine⟨bp φ 0 (φ id) (φ.sub id),⟨rfl,rfl,h.os,h.tape,h.output,h.hsize,h.frame,?_,?_,?_,?_,fun _ _ e=>by simp[lookup] at e,?_⟩,?_,himm⟩
 ·intro i j bi bj b hi hj ei ej
  rw[cD] at ei ej
  rcases hlk i bi hi with⟨rfl,_⟩ | ⟨rfl,h4⟩<;>rcases hlk j bj hj with⟨rfl,_⟩ | ⟨rfl,h5⟩
  ·rfl
  ·rw[if_pos rfl] at ei
   rw[if_neg hb0] at ej
   exact(hne b _ ei ej h5).elim
  ·rw[if_pos rfl] at ej
   rw[if_neg hb0] at ei
   exact(hne b _ ej ei h4).elim
  ·rfl
 ·intro j blk b hj hjb
  rcases hlk j blk hj with⟨rfl,rfl⟩ | ⟨rfl,h4⟩
  ·simp only[bp,if_true] at hjb ⊢
   exact h.apart id _ b hl hjb
  ·simp only[bp,if_neg hb0] at hjb ⊢
   exact h.apart base _ b h4 hjb
 ·intro j blk b hj hjb
  rw[cD] at hjb
  rcases hlk j blk hj with⟨rfl,rfl⟩ | ⟨rfl,h4⟩
  ·rw[if_pos rfl] at hjb
   obtain⟨p1,p2⟩:=h.place id _ b hl hjb
   exact⟨p1,.inl (p2.resolve_right (fun q=>hid q.2))⟩
  ·rw[if_neg hb0] at hjb
   exact h.place _ _ b h4 hjb
 ·intro j blk hj
  rcases hlk j blk hj with⟨rfl,rfl⟩ | ⟨rfl,h4⟩
  ·simp only[bp,if_true]
   obtain⟨v,e0,l0,s1,s2,s3⟩:=h.blocks _ _ hl
   exact Ah ⟨v,e0,l0,s1,s2,s3.later himm (fun _ _ _=>rfl) (fun _ _=>rfl)⟩ hn
  ·simp only[bp,if_neg hb0]
   have hj':lookup hp base=some blk:=by
    rw[lookup_cons,if_neg (fun e=>hb0 e.symm)] at hj
    exact hj
   have hbk:=h.blocks _ _ h4
   cases blk with
   | arr d1 t1 x1=>
    obtain⟨v,e0,l0,s1,s2,s3⟩:=hbk
    exact⟨v,e0,l0,s1,s2,s3.later himm (fun _ _ _=>rfl) (fun _ _=>rfl)⟩
   | map k0 u0 x0=>
    exfalso
    unfold AB at hio
    cases io with
    | false=>simp at hio;subst hio;simp[lookup] at hj'
    | true=>
     simp only[cond_true,h4] at hio
     cases hio
   | box cs=>
    have hpl:ee cs=true:=by
     unfold AB at hio
     cases io with
     | false=>simp at hio;subst hio;simp[lookup] at hj'
     | true=>
      simp only[cond_true,h4] at hio
      exact(cT hio).1
    obtain⟨⟨b,vs',e',r1,r2,r3,r4⟩,r5⟩:=hbk
    exact⟨⟨b,vs',e',r1,r2,mJ himm (fun _ _ _=>rfl) hpl r3,r4⟩,r5⟩
 ·intro blk hj
  rcases hlk base blk hj with⟨e,_⟩ | ⟨_,h4⟩
  ·exact absurd e hb0
  ·obtain⟨p1,p2⟩:=h.pinned _ h4
   exact⟨by simp only[bp,if_neg hb0];exact p1,p2⟩
 ·simp only[ak]
  intro blk hj
  rw[lookup_cons,if_pos rfl] at hj
  cases hj
  refine⟨d0,t,_,rfl,?_⟩
  rw[hlen]
  exact⟨e,l,hu,by simp[bp,hb]⟩
theorem DY (h:Sim g N s a w φ) {io:Bool} {hp:Hp} (hio:AB io s=some hp) {K:AV->Hp->Prop} {id:Nat} {d0:Dp} {t:Ty} {xs:List t.D} (n:Nat) {u:Value} {e:TypeId} {l:List Value}
  (hid:id≠base) (hl:lookup s.hp id=some (.arr d0 t xs)) (hn:n<=xs.length) (hu:w.rowOf 0 e t.size u n l) (hb:u.ownBlock=φ id) (hk:K (.own 0 none) ((0,.arr d0 t (xs.take n))::hp)) :
  Bs g K (.returned u) w:=by
 obtain⟨φ',h1,h2,_⟩:=FN h hio n hid hl hn hu hb
 exact⟨.own 0 none,_,φ',hk,h1,h2⟩
theorem qp (hT:TabOk P C) {deep:Bool}:∀{l:List ResultVar} {s s':St} {vs:List AV},Sim g N s a w φ->qL C.tab deep l s=some (vs,s') →
  ∃us,Sim g N s' a w φ/\Moved g w φ s s'/\All2 (fun r u=>(mX a.tmps r).run P w=Result.ok u w) l us/\ax w (imm g φ s'.hp w.heap.size) (aM g) φ s'.hp vs us
 | [],s,s',vs,h,hr=>by
  simp only[qL,Option.some.injEq,Prod.mk.injEq] at hr
  obtain⟨rfl,rfl⟩:=hr
  exact⟨[],h,Moved.refl ..,.nil,by simp[ax]⟩
 | r::l,s,s',vs,h,hr=>by
  unfold qL at hr
  split at hr
  case h_2=>cases hr
  rename_i v0 s0 h0
  obtain⟨u,hrun,hs0,hm0,hv⟩:=uQ hT h h0
  split at hr
  case h_2=>cases hr
  rename_i ws s2 h2
  cases hr
  obtain⟨us,q1,q2,q3,q4⟩:=qp hT hs0 h2
  refine⟨u::us,q1,hm0.trans q2,.cons hrun q3,?_⟩
  simp only[ax]
  exact⟨_,_,rfl,ak.later (q2.later (fun _ h=>h)) _ _ hv,q4⟩
theorem CA {l:List ResultVar} {us:List Value} {R:ResultVar->Value->Prop} (h3:All2 R l us) (hne:∀r,l=[r]->False):¬us.toArray.size=1:=by
 intro e
 have e:us.length=1:=e
 rw[<-h3.length_eq] at e
 match hq:l,e with
 | [r],_=>exact hne r rfl
theorem KJ (hT:TabOk P C) {fn:Func} {io:Bool} {K:AV->Hp->Prop} (h:Sim g N s a w φ) (hr:Ig C.tab C.deep C.two fn.results.toList io s K):∃v,(results fn a.tmps).run P w=.ok v w/\Bs g K (.returned v) w:=by
 unfold Ig at hr
 cases hdp:(C.deep&&!io) with
 | true=>
  rw[hdp] at hr
  simp only[cond_true] at hr
  split at hr
  ·rename_i r ht
   obtain⟨p,hp,hr⟩:=aJ hr
   obtain⟨u,hrun,h1,_,hv⟩:=uQ hT h (show rW C.tab _ s r=some (p.1,p.2) from hp)
   refine⟨u,?_,Bz h1 hv hr⟩
   rw[iB (us:=[u]) (by rw[ht];exact .cons hrun .nil)]
   simp
  ·rename_i hne
   obtain⟨p,hp,hr⟩:=aJ hr
   obtain⟨q,hq,hk⟩:=aJ hr
   obtain⟨us,h1,_,h3,h5⟩:=qp hT h (show qL C.tab _ fn.results.toList s=some (p.1,p.2) from hp)
   obtain⟨ψ,k1,k2⟩:=h1.out h5 (show eJ 0 p.1 p.2=some (q.1,q.2) from hq)
   refine⟨_,iB h3,?_⟩
   rw[dif_neg (CA h3 (fun r e=>hne r e))]
   exact⟨_,_,ψ,hk,k1,by simp only[ak];exact⟨_,rfl,k2⟩⟩
 | false=>
 rw[hdp] at hr
 simp only[cond_false] at hr
 split at hr
 ·rename_i r ht
  obtain⟨p,hp,hr⟩:=aJ hr
  obtain⟨u,hrun,h1,_,hv⟩:=uQ hT h (show rW C.tab _ s r=some (p.1,p.2) from hp)
  refine⟨u,?_,?_⟩
  ·rw[iB (us:=[u]) (by rw[ht];exact .cons hrun .nil)]
   simp
  ·split at hr
   ·rename_i id cut e1
    rw[e1] at hv
    rcases aZ id base with⟨_,hb⟩ | ⟨hid,hb⟩
    ·rw[hb] at hr;exact hr.elim
    rw[hb] at hr
    simp only[cond_false] at hr
    split at hr
    case h_2=>exact hr.elim
    rename_i d0 ty xs hl
    obtain⟨hp,hio,hk⟩:=aJ hr
    simp only[ak] at hv
    obtain⟨d2,t2,x2,e2,hown⟩:=hv _ hl
    cases e2
    split at hk
    ·obtain⟨e,l,hu,hb⟩:=hown
     exact DY h1 hio xs.length hid hl (Nat.le_refl _) hu hb (by rw[List.take_length];exact hk)
    ·rename_i lo hi
     obtain⟨rfl,hk⟩:=hk
     obtain⟨g1,g2,g3,A,c,_,_,g4,_⟩:=hown
     obtain⟨e,l,hu,hb⟩:=g4 rfl
     exact DY h1 hio hi.toNat hid hl (by omega) hu hb hk
   ·rename_i id hi e1
    cases io with
    | true=>exact hr.elim
    | false=>
     rw[e1] at hv
     exact Bz h1 hv hr
   ·cases hq:p.1.kept with
    | false=>rw[hq] at hr;exact hr.elim
    | true=>
     rw[hq] at hr
     obtain⟨hp,hio,hk⟩:=aJ hr
     exact GM h1 hio hk hq hv
 ·rename_i hne
  split at hr
  ·rename_i v id s1 hraw
   cases hd2:C.two with
   | false=>rw[hd2] at hraw;cases hraw
   | true=>
   rw[hd2] at hraw
   simp only[cond_true] at hraw
   obtain⟨us,h1,_,h3,h5⟩:=qp hT h hraw
   simp only[ax] at h5
   obtain⟨u1,us1,rfl,hv1,u2,us2,e2,hv2,e3⟩:=h5
   subst e3
   subst e2
   refine⟨_,iB h3,?_⟩
   rw[dif_neg (CA h3 (fun r e=>hne r e))]
   cases hq:(v.kept&&!Nat.beq id base) with
   | false=>rw[hq] at hr;exact hr.elim
   | true=>
    rw[hq] at hr
    simp only[cond_true] at hr
    obtain⟨q1,q2⟩:=Bool.and_eq_true_iff.1 hq
    have hid:id≠base:=fun e=>by rw[e] at q2;simp at q2
    split at hr
    case h_2=>exact hr.elim
    rename_i d0 ty xs hl
    obtain⟨hpp,hio,hk⟩:=aJ hr
    simp only[ak] at hv2
    obtain⟨d2,t2,x2,e2,hown⟩:=hv2 _ hl
    cases e2
    obtain⟨e,l,hu,hb⟩:=hown
    obtain⟨φ',k1,k2,k3⟩:=FN h1 hio xs.length hid hl (Nat.le_refl _) hu hb
    rw[List.take_length] at k1 k2 k3
    refine⟨_,_,φ',hk,k1,?_⟩
    simp only[ak]
    exact⟨[u1,u2],rfl,by simp only[ax];exact⟨u1,[u2],rfl,nt k3 (fun _ _ _=>rfl) _ _ q1 hv1,u2,[],rfl,k2,rfl⟩⟩
  obtain⟨p,hp,hr⟩:=aJ hr
  obtain⟨hpp,hio,hk⟩:=aJ hr
  obtain⟨us,h1,_,h3,h4,h5⟩:=zS hT h (show qf C.tab fn.results.toList s=some (p.1,p.2) from hp)
  refine⟨_,iB h3,?_⟩
  rw[dif_neg (CA h3 (fun r e=>hne r e))]
  obtain⟨_,k2,k3⟩:=h1.Jg hio
  refine⟨_,hpp,φ,hk,k2,?_⟩
  simp only[ak]
  exact⟨_,rfl,mJ k3 (fun _ _ _=>rfl) h4 h5⟩
end
end Go.AE
end
