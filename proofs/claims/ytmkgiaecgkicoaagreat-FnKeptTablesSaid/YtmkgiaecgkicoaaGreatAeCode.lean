/- Code: blocks, branches, loops. -/
import Derived.Test.YtmkgiaecgkicoaaGreatAeDrawB
namespace Go.AE
open Go Go.RowKit
section
variable {P:Program} {C:Ctx} {g:Gl} {N:Nat}
def QK (g:Gl) (N:Nat) (K:X->St->Prop):Exit->Act->World->Prop
 | .normal,a,w=>∃s φ,K .normal s/\Sim g N s a w φ
 | .exit i,a,w=>∃s φ,K (.exit i) s/\Sim g N s a w φ
 | .ret,a,w=>∃s φ,K .ret s/\Sim g N s a w φ
 | _,_,_=>False
theorem exists_least {p:Nat->Prop} (h:∃n,p n):∃n,p n/\∀m,p m->n<=m:=by
 obtain⟨n,hn⟩:=h
 induction n using Nat.strongRecOn with
 | _ n ih=>
  by_cases hq:∃m,m<n/\p m
  ·obtain⟨m,h1,h2⟩:=hq
   exact ih m h1 h2
  ·refine⟨n,hn,fun m hm=>?_⟩
   rcases Nat.lt_or_ge m n with h | h
   ·exact absurd ⟨m,h,hm⟩ hq
   ·exact h
open Classical in
noncomputable def least (p:Nat->Prop):Nat:=if h:∃n,p n then Classical.choose (exists_least h) else 0
theorem yu {p:Nat->Prop} {n:Nat} (h:p n):p (least p)/\least p<=n:=by
 have he:∃n,p n:=⟨n,h⟩
 unfold least
 rw[dif_pos he]
 exact⟨(Classical.choose_spec (exists_least he)).1,(Classical.choose_spec (exists_least he)).2 n h⟩
theorem Fg {L:bB} {ann:Nat->List Dir} {id:Nat} {b:Code} (hb:∀x,b≠.loop x) (s:St) (K:X->St->Prop):awp C L ann (.block id b) s K=awp C L ann b s (zN id K):=by
 cases b<;>first | rfl | exact absurd rfl (hb _)
theorem Al {id:Nat} {b:Code} (hb:∀x,b≠.loop x):bR (.block id b)=bR b:=by
 cases b<;>first | rfl | exact absurd rfl (hb _)
def zJ (ds:List (Nat×Bool)) (c:Operand) (v:Bool):Bool:=match c with
 | .tmp t=>ds.any fun p=>Nat.beq p.1 t&&(p.2==v)
 | _=>false
def HW:Code->Bool
 | .loop _=>true
 | _=>false
def Dx (ds:List (Nat×Bool)) (id:Nat) (b:Code):Bool:=(ds.any fun p=>Nat.beq p.1 (Nat.add id 1000000))&&!HW b
def EL (j:Bool) (id:Nat) (b:Code):Code:=bif j then .loop (.seq b (.exit id)) else b
def fP (ds:List (Nat×Bool)):Code->Code
 | .seq a b=>.seq (fP ds a) (fP ds b)
 | .cond c a b=>.cond c (bif zJ ds c true then .goto 0 else fP ds a) (bif zJ ds c false then .goto 0 else fP ds b)
 | .loop b=>.loop (fP ds b)
 | .block id b=>.block id (EL (Dx ds id b) id (fP ds b))
 | c=>c
theorem kH:∀c:Code,fP [] c=c
 | .seq a b=>by simp only[fP,kH a,kH b]
 | .cond c a b=>by
  have h:∀v,zJ [] c v=false:=fun v=>by cases c<;>rfl
  simp only[fP,h,cond_false,kH a,kH b]
 | .loop b=>by simp only[fP,kH b]
 | .block id b=>by simp only[fP,EL,Dx,List.any_nil,Bool.false_and,cond_false,kH b]
 | .skip | .region .. | .exit _ | .ret | .rangeFunc .. | .scope _ | .label _ | .goto _ | .refuse _=>rfl
def DH (P:Program) (C:Ctx) (g:Gl) (N:Nat) (L:bB) (ann:Nat->List Dir) (ds:List (Nat×Bool)) (c:Code):Prop:=
 (∀p∈bR (fP ds c),fB C L ann p.1 p.2)->∀(K:X->St->Prop) (s:St) (a:Act) (w:World) (φ:Names),Sim g N s a w φ->awp C L ann (fP ds c) s K->c.wp P (QK g N K) a w
theorem vX {id i:Nat} {ds:List Dir} {K:X->St->Prop} {a':Act} {w':World} (hq:QK g N (Cp id ds K) (.exit i) a' w'):QK g N K (.exit i) a' w':=by
 obtain⟨s',φ',hk,hs'⟩:=hq
 simp only[Cp] at hk
 rcases aZ i id with⟨e,hb⟩ | ⟨e,hb⟩
 ·rw[hb] at hk
  obtain⟨φ'',h''⟩:=hs'.norm ds
  exact⟨_,φ'',hk,h''⟩
 ·rw[hb] at hk
  exact⟨s',φ',hk,hs'⟩
theorem rQ {id:Nat} {K:X->St->Prop} {e:Exit} {a':Act} {w':World} (hq:QK g N (zN id K) e a' w'):Exit.inBlock id (QK g N K) e a' w':=by
 cases e with
 | normal=>exact hq
 | exit i=>
  obtain⟨s',φ',hk,hs'⟩:=hq
  simp only[zN] at hk
  show if i=id then QK g N K .normal a' w' else QK g N K (.exit i) a' w'
  rcases aZ i id with⟨e,hb⟩ | ⟨e,hb⟩
  ·rw[if_pos e]
   rw[hb] at hk
   exact⟨s',φ',hk,hs'⟩
  ·rw[if_neg e]
   rw[hb] at hk
   exact⟨s',φ',hk,hs'⟩
 | ret=>exact hq
 | goto l=>exact hq.elim
 | panic ch=>exact hq.elim
 | outgrown=>exact hq.elim
theorem CB (hT:TabOk P C) (hC:dR P C) (hN:C.n=N) (hm:P.follows .mixedOrders=true) {L:bB} {ann:Nat->List Dir} {ds:List (Nat×Bool)} (c:Code) :
  DH P C g N L ann ds c/\∀b,c=.loop b->DH P C g N L ann ds b:=by
 induction c with
 | skip=>exact⟨fun _ K s a w φ h hr=>wp_skip ⟨s,φ,hr,h⟩,fun b e=>by cases e⟩
 | region id ops draw=>
  refine⟨fun _ K s a w φ h hr=>?_,fun b e=>by cases e⟩
  simp only[fP] at hr
  unfold awp at hr
  have hQ:∀a' w' s' φ',sV (norm s' (ann id)) (fun s''=>K .normal s'')->Sim g N s' a' w' φ'->QK g N K .normal a' w':=by
   intro a' w' s' φ' hk hs
   rw[EX] at hk
   obtain⟨φ'',h''⟩:=hs.norm (ann id)
   exact⟨_,φ'',hk,h''⟩
  cases draw with
  | false=>exact Fm hT hC hN (K:=fun s'=>sV (norm s' (ann id)) fun s''=>K .normal s'') hQ h hr
  | true=>
   simp only[cond_true] at hr
   cases hreg:rG ops.toList with
   | false=>rw[hreg] at hr;exact hr.elim
   | true=>
    rw[hreg] at hr
    exact yE hT hC hN hm (K:=fun s'=>sV (norm s' (ann id)) fun s''=>K .normal s'') hreg hQ (fun _ _ _ hq=>hq) h hr
 | seq x y ihx ihy=>
  refine⟨fun hl K s a w φ h hr=>?_,fun b e=>by cases e⟩
  simp only[fP] at hr
  unfold awp at hr
  refine wp_seq (wp_mono (ihx.1 (fun p hp=>hl p (by simp[fP,bR,hp])) _ s a w φ h hr) ?_)
  intro e a' w' hq
  cases e with
  | normal=>
   obtain⟨s',φ',hk,hs⟩:=hq
   exact ihy.1 (fun p hp=>hl p (by simp[fP,bR,hp])) K s' a' w' φ' hs hk
  | exit i=>exact hq
  | ret=>exact hq
  | goto l=>exact hq.elim
  | panic ch=>exact hq.elim
  | outgrown=>exact hq.elim
 | cond c x y ihx ihy=>
  refine⟨fun hl K s a w φ h hr=>?_,fun b e=>by cases e⟩
  simp only[fP] at hr
  unfold awp at hr
  split at hr
  ·rename_i t ht
   have he:=h.eval c
   rw[ht] at he
   refine wp_cond (oz he) ?_
   cases t with
   | true=>
    simp only[cond_true] at hr
    cases hd:zJ ds c true with
    | true=>rw[hd] at hr;simp only[cond_true] at hr;unfold awp at hr;exact hr.elim
    | false=>rw[hd] at hr;exact ihx.1 (fun p hp=>hl p (by simp[fP,bR,hd,hp])) K s a w φ h hr
   | false=>
    simp only[cond_false] at hr
    cases hd:zJ ds c false with
    | true=>rw[hd] at hr;simp only[cond_true] at hr;unfold awp at hr;exact hr.elim
    | false=>rw[hd] at hr;exact ihy.1 (fun p hp=>hl p (by simp[fP,bR,hd,hp])) K s a w φ h hr
  ·exact hr.elim
 | loop b ih=>exact⟨fun _ K s a w φ h hr=>hr.elim,fun b' e=>by cases e;exact ih.1⟩
 | block id x ih=>
  refine⟨fun hl K s a w φ h hr=>?_,fun b e=>by cases e⟩
  cases hj:Dx ds id x with
  | true=>
   have e0:fP ds (.block id x)=.block id (.loop (.seq (fP ds x) (.exit id))):=by simp only[fP,hj,EL,cond_true]
   rw[e0] at hr hl
   unfold awp at hr
   obtain⟨m0,hL0⟩:=hr
   have hok:fB C L ann id (.seq (fP ds x) (.exit id)):=hl (id,.seq (fP ds x) (.exit id)) (by simp[bR])
   have hlb:∀p∈bR (fP ds x),fB C L ann p.1 p.2:=fun p hp=>hl p (by simp[bR,hp])
   have h1:=hok _ _ _ hL0
   unfold awp at h1
   refine wp_block (wp_mono (ih.1 hlb _ s a w φ h h1) ?_)
   intro e a' w' hq
   cases e with
   | normal=>
    obtain⟨s',φ',hk,hs'⟩:=hq
    have hk':Cp id (ann (behind id)) (zN id K) (.exit id) s':=hk
    have:=rQ (e:=.exit id) (vX (g:=g) (N:=N) (a':=a') (w':=w') ⟨s',φ',hk',hs'⟩)
    have this:(if id=id then QK g N K .normal a' w' else QK g N K (.exit id) a' w'):=this
    rw[if_pos rfl] at this
    exact this
   | exit i=>exact rQ (e:=.exit i) (vX hq)
   | ret=>exact hq
   | goto l=>exact hq.elim
   | panic ch=>exact hq.elim
   | outgrown=>exact hq.elim
  | false=>
  have e0:fP ds (.block id x)=.block id (fP ds x):=by simp only[fP,hj,EL,cond_false]
  rw[e0] at hr hl
  by_cases hx:∃b,x=.loop b
  ·obtain⟨b,rfl⟩:=hx
   simp only[fP] at hr hl
   unfold awp at hr
   obtain⟨m0,hL0⟩:=hr
   have hok:fB C L ann id (fP ds b):=hl (id,fP ds b) (by simp[bR])
   have hlb:∀p∈bR (fP ds b),fB C L ann p.1 p.2:=fun p hp=>hl p (by simp[bR,hp])
   let I0:Act->World->Nat->Prop:=fun a w m=>∃s φ,L id m s (zN id K)/\Sim g N s a w φ
   refine wp_block (wp_loop (fun a w=>∃m,I0 a w m) (fun a w=>least (I0 a w)) ⟨m0,s,φ,hL0,h⟩ ?_)
   rintro a w ⟨m,hm0⟩
   obtain⟨s1,φ1,hL1,hs1⟩:=(yu hm0).1
   refine wp_mono ((ih.2 b rfl) hlb _ s1 a w φ1 hs1 (hok _ _ _ hL1)) ?_
   intro e a' w' hq
   cases e with
   | normal=>
    obtain⟨s',φ',⟨m',hlt,hL'⟩,hs'⟩:=hq
    have hI:I0 a' w' m':=⟨s',φ',hL',hs'⟩
    exact⟨⟨m',hI⟩,Nat.lt_of_le_of_lt (yu hI).2 hlt⟩
   | exit i=>exact rQ (e:=.exit i) (vX hq)
   | ret=>exact hq
   | goto l=>exact hq.elim
   | panic ch=>exact hq.elim
   | outgrown=>exact hq.elim
  ·have hx':∀b,fP ds x≠.loop b:=fun b e=>by
    cases x<;>simp[fP] at e
    exact hx ⟨_,rfl⟩
   have hr:awp C L ann (.block id (fP ds x)) s K:=hr
   rw[Fg hx'] at hr
   exact wp_block (wp_mono (ih.1 (fun p hp=>hl p (by rw[Al hx'];exact hp)) _ s a w φ h hr) (fun e a' w' hq=>rQ hq))
 | exit i=>exact⟨fun _ K s a w φ h hr=>wp_exit ⟨s,φ,hr,h⟩,fun b e=>by cases e⟩
 | ret=>exact⟨fun _ K s a w φ h hr=>wp_ret ⟨s,φ,hr,h⟩,fun b e=>by cases e⟩
 | _=>exact⟨fun _ K s a w φ h hr=>by simp only[fP] at hr;unfold awp at hr;exact hr.elim,fun b e=>by cases e⟩
theorem Gv (hT:TabOk P C) (hC:dR P C) (hN:C.n=N) (hm:P.follows .mixedOrders=true) {L:bB} {ann:Nat->List Dir} (c:Code) :
  (∀p∈bR c,fB C L ann p.1 p.2)->∀(K:X->St->Prop) (s:St) (a:Act) (w:World) (φ:Names),Sim g N s a w φ->awp C L ann c s K->c.wp P (QK g N K) a w:=by
 have:=(CB (L:=L) (ann:=ann) (ds:=[]) (g:=g) hT hC hN hm c).1
 unfold DH at this
 rw[kH] at this
 exact this
end
section
variable {P:Program} {C:Ctx} {g:Gl} {N:Nat} {s:St} {a:Act} {w:World} {φ:Names}
def om:Nat->List AV->Env
 | _,[]=>[]
 | i,v::l=>(i,v)::om (i+1) l
def Eb:Hp->Bool
 | []=>false
 | (i,_)::_=>Nat.beq i base
def Ju (E:Tab) (deep:Bool) (rs:List ResultVar) (io:Bool) (K:AV->Hp->Prop):X->St->Prop
 | .normal,s=>Hw E deep rs io s K
 | .ret,s=>Hw E deep rs io s K
 | .exit _,_=>False
theorem qL {w:World} {I S:Nat->Prop} {φ:Names} {hp:Hp}:∀{l:List AV} {vs:List Value} {i:Nat},ax w I S φ hp l vs->∀j av,lookup (om i l) j=some av →
  i<=j/\∃u,vs[j-i]? = some u/\ah w I S φ hp av u
 | [],vs,i,_,j,av,hj=>by simp[om,lookup] at hj
 | x::l,vs,i,h,j,av,hj=>by
  simp only[ax] at h
  obtain⟨u,us,rfl,h1,h2⟩:=h
  unfold om at hj
  rw[lookup_cons] at hj
  split at hj
  ·rename_i e
   subst e
   cases hj
   exact⟨Nat.le_refl _,u,by simp,h1⟩
  ·obtain⟨h3,u',h4,h5⟩:=qL h2 j av hj
   refine⟨by omega,u',?_,h5⟩
   rw[show j-i=(j-(i+1))+1 by omega]
   simpa using h4
theorem Sim.bare (h:Sim g N s a w φ):Sim g 0 ⟨[],s.hp⟩ idle w φ:=
 ⟨rfl,rfl,h.os,h.tape,h.output,h.hsize,h.frame,h.inj,h.apart,h.place,h.blocks,fun _ _ e=>by simp[lookup] at e,h.pinned⟩
theorem Sim.entry {hp:Hp} {args:List AV} {vals:List Value} {n:Nat} (h:Sim g 0 ⟨[],hp⟩ idle g.w0 φ) (hv:ax g.w0 (imm g φ hp g.w0.heap.size) (aM g) φ hp args vals) (hn:args.length<=n) (hg:args.length<=bL) :
  Sim g n ⟨om 0 args,hp⟩ { tmps:=vals.toArray++Array.replicate (n-vals.toArray.size) undef,defers:=[] } g.w0 φ:=by
 have hl:=hv.length
 refine⟨rfl,by simp;omega,h.os,h.tape,h.output,h.hsize,h.frame,h.inj,h.apart,h.place,h.blocks,?_,h.pinned⟩
 intro j av hj
 obtain⟨_,u,h1,h2⟩:=qL hv j av hj
 have h1:vals[j]? = some u:=by simpa using h1
 have hlt:j<vals.length:=(List.getElem?_eq_some_iff.1 h1).1
 have:(vals.toArray++Array.replicate (n-vals.toArray.size) undef).getD j undef=u:=by
  rw[Array.getD_eq_getD_getElem?,Array.getElem?_append_left (by simpa using hlt)]
  simp[h1]
 have hjg:Nat.blt j bL=true:=by rw[Nat.blt_eq];omega
 unfold valOf
 rw[hjg]
 simp only[cond_true]
 rw[this]
 exact h2
end
end Go.AE
