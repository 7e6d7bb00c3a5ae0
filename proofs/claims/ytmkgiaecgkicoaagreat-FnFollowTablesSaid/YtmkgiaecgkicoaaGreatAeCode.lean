/- Code: blocks, branches, loops. -/
import Derived.Test.YtmkgiaecgkicoaaGreatAeDrawB
namespace Go.AE
open Go Go.RowKit
section
variable {P:Program} {C:Ctx} {g:Gl} {N:Nat}
def QK (g:Gl) (N:Nat) (K:X->St->Prop):Exit->Act->World->Prop
 | .normal,a,w=>∃s φ,K .normal s/\Sim g N s a w φ
 | .exit i,a,w=>∃s φ,K (.exit i) s/\Sim g N s a w φ
 | .ret,a,w=>∃s φ,K .ret s/\Sim g N s a w φ
 | _,_,_=>False
theorem exists_least {p:Nat->Prop} (h:∃n,p n):∃n,p n/\∀m,p m->n<=m:=by
 obtain⟨n,hn⟩:=h
 induction n using Nat.strongRecOn with
 | _ n ih=>
  by_cases hq:∃m,m<n/\p m
  ·obtain⟨m,h1,h2⟩:=hq
   exact ih m h1 h2
  ·refine⟨n,hn,fun m hm=>?_⟩
   rcases Nat.lt_or_ge m n with h | h
   ·exact absurd ⟨m,h,hm⟩ hq
   ·exact h
open Classical in
noncomputable def least (p:Nat->Prop):Nat:=if h:∃n,p n then Classical.choose (exists_least h) else 0
theorem Am {p:Nat->Prop} {n:Nat} (h:p n):p (least p)/\least p<=n:=by
 have he:∃n,p n:=⟨n,h⟩
 unfold least
 rw[dif_pos he]
 exact⟨(Classical.choose_spec (exists_least he)).1,(Classical.choose_spec (exists_least he)).2 n h⟩
theorem FX {L:bC} {ann:Nat->List Dir} {id:Nat} {b:Code} (hb:∀x,b≠.loop x) (s:St) (K:X->St->Prop):awp C L ann (.block id b) s K=awp C L ann b s (zv id K):=by
 cases b<;>first | rfl | exact absurd rfl (hb _)
theorem AD {id:Nat} {b:Code} (hb:∀x,b≠.loop x):bY (.block id b)=bY b:=by
 cases b<;>first | rfl | exact absurd rfl (hb _)
def Al (ds:List (Nat×Bool)) (c:Operand) (v:Bool):Bool:=match c with
 | .tmp t=>ds.any fun p=>Nat.beq p.1 t&&(p.2==v)
 | _=>false
def Jg:Code->Bool
 | .loop _=>true
 | _=>false
def Et (ds:List (Nat×Bool)) (id:Nat) (b:Code):Bool:=(ds.any fun p=>Nat.beq p.1 (Nat.add id 1000000))&&!Jg b
def Fo (j:Bool) (id:Nat) (b:Code):Code:=bif j then .loop (.seq b (.exit id)) else b
def fM (ds:List (Nat×Bool)):Code->Code
 | .seq a b=>.seq (fM ds a) (fM ds b)
 | .cond c a b=>.cond c (bif Al ds c true then .goto 0 else fM ds a) (bif Al ds c false then .goto 0 else fM ds b)
 | .loop b=>.loop (fM ds b)
 | .block id b=>.block id (Fo (Et ds id b) id (fM ds b))
 | c=>c
theorem lf:∀c:Code,fM [] c=c
 | .seq a b=>by simp only[fM,lf a,lf b]
 | .cond c a b=>by
  have h:∀v,Al [] c v=false:=fun v=>by cases c<;>rfl
  simp only[fM,h,cond_false,lf a,lf b]
 | .loop b=>by simp only[fM,lf b]
 | .block id b=>by simp only[fM,Fo,Et,List.any_nil,Bool.false_and,cond_false,lf b]
 | .skip | .region .. | .exit _ | .ret | .rangeFunc .. | .scope _ | .label _ | .goto _ | .refuse _=>rfl
def EV (P:Program) (C:Ctx) (g:Gl) (N:Nat) (L:bC) (ann:Nat->List Dir) (ds:List (Nat×Bool)) (c:Code):Prop:=
 (∀p∈bY (fM ds c),fJ C L ann p.1 p.2)->∀(K:X->St->Prop) (s:St) (a:Act) (w:World) (φ:Names),Sim g N s a w φ->awp C L ann (fM ds c) s K->c.wp P (QK g N K) a w
theorem wU {id i:Nat} {ds:List Dir} {K:X->St->Prop} {a':Act} {w':World} (hq:QK g N (DL id ds K) (.exit i) a' w'):QK g N K (.exit i) a' w':=by
 obtain⟨s',φ',hk,hs'⟩:=hq
 simp only[DL] at hk
 rcases bg i id with⟨e,hb⟩ | ⟨e,hb⟩
 ·rw[hb] at hk
  obtain⟨φ'',h''⟩:=hs'.norm ds
  exact⟨_,φ'',hk,h''⟩
 ·rw[hb] at hk
  exact⟨s',φ',hk,hs'⟩
theorem sG {id:Nat} {K:X->St->Prop} {e:Exit} {a':Act} {w':World} (hq:QK g N (zv id K) e a' w'):Exit.inBlock id (QK g N K) e a' w':=by
 cases e with
 | normal=>exact hq
 | exit i=>
  obtain⟨s',φ',hk,hs'⟩:=hq
  simp only[zv] at hk
  show if i=id then QK g N K .normal a' w' else QK g N K (.exit i) a' w'
  rcases bg i id with⟨e,hb⟩ | ⟨e,hb⟩
  ·rw[if_pos e]
   rw[hb] at hk
   exact⟨s',φ',hk,hs'⟩
  ·rw[if_neg e]
   rw[hb] at hk
   exact⟨s',φ',hk,hs'⟩
 | ret=>exact hq
 | goto l=>exact hq.elim
 | panic ch=>exact hq.elim
 | outgrown=>exact hq.elim
theorem CW (hT:TabOk P C) (hC:dY P C) (hN:C.n=N) (hm:P.follows .mixedOrders=true) {L:bC} {ann:Nat->List Dir} {ds:List (Nat×Bool)} (c:Code) :
  EV P C g N L ann ds c/\∀b,c=.loop b->EV P C g N L ann ds b:=by
 induction c with
 | skip=>exact⟨fun _ K s a w φ h hr=>wp_skip ⟨s,φ,hr,h⟩,fun b e=>by cases e⟩
 | region id ops draw=>
  refine⟨fun _ K s a w φ h hr=>?_,fun b e=>by cases e⟩
  simp only[fM] at hr
  unfold awp at hr
  have hQ:∀a' w' s' φ',tU (norm s' (ann id)) (fun s''=>K .normal s'')->Sim g N s' a' w' φ'->QK g N K .normal a' w':=by
   intro a' w' s' φ' hk hs
   rw[Gh] at hk
   obtain⟨φ'',h''⟩:=hs.norm (ann id)
   exact⟨_,φ'',hk,h''⟩
  cases draw with
  | false=>exact Gz hT hC hN (K:=fun s'=>tU (norm s' (ann id)) fun s''=>K .normal s'') hQ h hr
  | true=>
   simp only[cond_true] at hr
   cases hreg:qZ ops.toList with
   | false=>rw[hreg] at hr;exact hr.elim
   | true=>
    rw[hreg] at hr
    exact Ap hT hC hN hm (K:=fun s'=>tU (norm s' (ann id)) fun s''=>K .normal s'') hreg hQ (fun _ _ _ hq=>hq) h hr
 | seq x y ihx ihy=>
  refine⟨fun hl K s a w φ h hr=>?_,fun b e=>by cases e⟩
  simp only[fM] at hr
  unfold awp at hr
  refine wp_seq (wp_mono (ihx.1 (fun p hp=>hl p (by simp[fM,bY,hp])) _ s a w φ h hr) ?_)
  intro e a' w' hq
  cases e with
  | normal=>
   obtain⟨s',φ',hk,hs⟩:=hq
   exact ihy.1 (fun p hp=>hl p (by simp[fM,bY,hp])) K s' a' w' φ' hs hk
  | exit i=>exact hq
  | ret=>exact hq
  | goto l=>exact hq.elim
  | panic ch=>exact hq.elim
  | outgrown=>exact hq.elim
 | cond c x y ihx ihy=>
  refine⟨fun hl K s a w φ h hr=>?_,fun b e=>by cases e⟩
  simp only[fM] at hr
  unfold awp at hr
  split at hr
  ·rename_i t ht
   have he:=h.eval c
   rw[ht] at he
   refine wp_cond (pE he) ?_
   cases t with
   | true=>
    simp only[cond_true] at hr
    cases hd:Al ds c true with
    | true=>rw[hd] at hr;simp only[cond_true] at hr;unfold awp at hr;exact hr.elim
    | false=>rw[hd] at hr;exact ihx.1 (fun p hp=>hl p (by simp[fM,bY,hd,hp])) K s a w φ h hr
   | false=>
    simp only[cond_false] at hr
    cases hd:Al ds c false with
    | true=>rw[hd] at hr;simp only[cond_true] at hr;unfold awp at hr;exact hr.elim
    | false=>rw[hd] at hr;exact ihy.1 (fun p hp=>hl p (by simp[fM,bY,hd,hp])) K s a w φ h hr
  ·exact hr.elim
 | loop b ih=>exact⟨fun _ K s a w φ h hr=>hr.elim,fun b' e=>by cases e;exact ih.1⟩
 | block id x ih=>
  refine⟨fun hl K s a w φ h hr=>?_,fun b e=>by cases e⟩
  cases hj:Et ds id x with
  | true=>
   have e0:fM ds (.block id x)=.block id (.loop (.seq (fM ds x) (.exit id))):=by simp only[fM,hj,Fo,cond_true]
   rw[e0] at hr hl
   unfold awp at hr
   obtain⟨m0,hL0⟩:=hr
   have hok:fJ C L ann id (.seq (fM ds x) (.exit id)):=hl (id,.seq (fM ds x) (.exit id)) (by simp[bY])
   have hlb:∀p∈bY (fM ds x),fJ C L ann p.1 p.2:=fun p hp=>hl p (by simp[bY,hp])
   have h1:=hok _ _ _ hL0
   unfold awp at h1
   refine wp_block (wp_mono (ih.1 hlb _ s a w φ h h1) ?_)
   intro e a' w' hq
   cases e with
   | normal=>
    obtain⟨s',φ',hk,hs'⟩:=hq
    have hk':DL id (ann (behind id)) (zv id K) (.exit id) s':=hk
    have:=sG (e:=.exit id) (wU (g:=g) (N:=N) (a':=a') (w':=w') ⟨s',φ',hk',hs'⟩)
    have this:(if id=id then QK g N K .normal a' w' else QK g N K (.exit id) a' w'):=this
    rw[if_pos rfl] at this
    exact this
   | exit i=>exact sG (e:=.exit i) (wU hq)
   | ret=>exact hq
   | goto l=>exact hq.elim
   | panic ch=>exact hq.elim
   | outgrown=>exact hq.elim
  | false=>
  have e0:fM ds (.block id x)=.block id (fM ds x):=by simp only[fM,hj,Fo,cond_false]
  rw[e0] at hr hl
  by_cases hx:∃b,x=.loop b
  ·obtain⟨b,rfl⟩:=hx
   simp only[fM] at hr hl
   unfold awp at hr
   obtain⟨m0,hL0⟩:=hr
   have hok:fJ C L ann id (fM ds b):=hl (id,fM ds b) (by simp[bY])
   have hlb:∀p∈bY (fM ds b),fJ C L ann p.1 p.2:=fun p hp=>hl p (by simp[bY,hp])
   let I0:Act->World->Nat->Prop:=fun a w m=>∃s φ,L id m s (zv id K)/\Sim g N s a w φ
   refine wp_block (wp_loop (fun a w=>∃m,I0 a w m) (fun a w=>least (I0 a w)) ⟨m0,s,φ,hL0,h⟩ ?_)
   rintro a w ⟨m,hm0⟩
   obtain⟨s1,φ1,hL1,hs1⟩:=(Am hm0).1
   refine wp_mono ((ih.2 b rfl) hlb _ s1 a w φ1 hs1 (hok _ _ _ hL1)) ?_
   intro e a' w' hq
   cases e with
   | normal=>
    obtain⟨s',φ',⟨m',hlt,hL'⟩,hs'⟩:=hq
    have hI:I0 a' w' m':=⟨s',φ',hL',hs'⟩
    exact⟨⟨m',hI⟩,Nat.lt_of_le_of_lt (Am hI).2 hlt⟩
   | exit i=>exact sG (e:=.exit i) (wU hq)
   | ret=>exact hq
   | goto l=>exact hq.elim
   | panic ch=>exact hq.elim
   | outgrown=>exact hq.elim
  ·have hx':∀b,fM ds x≠.loop b:=fun b e=>by
    cases x<;>simp[fM] at e
    exact hx ⟨_,rfl⟩
   have hr:awp C L ann (.block id (fM ds x)) s K:=hr
   rw[FX hx'] at hr
   exact wp_block (wp_mono (ih.1 (fun p hp=>hl p (by rw[AD hx'];exact hp)) _ s a w φ h hr) (fun e a' w' hq=>sG hq))
 | exit i=>exact⟨fun _ K s a w φ h hr=>wp_exit ⟨s,φ,hr,h⟩,fun b e=>by cases e⟩
 | ret=>exact⟨fun _ K s a w φ h hr=>wp_ret ⟨s,φ,hr,h⟩,fun b e=>by cases e⟩
 | _=>exact⟨fun _ K s a w φ h hr=>by simp only[fM] at hr;unfold awp at hr;exact hr.elim,fun b e=>by cases e⟩
theorem HO (hT:TabOk P C) (hC:dY P C) (hN:C.n=N) (hm:P.follows .mixedOrders=true) {L:bC} {ann:Nat->List Dir} (c:Code) :
  (∀p∈bY c,fJ C L ann p.1 p.2)->∀(K:X->St->Prop) (s:St) (a:Act) (w:World) (φ:Names),Sim g N s a w φ->awp C L ann c s K->c.wp P (QK g N K) a w:=by
 have:=(CW (L:=L) (ann:=ann) (ds:=[]) (g:=g) hT hC hN hm c).1
 unfold EV at this
 rw[lf] at this
 exact this
end
section
variable {P:Program} {C:Ctx} {g:Gl} {N:Nat} {s:St} {a:Act} {w:World} {φ:Names}
def oo:Nat->List AV->Env
 | _,[]=>[]
 | i,v::l=>(i,v)::oo (i+1) l
def ED:Hp->Bool
 | []=>false
 | (i,_)::_=>Nat.beq i base
def Km (E:Tab) (deep two:Bool) (rs:List ResultVar) (io:Bool) (K:AV->Hp->Prop):X->St->Prop
 | .normal,s=>GX E deep two rs io s K
 | .ret,s=>GX E deep two rs io s K
 | .exit _,_=>False
theorem rA {w:World} {I S:Nat->Prop} {φ:Names} {hp:Hp}:∀{l:List AV} {vs:List Value} {i:Nat},aq w I S φ hp l vs->∀j av,lookup (oo i l) j=some av →
  i<=j/\∃u,vs[j-i]? = some u/\aj w I S φ hp av u
 | [],vs,i,_,j,av,hj=>by simp[oo,lookup] at hj
 | x::l,vs,i,h,j,av,hj=>by
  simp only[aq] at h
  obtain⟨u,us,rfl,h1,h2⟩:=h
  unfold oo at hj
  rw[lookup_cons] at hj
  split at hj
  ·rename_i e
   subst e
   cases hj
   exact⟨Nat.le_refl _,u,by simp,h1⟩
  ·obtain⟨h3,u',h4,h5⟩:=rA h2 j av hj
   refine⟨by omega,u',?_,h5⟩
   rw[show j-i=(j-(i+1))+1 by omega]
   simpa using h4
theorem Sim.bare (h:Sim g N s a w φ):Sim g 0 ⟨[],s.hp⟩ idle w φ:=
 ⟨rfl,rfl,h.os,h.tape,h.output,h.hsize,h.frame,h.inj,h.apart,h.place,h.blocks,fun _ _ e=>by simp[lookup] at e,h.pinned⟩
theorem Sim.entry {hp:Hp} {args:List AV} {vals:List Value} {n:Nat} (h:Sim g 0 ⟨[],hp⟩ idle g.w0 φ) (hv:aq g.w0 (imm g φ hp g.w0.heap.size) (aM g) φ hp args vals) (hn:args.length<=n) (hg:args.length<=bT) :
  Sim g n ⟨oo 0 args,hp⟩ { tmps:=vals.toArray++Array.replicate (n-vals.toArray.size) undef,defers:=[] } g.w0 φ:=by
 have hl:=hv.length
 refine⟨rfl,by simp;omega,h.os,h.tape,h.output,h.hsize,h.frame,h.inj,h.apart,h.place,h.blocks,?_,h.pinned⟩
 intro j av hj
 obtain⟨_,u,h1,h2⟩:=rA hv j av hj
 have h1:vals[j]? = some u:=by simpa using h1
 have hlt:j<vals.length:=(List.getElem?_eq_some_iff.1 h1).1
 have:(vals.toArray++Array.replicate (n-vals.toArray.size) undef).getD j undef=u:=by
  rw[Array.getD_eq_getD_getElem?,Array.getElem?_append_left (by simpa using hlt)]
  simp[h1]
 have hjg:Nat.blt j bT=true:=by rw[Nat.blt_eq];omega
 unfold valOf
 rw[hjg]
 simp only[cond_true]
 rw[this]
 exact h2
end
end Go.AE
