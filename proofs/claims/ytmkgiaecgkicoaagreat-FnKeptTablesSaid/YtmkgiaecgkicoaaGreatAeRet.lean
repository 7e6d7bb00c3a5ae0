/- What a function hands back, and contracts out of code. -/
import Derived.Test.YtmkgiaecgkicoaaGreatAeCode
import Derived.Laws.Sem
namespace Go.AE
open Go Go.RowKit
section
variable {P:Program} {C:Ctx} {g:Gl} {N:Nat} {s:St} {a:Act} {w:World} {φ:Names}
inductive All2 {α β:Type} (R:α->β->Prop):List α->List β->Prop
 | nil:All2 R [] []
 | cons {x y l k}:R x y->All2 R l k->All2 R (x::l) (y::k)
theorem All2.length_eq {α β:Type} {R:α->β->Prop} {l:List α} {k:List β} (h:All2 R l k):l.length=k.length:=by
 induction h with
 | nil=>rfl
 | cons _ _ ih=>simp[ih]
def mA (tmps:Array Value):ResultVar->Sem Value
 | .tmp t=>pure (tmps.getD t undef)
 | .cell a t=>do loadVar t (<-asAddr (tmps.getD a undef))
theorem sD (tmps:Array Value) (w:World) (P:Program):∀(l:List ResultVar) (us:List Value),All2 (fun r u=>(mA tmps r).run P w=Result.ok u w) l us →
  (l.mapM (mA tmps)).run P w=Result.ok us w
 | [],_,h=>by cases h;simp
 | r::l,_,h=>by
  cases h with
  | cons h1 h2=>
   have ih:=sD tmps w P l _ h2
   simp only[List.mapM_cons,Sem.run_bind,h1,ih,Result.andThen_ok,Sem.run_pure]
theorem iZ {fn:Func} {tmps:Array Value} {w:World} {us:List Value} (h:All2 (fun r u=>(mA tmps r).run P w=Result.ok u w) fn.results.toList us) :
  (results fn tmps).run P w=Result.ok (if h:us.toArray.size=1 then us.toArray[0] else Value.tuple us.toArray) w:=by
 have e:results fn tmps=(do
   let vs <-fn.results.mapM (mA tmps)
   pure (if h:vs.size=1 then vs[0] else .tuple vs):Sem Value):=by
  unfold results
  congr 1
 rw[e,Array.mapM_eq_mapM_toList]
 simp only[map_eq_pure_bind,bind_assoc,pure_bind,Sem.run_bind,sD tmps w P _ _ h,Result.andThen_ok,Sem.run_pure]
theorem Sim.xk (l:List Nat):∀{s:St},Sim g N s a w φ->Moved g w φ s (AE.gn s l):=by
 induction l with
 | nil=>exact fun h=>Moved.refl ..
 | cons i l ih=>intro s h;exact(h.BG i).trans (ih (h.freeze i))
theorem tZ (hT:TabOk P C) (h:Sim g N s a w φ) {deep:Bool} {r:ResultVar} {v:AV} {s':St} (hr:rJ C.tab deep s r=some (v,s')) :
  ∃u,(mA a.tmps r).run P w=.ok u w/\Sim g N s' a w φ/\Moved g w φ s s'/\ah w (imm g φ s'.hp w.heap.size) (aM g) φ s'.hp v u:=by
 cases r with
 | tmp t=>
  simp only[rJ,Option.some.injEq,Prod.mk.injEq] at hr
  obtain⟨rfl,rfl⟩:=hr
  exact⟨_,by simp[mA],h,Moved.refl ..,h.slot t⟩
 | cell p ty=>
  simp only[rJ] at hr
  have hx:=h.slot p
  split at hr
  case h_2=>cases hr
  rename_i id e1
  rw[e1] at hx
  split at hr
  case h_2=>cases hr
  rename_i u hu
  have hf:=hT.ty _ _ hu
  split at hr
  case h_2=>cases hr
  rename_i cs hl
  simp only[ah] at hx
  obtain⟨b,hφ,e⟩:=hx _ hl
  have hrun:∀{c:List Value},Cells w b 0 c->c.length=u.size->(mA a.tmps (.cell p ty)).run P w=.ok (mkv u c) w:=by
   intro c hc hlen
   have:=wK (P:=P) hf hc hlen
   simp only[mA,Sem.run_bind,e]
   simp[asAddr,this]
  cases ha:u.agg with
  | true=>
   rw[ha] at hr
   simp only[cond_true] at hr
   cases hdp:(deep&&(Nat.beq u.size cs.length&&!dA cs)) with
   | true=>
    rw[hdp] at hr
    simp only[cond_true,Option.some.injEq,Prod.mk.injEq] at hr
    obtain⟨rfl,rfl⟩:=hr
    obtain⟨_,hq⟩:=Bool.and_eq_true_iff.1 hdp
    have hsz:=Nat.eq_of_beq_eq_true (Bool.and_eq_true_iff.1 hq).1
    obtain⟨⟨b',vs,e0,hb',hg,hvs,h1c⟩,_⟩:=h.blocks id _ hl
    have hb':=hφ.symm.trans hb'
    cases hb'
    have hlen:vs.toList.length=u.size:=hvs.length.trans hsz.symm
    exact⟨_,hrun (cO hg) hlen,h,Moved.refl ..,by simp only[ah];exact⟨_,rfl,hlen,h1c,hvs⟩⟩
   | false=>
   rw[hdp] at hr
   simp only[cond_false] at hr
   split at hr
   case h_2=>cases hr
   rename_i cs1 hl1
   split at hr
   case h_2=>cases hr
   rename_i y hy
   simp only[Option.some.injEq,Prod.mk.injEq] at hr
   obtain⟨rfl,rfl⟩:=hr
   have h1:=h.gn (qm (cs.take u.size))
   obtain⟨⟨b',vs,e0,hb',hg,hvs,h1c⟩,_⟩:=h1.blocks id _ hl1
   have hb':=hφ.symm.trans hb'
   cases hb'
   obtain⟨c,vs',ev,hr,_⟩:=pJ hvs hy
   have hc:Cells w b 0 c:=by
    have:=cO hg
    rw[ev] at this
    have:=this.take c.length
    rwa [List.take_left] at this
   exact⟨_,hrun hc hr.length,h1,h.xk _,by simp only[ah];exact⟨c,hr,rfl⟩⟩
  | false=>
   rw[ha] at hr
   simp only[cond_false] at hr
   split at hr
   case h_2=>cases hr
   rename_i v0 hv
   simp only[Option.some.injEq,Prod.mk.injEq] at hr
   obtain⟨rfl,rfl⟩:=hr
   obtain⟨⟨b',vs,e0,hb',hg,hvs,_⟩,_⟩:=h.blocks id _ hl
   have hb':=hφ.symm.trans hb'
   cases hb'
   obtain⟨uv,e2,hr⟩:=hvs.nth hv
   have hc:Cells w b 0 [uv]:=by
    have:=cO hg
    intro j v' hj
    cases j with
    | zero=>
     simp at hj
     subst hj
     exact this 0 uv e2
    | succ j=>simp at hj
   refine⟨_,hrun hc (by simp[dG u ha]),h,Moved.refl ..,?_⟩
   simpa [mkv,ha] using hr
theorem Sim.Hy (h:Sim g N s a w φ) {io:Bool} {hp:Hp} (hio:Bh io s=some hp) :
  (∀j b,lookup hp j=some b->j=base/\lookup s.hp base=some b)/\Sim g 0 ⟨[],hp⟩ idle w φ/\(∀b,imm g φ s.hp w.heap.size b->imm g φ hp w.heap.size b):=by
 have key:∀j b,lookup hp j=some b->j=base/\lookup s.hp base=some b:=by
  unfold Bh at hio
  cases io with
  | false=>
   simp only[cond_false,Option.some.injEq] at hio
   subst hio
   intro j b hj
   simp[lookup] at hj
  | true=>
   simp only[cond_true] at hio
   have one:∀{blk:Block},lookup s.hp base=some blk->hp=[(base,blk)]->∀j b,lookup hp j=some b->j=base/\lookup s.hp base=some b:=by
    intro blk hl e j b hj
    subst e
    rw[lookup_cons] at hj
    split at hj
    ·rename_i e
     cases hj
     exact⟨e.symm,hl⟩
    ·simp[lookup] at hj
   split at hio
   ·rename_i cs hl
    have hio:=(cL hio).2
    cases hio
    exact one hl rfl
   ·rename_i hl
    cases hio
    exact one hl rfl
   ·cases hio
 refine⟨key,?_,?_⟩
 ·refine(h.bare.less (s':=⟨[],hp⟩) (fun _ _ h=>h) fun j b hj=>?_)
  obtain⟨rfl,h2⟩:=key j b hj
  exact h2
 ·rintro b ⟨h1,h2,h3⟩
  refine⟨h1,h2,fun j blk hj=>?_⟩
  obtain⟨rfl,h4⟩:=key j blk hj
  exact h3 _ _ h4
theorem EZ (h:Sim g N s a w φ) {io:Bool} {hp:Hp} (hio:Bh io s=some hp) {K:AV->Hp->Prop} {v:AV} {u:Value} (hk:K v hp) (hf:v.kept=true) (hv:ah w (imm g φ s.hp w.heap.size) (aM g) φ s.hp v u) :
  zU g K (.returned u) w:=by
 obtain⟨_,h2,h3⟩:=h.Hy hio
 exact⟨v,hp,φ,hk,h2,qW h3 (fun _ _ _=>rfl) _ _ hf hv⟩
theorem yW (hT:TabOk P C):∀{l:List ResultVar} {s s':St} {vs:List AV},Sim g N s a w φ->pV C.tab l s=some (vs,s') →
  ∃us,Sim g N s' a w φ/\Moved g w φ s s'/\All2 (fun r u=>(mA a.tmps r).run P w=Result.ok u w) l us/\dA vs=true/\ax w (imm g φ s'.hp w.heap.size) (aM g) φ s'.hp vs us
 | [],s,s',vs,h,hr=>by
  simp only[pV,Option.some.injEq,Prod.mk.injEq] at hr
  obtain⟨rfl,rfl⟩:=hr
  exact⟨[],h,Moved.refl ..,.nil,rfl,by simp[ax]⟩
 | r::l,s,s',vs,h,hr=>by
  unfold pV at hr
  split at hr
  case h_2=>cases hr
  rename_i v0 s0 h0
  obtain⟨u,hrun,hs0,hm0,hv⟩:=tZ hT h h0
  have fin:∀{s1:St} {v:AV} {ws:List AV},Sim g N s1 a w φ->Moved g w φ s s1->plainCell v=true->ah w (imm g φ s1.hp w.heap.size) (aM g) φ s1.hp v u->pV C.tab l s1=some (ws,s') →
    ∃us,Sim g N s' a w φ/\Moved g w φ s s'/\All2 (fun r u=>(mA a.tmps r).run P w=Result.ok u w) (r::l) us/\dA (v::ws)=true/\ax w (imm g φ s'.hp w.heap.size) (aM g) φ s'.hp (v::ws) us:=by
   intro s1 v ws h1 hm hp hv1 hr1
   obtain⟨us,q1,q2,q3,q4,q5⟩:=yW hT h1 hr1
   refine⟨u::us,q1,hm.trans q2,.cons hrun q3,by simp[dA,hp,q4],?_⟩
   simp only[ax]
   exact⟨_,_,rfl,ah.later (q2.later (fun _ h=>h)) _ _ hv1,q5⟩
  split at hr
  ·rename_i id cut
   split at hr
   case h_2=>cases hr
   rename_i ty xs hl
   split at hr
   case h_2=>cases hr
   rename_i x s1 hg
   split at hr
   case h_2=>cases hr
   rename_i ws s2 h2
   cases hr
   obtain⟨h1,cs,hrep,e⟩:=hs0.hY hv hg
   exact fin h1 (hm0.trans (hs0.tB hg)) rfl (by simp only[ah];exact⟨cs,hrep,e⟩) h2
  ·rename_i ty x
   split at hr
   case h_2=>cases hr
   rename_i ws s2 h2
   cases hr
   exact fin hs0 hm0 rfl hv h2
  ·rename_i c
   split at hr
   case h_2=>cases hr
   rename_i ws s2 h2
   cases hr
   exact fin hs0 hm0 rfl hv h2
  ·cases hr
theorem AB (h:Sim g N s a w φ) {K:AV->Hp->Prop} {v:AV} {u:Value} (hv:ah w (imm g φ s.hp w.heap.size) (aM g) φ s.hp v u) (hk:xR s v K):zU g K (.returned u) w:=by
 unfold xR at hk
 split at hk
 ·rename_i t vs
  obtain⟨q,hq,hk⟩:=aK hk
  simp only[ah] at hv
  obtain⟨us,e1,e2,e3,e4⟩:=hv
  obtain⟨ψ,h1,h2⟩:=h.out e4 (show dQ 0 vs s=some (q.1,q.2) from hq)
  exact⟨_,_,ψ,hk,h1,by simp only[ah];exact⟨us,e1,e2,e3,h2⟩⟩
 ·split at hk
  ·rename_i v' hp ho
   obtain⟨ψ,h1,h2⟩:=h.out (us:=[u]) (by simp only[ax];exact⟨u,[],rfl,hv,rfl⟩) ho
   simp only[ax] at h2
   obtain⟨u',us',e1,h3,e2⟩:=h2
   cases e1
   exact⟨_,_,ψ,hk,h1,h3⟩
  ·exact hk.elim
theorem Cm (h:Sim g N s a w φ) {io:Bool} {hp:Hp} (hio:Bh io s=some hp) {K:AV->Hp->Prop} {id:Nat} {d0:Dp} {t:Ty} {xs:List t.D} (n:Nat) {u:Value} {e:TypeId} {l:List Value}
  (hid:id≠base) (hl:lookup s.hp id=some (.arr d0 t xs)) (hn:n<=xs.length) (hu:w.rowOf 0 e t.size u n l) (hb:u.ownBlock=φ id) (hk:K (.own 0 none) ((0,.arr d0 t (xs.take n))::hp)) :
  zU g K (.returned u) w:=by
 obtain⟨h1,h2,h3⟩:=h.Hy hio
 have hlen:(xs.take n).length=n:=by rw[List.length_take];omega
 have hlk:∀j b,lookup ((0,Block.arr d0 t (xs.take n))::hp) j=some b->(j=0/\b=.arr d0 t (xs.take n))\/(j=base/\lookup s.hp base=some b):=by
  intro j b hj
  rw[lookup_cons] at hj
  split at hj
  ·rename_i e;cases hj;exact .inl ⟨e.symm,rfl⟩
  ·exact .inr (h1 j b hj)
 have hb0:base≠0:=by decide
 have hne:∀b blk,φ.dP id b->φ.dP base b->lookup s.hp base=some blk->False:=fun b blk e1 e2 e3=>hid (h.inj id base _ _ b hl e3 e1 e2)
 have himm:∀b,imm g φ s.hp w.heap.size b->imm g (aX φ 0 (φ id) (φ.sub id)) ((0,Block.arr d0 t (xs.take n))::hp) w.heap.size b:=by
  rintro b ⟨i1,i2,i3⟩
  refine⟨i1,i2,fun j blk hj ho=>?_⟩
  rw[bY] at ho
  rcases hlk j blk hj with⟨rfl,_⟩ | ⟨rfl,h4⟩
  ·rw[if_pos rfl] at ho;exact i3 id _ hl ho
  ·rw[if_neg hb0] at ho;exact i3 _ _ h4 ho
 refine⟨.own 0 none,_,aX φ 0 (φ id) (φ.sub id),hk,⟨rfl,rfl,h.os,h.tape,h.output,h.hsize,h.frame,?_,?_,?_,?_,fun _ _ e=>by simp[lookup] at e,?_⟩,?_⟩
 ·intro i j bi bj b hi hj ei ej
  rw[bY] at ei ej
  rcases hlk i bi hi with⟨rfl,_⟩ | ⟨rfl,h4⟩<;>rcases hlk j bj hj with⟨rfl,_⟩ | ⟨rfl,h5⟩
  ·rfl
  ·rw[if_pos rfl] at ei
   rw[if_neg hb0] at ej
   exact(hne b _ ei ej h5).elim
  ·rw[if_pos rfl] at ej
   rw[if_neg hb0] at ei
   exact(hne b _ ej ei h4).elim
  ·rfl
 ·intro j blk b hj hjb
  rcases hlk j blk hj with⟨rfl,rfl⟩ | ⟨rfl,h4⟩
  ·simp only[aX,if_true] at hjb ⊢
   exact h.apart id _ b hl hjb
  ·simp only[aX,if_neg hb0] at hjb ⊢
   exact h.apart base _ b h4 hjb
 ·intro j blk b hj hjb
  rw[bY] at hjb
  rcases hlk j blk hj with⟨rfl,rfl⟩ | ⟨rfl,h4⟩
  ·rw[if_pos rfl] at hjb
   obtain⟨p1,p2⟩:=h.place id _ b hl hjb
   exact⟨p1,.inl (p2.resolve_right (fun q=>hid q.2))⟩
  ·rw[if_neg hb0] at hjb
   exact h.place _ _ b h4 hjb
 ·intro j blk hj
  rcases hlk j blk hj with⟨rfl,rfl⟩ | ⟨rfl,h4⟩
  ·simp only[aX,if_true]
   obtain⟨v,e0,l0,s1,s2,s3⟩:=h.blocks _ _ hl
   exact yx ⟨v,e0,l0,s1,s2,s3.later himm (fun _ _ _=>rfl) (fun _ _=>rfl)⟩ hn
  ·simp only[aX,if_neg hb0]
   have hj':lookup hp base=some blk:=by
    rw[lookup_cons,if_neg (fun e=>hb0 e.symm)] at hj
    exact hj
   have hbk:=h.blocks _ _ h4
   cases blk with
   | arr d1 t1 x1=>
    obtain⟨v,e0,l0,s1,s2,s3⟩:=hbk
    exact⟨v,e0,l0,s1,s2,s3.later himm (fun _ _ _=>rfl) (fun _ _=>rfl)⟩
   | map k0 u0 x0=>
    exfalso
    unfold Bh at hio
    cases io with
    | false=>simp at hio;subst hio;simp[lookup] at hj'
    | true=>
     simp only[cond_true,h4] at hio
     cases hio
   | box cs=>
    have hpl:dA cs=true:=by
     unfold Bh at hio
     cases io with
     | false=>simp at hio;subst hio;simp[lookup] at hj'
     | true=>
      simp only[cond_true,h4] at hio
      exact(cL hio).1
    obtain⟨⟨b,vs',e',r1,r2,r3,r4⟩,r5⟩:=hbk
    exact⟨⟨b,vs',e',r1,r2,mg himm (fun _ _ _=>rfl) hpl r3,r4⟩,r5⟩
 ·intro blk hj
  rcases hlk base blk hj with⟨e,_⟩ | ⟨_,h4⟩
  ·exact absurd e hb0
  ·obtain⟨p1,p2⟩:=h.pinned _ h4
   exact⟨by simp only[aX,if_neg hb0];exact p1,p2⟩
 ·simp only[ah]
  intro blk hj
  rw[lookup_cons,if_pos rfl] at hj
  cases hj
  refine⟨d0,t,_,rfl,?_⟩
  rw[hlen]
  exact⟨e,l,hu,by simp[aX,hb]⟩
theorem sZ (hT:TabOk P C) {deep:Bool}:∀{l:List ResultVar} {s s':St} {vs:List AV},Sim g N s a w φ->qY C.tab deep l s=some (vs,s') →
  ∃us,Sim g N s' a w φ/\Moved g w φ s s'/\All2 (fun r u=>(mA a.tmps r).run P w=Result.ok u w) l us/\ax w (imm g φ s'.hp w.heap.size) (aM g) φ s'.hp vs us
 | [],s,s',vs,h,hr=>by
  simp only[qY,Option.some.injEq,Prod.mk.injEq] at hr
  obtain⟨rfl,rfl⟩:=hr
  exact⟨[],h,Moved.refl ..,.nil,by simp[ax]⟩
 | r::l,s,s',vs,h,hr=>by
  unfold qY at hr
  split at hr
  case h_2=>cases hr
  rename_i v0 s0 h0
  obtain⟨u,hrun,hs0,hm0,hv⟩:=tZ hT h h0
  split at hr
  case h_2=>cases hr
  rename_i ws s2 h2
  cases hr
  obtain⟨us,q1,q2,q3,q4⟩:=sZ hT hs0 h2
  refine⟨u::us,q1,hm0.trans q2,.cons hrun q3,?_⟩
  simp only[ax]
  exact⟨_,_,rfl,ah.later (q2.later (fun _ h=>h)) _ _ hv,q4⟩
theorem EM {l:List ResultVar} {us:List Value} {R:ResultVar->Value->Prop} (h3:All2 R l us) (hne:∀r,l=[r]->False):¬us.toArray.size=1:=by
 intro e
 have e:us.length=1:=e
 rw[<-h3.length_eq] at e
 match hq:l,e with
 | [r],_=>exact hne r rfl
theorem IS (hT:TabOk P C) {fn:Func} {io:Bool} {K:AV->Hp->Prop} (h:Sim g N s a w φ) (hr:Hw C.tab C.deep fn.results.toList io s K):∃v,(results fn a.tmps).run P w=.ok v w/\zU g K (.returned v) w:=by
 unfold Hw at hr
 cases hdp:(C.deep&&!io) with
 | true=>
  rw[hdp] at hr
  simp only[cond_true] at hr
  split at hr
  ·rename_i r ht
   obtain⟨p,hp,hr⟩:=aK hr
   obtain⟨u,hrun,h1,_,hv⟩:=tZ hT h (show rJ C.tab _ s r=some (p.1,p.2) from hp)
   refine⟨u,?_,AB h1 hv hr⟩
   rw[iZ (us:=[u]) (by rw[ht];exact .cons hrun .nil)]
   simp
  ·rename_i hne
   obtain⟨p,hp,hr⟩:=aK hr
   obtain⟨q,hq,hk⟩:=aK hr
   obtain⟨us,h1,_,h3,h5⟩:=sZ hT h (show qY C.tab _ fn.results.toList s=some (p.1,p.2) from hp)
   obtain⟨ψ,k1,k2⟩:=h1.out h5 (show dQ 0 p.1 p.2=some (q.1,q.2) from hq)
   refine⟨_,iZ h3,?_⟩
   rw[dif_neg (EM h3 (fun r e=>hne r e))]
   exact⟨_,_,ψ,hk,k1,by simp only[ah];exact⟨_,rfl,k2⟩⟩
 | false=>
 rw[hdp] at hr
 simp only[cond_false] at hr
 split at hr
 ·rename_i r ht
  obtain⟨p,hp,hr⟩:=aK hr
  obtain⟨u,hrun,h1,_,hv⟩:=tZ hT h (show rJ C.tab _ s r=some (p.1,p.2) from hp)
  refine⟨u,?_,?_⟩
  ·rw[iZ (us:=[u]) (by rw[ht];exact .cons hrun .nil)]
   simp
  ·split at hr
   ·rename_i id cut e1
    rw[e1] at hv
    rcases aZ id base with⟨_,hb⟩ | ⟨hid,hb⟩
    ·rw[hb] at hr;exact hr.elim
    rw[hb] at hr
    simp only[cond_false] at hr
    split at hr
    case h_2=>exact hr.elim
    rename_i d0 ty xs hl
    obtain⟨hp,hio,hk⟩:=aK hr
    simp only[ah] at hv
    obtain⟨d2,t2,x2,e2,hown⟩:=hv _ hl
    cases e2
    split at hk
    ·obtain⟨e,l,hu,hb⟩:=hown
     exact Cm h1 hio xs.length hid hl (Nat.le_refl _) hu hb (by rw[List.take_length];exact hk)
    ·rename_i lo hi
     obtain⟨rfl,hk⟩:=hk
     obtain⟨g1,g2,g3,A,c,_,_,g4,_⟩:=hown
     obtain⟨e,l,hu,hb⟩:=g4 rfl
     exact Cm h1 hio hi.toNat hid hl (by omega) hu hb hk
   ·rename_i id hi e1
    cases io with
    | true=>exact hr.elim
    | false=>
     rw[e1] at hv
     exact AB h1 hv hr
   ·cases hq:p.1.kept with
    | false=>rw[hq] at hr;exact hr.elim
    | true=>
     rw[hq] at hr
     obtain⟨hp,hio,hk⟩:=aK hr
     exact EZ h1 hio hk hq hv
 ·rename_i hne
  obtain⟨p,hp,hr⟩:=aK hr
  obtain⟨hpp,hio,hk⟩:=aK hr
  obtain⟨us,h1,_,h3,h4,h5⟩:=yW hT h (show pV C.tab fn.results.toList s=some (p.1,p.2) from hp)
  refine⟨_,iZ h3,?_⟩
  rw[dif_neg (EM h3 (fun r e=>hne r e))]
  obtain⟨_,k2,k3⟩:=h1.Hy hio
  refine⟨_,hpp,φ,hk,k2,?_⟩
  simp only[ah]
  exact⟨_,rfl,mg k3 (fun _ _ _=>rfl) h4 h5⟩
end
end Go.AE
