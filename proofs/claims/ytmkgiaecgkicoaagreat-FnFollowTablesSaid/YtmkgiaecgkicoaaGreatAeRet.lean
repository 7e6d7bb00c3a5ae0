/- What a function hands back, and contracts out of code. -/
import Derived.Test.YtmkgiaecgkicoaaGreatAeCode
import Derived.Laws.Sem
namespace Go.AE
open Go Go.RowKit
section
variable {P:Program} {C:Ctx} {g:Gl} {N:Nat} {s:St} {a:Act} {w:World} {φ:Names}
inductive All2 {α β:Type} (R:α->β->Prop):List α->List β->Prop
 | nil:All2 R [] []
 | cons {x y l k}:R x y->All2 R l k->All2 R (x::l) (y::k)
theorem All2.length_eq {α β:Type} {R:α->β->Prop} {l:List α} {k:List β} (h:All2 R l k):l.length=k.length:=by
 induction h with
 | nil=>rfl
 | cons _ _ ih=>simp[ih]
def nh (tmps:Array Value):ResultVar->Sem Value
 | .tmp t=>pure (tmps.getD t undef)
 | .cell a t=>do loadVar t (<-asAddr (tmps.getD a undef))
theorem tC (tmps:Array Value) (w:World) (P:Program):∀(l:List ResultVar) (us:List Value),All2 (fun r u=>(nh tmps r).run P w=Result.ok u w) l us →
  (l.mapM (nh tmps)).run P w=Result.ok us w
 | [],_,h=>by cases h;simp
 | r::l,_,h=>by
  cases h with
  | cons h1 h2=>
   have ih:=tC tmps w P l _ h2
   simp only[List.mapM_cons,Sem.run_bind,h1,ih,Result.andThen_ok,Sem.run_pure]
theorem hU {fn:Func} {tmps:Array Value} {w:World} {us:List Value} (h:All2 (fun r u=>(nh tmps r).run P w=Result.ok u w) fn.results.toList us) :
  (results fn tmps).run P w=Result.ok (if h:us.toArray.size=1 then us.toArray[0] else Value.tuple us.toArray) w:=by
 have e:results fn tmps=(do
   let vs <-fn.results.mapM (nh tmps)
   pure (if h:vs.size=1 then vs[0] else .tuple vs):Sem Value):=by
  unfold results
  congr 1
 rw[e,Array.mapM_eq_mapM_toList]
 simp only[map_eq_pure_bind,bind_assoc,pure_bind,Sem.run_bind,tC tmps w P _ _ h,Result.andThen_ok,Sem.run_pure]
theorem Sim.yq (l:List Nat):∀{s:St},Sim g N s a w φ->Moved g w φ s (AE.gE s l):=by
 induction l with
 | nil=>exact fun h=>Moved.refl ..
 | cons i l ih=>intro s h;exact(h.BV i).trans (ih (h.freeze i))
theorem uJ (hT:TabOk P C) (h:Sim g N s a w φ) {deep:Bool} {r:ResultVar} {v:AV} {s':St} (hr:rI C.tab deep s r=some (v,s')) :
  ∃u,(nh a.tmps r).run P w=.ok u w/\Sim g N s' a w φ/\Moved g w φ s s'/\aj w (imm g φ s'.hp w.heap.size) (aM g) φ s'.hp v u:=by
 cases r with
 | tmp t=>
  simp only[rI,Option.some.injEq,Prod.mk.injEq] at hr
  obtain⟨rfl,rfl⟩:=hr
  exact⟨_,by simp[nh],h,Moved.refl ..,h.slot t⟩
 | cell p ty=>
  simp only[rI] at hr
  have hx:=h.slot p
  split at hr
  case h_2=>cases hr
  rename_i id e1
  rw[e1] at hx
  split at hr
  case h_2=>cases hr
  rename_i u hu
  have hf:=hT.ty _ _ hu
  split at hr
  case h_2=>cases hr
  rename_i cs hl
  simp only[aj] at hx
  obtain⟨b,hφ,e⟩:=hx _ hl
  have hrun:∀{c:List Value},Cells w b 0 c->c.length=u.size->(nh a.tmps (.cell p ty)).run P w=.ok (mkv u c) w:=by
   intro c hc hlen
   have:=xK (P:=P) hf hc hlen
   simp only[nh,Sem.run_bind,e]
   simp[asAddr,this]
  cases ha:u.agg with
  | true=>
   rw[ha] at hr
   simp only[cond_true] at hr
   cases hdp:(deep&&(Nat.beq u.size cs.length&&!dK cs)) with
   | true=>
    rw[hdp] at hr
    simp only[cond_true,Option.some.injEq,Prod.mk.injEq] at hr
    obtain⟨rfl,rfl⟩:=hr
    obtain⟨_,hq⟩:=Bool.and_eq_true_iff.1 hdp
    have hsz:=Nat.eq_of_beq_eq_true (Bool.and_eq_true_iff.1 hq).1
    obtain⟨⟨b',vs,e0,hb',hg,hvs,h1c⟩,_⟩:=h.blocks id _ hl
    have hb':=hφ.symm.trans hb'
    cases hb'
    have hlen:vs.toList.length=u.size:=hvs.length.trans hsz.symm
    exact⟨_,hrun (cU hg) hlen,h,Moved.refl ..,by simp only[aj];exact⟨_,rfl,hlen,h1c,hvs⟩⟩
   | false=>
   rw[hdp] at hr
   simp only[cond_false] at hr
   split at hr
   case h_2=>cases hr
   rename_i cs1 hl1
   split at hr
   case h_2=>cases hr
   rename_i y hy
   simp only[Option.some.injEq,Prod.mk.injEq] at hr
   obtain⟨rfl,rfl⟩:=hr
   have h1:=h.gE (qj (cs.take u.size))
   obtain⟨⟨b',vs,e0,hb',hg,hvs,h1c⟩,_⟩:=h1.blocks id _ hl1
   have hb':=hφ.symm.trans hb'
   cases hb'
   obtain⟨c,vs',ev,hr,_⟩:=pV hvs hy
   have hc:Cells w b 0 c:=by
    have:=cU hg
    rw[ev] at this
    have:=this.take c.length
    rwa [List.take_left] at this
   exact⟨_,hrun hc hr.length,h1,h.yq _,by simp only[aj];exact⟨c,hr,rfl⟩⟩
  | false=>
   rw[ha] at hr
   simp only[cond_false] at hr
   split at hr
   case h_2=>cases hr
   rename_i v0 hv
   simp only[Option.some.injEq,Prod.mk.injEq] at hr
   obtain⟨rfl,rfl⟩:=hr
   obtain⟨⟨b',vs,e0,hb',hg,hvs,_⟩,_⟩:=h.blocks id _ hl
   have hb':=hφ.symm.trans hb'
   cases hb'
   obtain⟨uv,e2,hr⟩:=hvs.nth hv
   have hc:Cells w b 0 [uv]:=by
    have:=cU hg
    intro j v' hj
    cases j with
    | zero=>
     simp at hj
     subst hj
     exact this 0 uv e2
    | succ j=>simp at hj
   refine⟨_,hrun hc (by simp[dO u ha]),h,Moved.refl ..,?_⟩
   simpa [mkv,ha] using hr
theorem Sim.HG (h:Sim g N s a w φ) {io:Bool} {hp:Hp} (hio:zx io s=some hp) :
  (∀j b,lookup hp j=some b->j=base/\lookup s.hp base=some b)/\Sim g 0 ⟨[],hp⟩ idle w φ/\(∀b,imm g φ s.hp w.heap.size b->imm g φ hp w.heap.size b):=by
 have key:∀j b,lookup hp j=some b->j=base/\lookup s.hp base=some b:=by
  unfold zx at hio
  cases io with
  | false=>
   simp only[cond_false,Option.some.injEq] at hio
   subst hio
   intro j b hj
   simp[lookup] at hj
  | true=>
   simp only[cond_true] at hio
   have one:∀{blk:Block},lookup s.hp base=some blk->hp=[(base,blk)]->∀j b,lookup hp j=some b->j=base/\lookup s.hp base=some b:=by
    intro blk hl e j b hj
    subst e
    rw[lookup_cons] at hj
    split at hj
    ·rename_i e
     cases hj
     exact⟨e.symm,hl⟩
    ·simp[lookup] at hj
   split at hio
   ·rename_i cs hl
    have hio:=(cI hio).2
    cases hio
    exact one hl rfl
   ·rename_i hl
    cases hio
    exact one hl rfl
   ·cases hio
 refine⟨key,?_,?_⟩
 ·refine(h.bare.less (s':=⟨[],hp⟩) (fun _ _ h=>h) fun j b hj=>?_)
  obtain⟨rfl,h2⟩:=key j b hj
  exact h2
 ·rintro b ⟨h1,h2,h3⟩
  refine⟨h1,h2,fun j blk hj=>?_⟩
  obtain⟨rfl,h4⟩:=key j blk hj
  exact h3 _ _ h4
theorem GG (h:Sim g N s a w φ) {io:Bool} {hp:Hp} (hio:zx io s=some hp) {K:AV->Hp->Prop} {v:AV} {u:Value} (hk:K v hp) (hf:v.kept=true) (hv:aj w (imm g φ s.hp w.heap.size) (aM g) φ s.hp v u) :
  Bp g K (.returned u) w:=by
 obtain⟨_,h2,h3⟩:=h.HG hio
 exact⟨v,hp,φ,hk,h2,mN h3 (fun _ _ _=>rfl) _ _ hf hv⟩
theorem Ac (hT:TabOk P C):∀{l:List ResultVar} {s s':St} {vs:List AV},Sim g N s a w φ->qg C.tab l s=some (vs,s') →
  ∃us,Sim g N s' a w φ/\Moved g w φ s s'/\All2 (fun r u=>(nh a.tmps r).run P w=Result.ok u w) l us/\dK vs=true/\aq w (imm g φ s'.hp w.heap.size) (aM g) φ s'.hp vs us
 | [],s,s',vs,h,hr=>by
  simp only[qg,Option.some.injEq,Prod.mk.injEq] at hr
  obtain⟨rfl,rfl⟩:=hr
  exact⟨[],h,Moved.refl ..,.nil,rfl,by simp[aq]⟩
 | r::l,s,s',vs,h,hr=>by
  unfold qg at hr
  split at hr
  case h_2=>cases hr
  rename_i v0 s0 h0
  obtain⟨u,hrun,hs0,hm0,hv⟩:=uJ hT h h0
  have fin:∀{s1:St} {v:AV} {ws:List AV},Sim g N s1 a w φ->Moved g w φ s s1->plainCell v=true->aj w (imm g φ s1.hp w.heap.size) (aM g) φ s1.hp v u->qg C.tab l s1=some (ws,s') →
    ∃us,Sim g N s' a w φ/\Moved g w φ s s'/\All2 (fun r u=>(nh a.tmps r).run P w=Result.ok u w) (r::l) us/\dK (v::ws)=true/\aq w (imm g φ s'.hp w.heap.size) (aM g) φ s'.hp (v::ws) us:=by
   intro s1 v ws h1 hm hp hv1 hr1
   obtain⟨us,q1,q2,q3,q4,q5⟩:=Ac hT h1 hr1
   refine⟨u::us,q1,hm.trans q2,.cons hrun q3,by simp[dK,hp,q4],?_⟩
   simp only[aq]
   exact⟨_,_,rfl,aj.later (q2.later (fun _ h=>h)) _ _ hv1,q5⟩
  split at hr
  ·rename_i id cut
   split at hr
   case h_2=>cases hr
   rename_i ty xs hl
   split at hr
   case h_2=>cases hr
   rename_i x s1 hg
   split at hr
   case h_2=>cases hr
   rename_i ws s2 h2
   cases hr
   obtain⟨h1,cs,hrep,e⟩:=hs0.iE hv hg
   exact fin h1 (hm0.trans (hs0.tG hg)) rfl (by simp only[aj];exact⟨cs,hrep,e⟩) h2
  ·rename_i ty x
   split at hr
   case h_2=>cases hr
   rename_i ws s2 h2
   cases hr
   exact fin hs0 hm0 rfl hv h2
  ·rename_i c
   split at hr
   case h_2=>cases hr
   rename_i ws s2 h2
   cases hr
   exact fin hs0 hm0 rfl hv h2
  ·cases hr
theorem BA (h:Sim g N s a w φ) {K:AV->Hp->Prop} {v:AV} {u:Value} (hv:aj w (imm g φ s.hp w.heap.size) (aM g) φ s.hp v u) (hk:yS s v K):Bp g K (.returned u) w:=by
 unfold yS at hk
 split at hk
 ·rename_i t vs
  obtain⟨q,hq,hk⟩:=aK hk
  simp only[aj] at hv
  obtain⟨us,e1,e2,e3,e4⟩:=hv
  obtain⟨ψ,h1,h2⟩:=h.out e4 (show ew 0 vs s=some (q.1,q.2) from hq)
  exact⟨_,_,ψ,hk,h1,by simp only[aj];exact⟨us,e1,e2,e3,h2⟩⟩
 ·split at hk
  ·rename_i v' hp ho
   obtain⟨ψ,h1,h2⟩:=h.out (us:=[u]) (by simp only[aq];exact⟨u,[],rfl,hv,rfl⟩) ho
   simp only[aq] at h2
   obtain⟨u',us',e1,h3,e2⟩:=h2
   cases e1
   exact⟨_,_,ψ,hk,h1,h3⟩
  ·exact hk.elim
theorem Fe (h:Sim g N s a w φ) {io:Bool} {hp:Hp} (hio:zx io s=some hp) {id:Nat} {d0:Dp} {t:Ty} {xs:List t.D} (n:Nat) {u:Value} {e:TypeId} {l:List Value}
  (hid:id≠base) (hl:lookup s.hp id=some (.arr d0 t xs)) (hn:n<=xs.length) (hu:w.rowOf 0 e t.size u n l) (hb:u.ownBlock=φ id) :
  ∃ φ',Sim g 0 ⟨[],(0,.arr d0 t (xs.take n))::hp⟩ idle w φ'/\aj w (imm g φ' ((0,.arr d0 t (xs.take n))::hp) w.heap.size) (aM g) φ' ((0,.arr d0 t (xs.take n))::hp) (.own 0 none) u/\(∀b,imm g φ s.hp w.heap.size b->imm g φ' ((0,.arr d0 t (xs.take n))::hp) w.heap.size b):=by
 obtain⟨h1,h2,h3⟩:=h.HG hio
 have hlen:(xs.take n).length=n:=by rw[List.length_take];omega
 have hlk:∀j b,lookup ((0,Block.arr d0 t (xs.take n))::hp) j=some b->(j=0/\b=.arr d0 t (xs.take n))\/(j=base/\lookup s.hp base=some b):=by
  intro j b hj
  rw[lookup_cons] at hj
  split at hj
  ·rename_i e;cases hj;exact .inl ⟨e.symm,rfl⟩
  ·exact .inr (h1 j b hj)
 have hb0:base≠0:=by decide
 have hne:∀b blk,φ.dS id b->φ.dS base b->lookup s.hp base=some blk->False:=fun b blk e1 e2 e3=>hid (h.inj id base _ _ b hl e3 e1 e2)
 have himm:∀b,imm g φ s.hp w.heap.size b->imm g (bf φ 0 (φ id) (φ.sub id)) ((0,Block.arr d0 t (xs.take n))::hp) w.heap.size b:=by
  rintro b ⟨i1,i2,i3⟩
  refine⟨i1,i2,fun j blk hj ho=>?_⟩
  rw[ct] at ho
  rcases hlk j blk hj with⟨rfl,_⟩ | ⟨rfl,h4⟩
  ·rw[if_pos rfl] at ho;exact i3 id _ hl ho
  ·rw[if_neg hb0] at ho;exact i3 _ _ h4 ho
 refine⟨bf φ 0 (φ id) (φ.sub id),⟨rfl,rfl,h.os,h.tape,h.output,h.hsize,h.frame,?_,?_,?_,?_,fun _ _ e=>by simp[lookup] at e,?_⟩,?_,himm⟩
 ·intro i j bi bj b hi hj ei ej
  rw[ct] at ei ej
  rcases hlk i bi hi with⟨rfl,_⟩ | ⟨rfl,h4⟩<;>rcases hlk j bj hj with⟨rfl,_⟩ | ⟨rfl,h5⟩
  ·rfl
  ·rw[if_pos rfl] at ei
   rw[if_neg hb0] at ej
   exact(hne b _ ei ej h5).elim
  ·rw[if_pos rfl] at ej
   rw[if_neg hb0] at ei
   exact(hne b _ ej ei h4).elim
  ·rfl
 ·intro j blk b hj hjb
  rcases hlk j blk hj with⟨rfl,rfl⟩ | ⟨rfl,h4⟩
  ·simp only[bf,if_true] at hjb ⊢
   exact h.apart id _ b hl hjb
  ·simp only[bf,if_neg hb0] at hjb ⊢
   exact h.apart base _ b h4 hjb
 ·intro j blk b hj hjb
  rw[ct] at hjb
  rcases hlk j blk hj with⟨rfl,rfl⟩ | ⟨rfl,h4⟩
  ·rw[if_pos rfl] at hjb
   obtain⟨p1,p2⟩:=h.place id _ b hl hjb
   exact⟨p1,.inl (p2.resolve_right (fun q=>hid q.2))⟩
  ·rw[if_neg hb0] at hjb
   exact h.place _ _ b h4 hjb
 ·intro j blk hj
  rcases hlk j blk hj with⟨rfl,rfl⟩ | ⟨rfl,h4⟩
  ·simp only[bf,if_true]
   obtain⟨v,e0,l0,s1,s2,s3⟩:=h.blocks _ _ hl
   exact yT ⟨v,e0,l0,s1,s2,s3.later himm (fun _ _ _=>rfl) (fun _ _=>rfl)⟩ hn
  ·simp only[bf,if_neg hb0]
   have hj':lookup hp base=some blk:=by
    rw[lookup_cons,if_neg (fun e=>hb0 e.symm)] at hj
    exact hj
   have hbk:=h.blocks _ _ h4
   cases blk with
   | arr d1 t1 x1=>
    obtain⟨v,e0,l0,s1,s2,s3⟩:=hbk
    exact⟨v,e0,l0,s1,s2,s3.later himm (fun _ _ _=>rfl) (fun _ _=>rfl)⟩
   | map k0 u0 x0=>
    exfalso
    unfold zx at hio
    cases io with
    | false=>simp at hio;subst hio;simp[lookup] at hj'
    | true=>
     simp only[cond_true,h4] at hio
     cases hio
   | box cs=>
    have hpl:dK cs=true:=by
     unfold zx at hio
     cases io with
     | false=>simp at hio;subst hio;simp[lookup] at hj'
     | true=>
      simp only[cond_true,h4] at hio
      exact(cI hio).1
    obtain⟨⟨b,vs',e',r1,r2,r3,r4⟩,r5⟩:=hbk
    exact⟨⟨b,vs',e',r1,r2,mK himm (fun _ _ _=>rfl) hpl r3,r4⟩,r5⟩
 ·intro blk hj
  rcases hlk base blk hj with⟨e,_⟩ | ⟨_,h4⟩
  ·exact absurd e hb0
  ·obtain⟨p1,p2⟩:=h.pinned _ h4
   exact⟨by simp only[bf,if_neg hb0];exact p1,p2⟩
 ·simp only[aj]
  intro blk hj
  rw[lookup_cons,if_pos rfl] at hj
  cases hj
  refine⟨d0,t,_,rfl,?_⟩
  rw[hlen]
  exact⟨e,l,hu,by simp[bf,hb]⟩
theorem CM (h:Sim g N s a w φ) {io:Bool} {hp:Hp} (hio:zx io s=some hp) {K:AV->Hp->Prop} {id:Nat} {d0:Dp} {t:Ty} {xs:List t.D} (n:Nat) {u:Value} {e:TypeId} {l:List Value}
  (hid:id≠base) (hl:lookup s.hp id=some (.arr d0 t xs)) (hn:n<=xs.length) (hu:w.rowOf 0 e t.size u n l) (hb:u.ownBlock=φ id) (hk:K (.own 0 none) ((0,.arr d0 t (xs.take n))::hp)) :
  Bp g K (.returned u) w:=by
 obtain⟨φ',h1,h2,_⟩:=Fe h hio n hid hl hn hu hb
 exact⟨.own 0 none,_,φ',hk,h1,h2⟩
theorem qL (hT:TabOk P C) {deep:Bool}:∀{l:List ResultVar} {s s':St} {vs:List AV},Sim g N s a w φ->qD C.tab deep l s=some (vs,s') →
  ∃us,Sim g N s' a w φ/\Moved g w φ s s'/\All2 (fun r u=>(nh a.tmps r).run P w=Result.ok u w) l us/\aq w (imm g φ s'.hp w.heap.size) (aM g) φ s'.hp vs us
 | [],s,s',vs,h,hr=>by
  simp only[qD,Option.some.injEq,Prod.mk.injEq] at hr
  obtain⟨rfl,rfl⟩:=hr
  exact⟨[],h,Moved.refl ..,.nil,by simp[aq]⟩
 | r::l,s,s',vs,h,hr=>by
  unfold qD at hr
  split at hr
  case h_2=>cases hr
  rename_i v0 s0 h0
  obtain⟨u,hrun,hs0,hm0,hv⟩:=uJ hT h h0
  split at hr
  case h_2=>cases hr
  rename_i ws s2 h2
  cases hr
  obtain⟨us,q1,q2,q3,q4⟩:=qL hT hs0 h2
  refine⟨u::us,q1,hm0.trans q2,.cons hrun q3,?_⟩
  simp only[aq]
  exact⟨_,_,rfl,aj.later (q2.later (fun _ h=>h)) _ _ hv,q4⟩
theorem Cy {l:List ResultVar} {us:List Value} {R:ResultVar->Value->Prop} (h3:All2 R l us) (hne:∀r,l=[r]->False):¬us.toArray.size=1:=by
 intro e
 have e:us.length=1:=e
 rw[<-h3.length_eq] at e
 match hq:l,e with
 | [r],_=>exact hne r rfl
theorem JU (hT:TabOk P C) {fn:Func} {io:Bool} {K:AV->Hp->Prop} (h:Sim g N s a w φ) (hr:GX C.tab C.deep C.two fn.results.toList io s K):∃v,(results fn a.tmps).run P w=.ok v w/\Bp g K (.returned v) w:=by
 unfold GX at hr
 cases hdp:(C.deep&&!io) with
 | true=>
  rw[hdp] at hr
  simp only[cond_true] at hr
  split at hr
  ·rename_i r ht
   obtain⟨p,hp,hr⟩:=aK hr
   obtain⟨u,hrun,h1,_,hv⟩:=uJ hT h (show rI C.tab _ s r=some (p.1,p.2) from hp)
   refine⟨u,?_,BA h1 hv hr⟩
   rw[hU (us:=[u]) (by rw[ht];exact .cons hrun .nil)]
   simp
  ·rename_i hne
   obtain⟨p,hp,hr⟩:=aK hr
   obtain⟨q,hq,hk⟩:=aK hr
   obtain⟨us,h1,_,h3,h5⟩:=qL hT h (show qD C.tab _ fn.results.toList s=some (p.1,p.2) from hp)
   obtain⟨ψ,k1,k2⟩:=h1.out h5 (show ew 0 p.1 p.2=some (q.1,q.2) from hq)
   refine⟨_,hU h3,?_⟩
   rw[dif_neg (Cy h3 (fun r e=>hne r e))]
   exact⟨_,_,ψ,hk,k1,by simp only[aj];exact⟨_,rfl,k2⟩⟩
 | false=>
 rw[hdp] at hr
 simp only[cond_false] at hr
 split at hr
 ·rename_i r ht
  obtain⟨p,hp,hr⟩:=aK hr
  obtain⟨u,hrun,h1,_,hv⟩:=uJ hT h (show rI C.tab _ s r=some (p.1,p.2) from hp)
  refine⟨u,?_,?_⟩
  ·rw[hU (us:=[u]) (by rw[ht];exact .cons hrun .nil)]
   simp
  ·split at hr
   ·rename_i id cut e1
    rw[e1] at hv
    rcases bg id base with⟨_,hb⟩ | ⟨hid,hb⟩
    ·rw[hb] at hr;exact hr.elim
    rw[hb] at hr
    simp only[cond_false] at hr
    split at hr
    case h_2=>exact hr.elim
    rename_i d0 ty xs hl
    obtain⟨hp,hio,hk⟩:=aK hr
    simp only[aj] at hv
    obtain⟨d2,t2,x2,e2,hown⟩:=hv _ hl
    cases e2
    split at hk
    ·obtain⟨e,l,hu,hb⟩:=hown
     exact CM h1 hio xs.length hid hl (Nat.le_refl _) hu hb (by rw[List.take_length];exact hk)
    ·rename_i lo hi
     obtain⟨rfl,hk⟩:=hk
     obtain⟨g1,g2,g3,A,c,_,_,g4,_⟩:=hown
     obtain⟨e,l,hu,hb⟩:=g4 rfl
     exact CM h1 hio hi.toNat hid hl (by omega) hu hb hk
   ·rename_i id hi e1
    cases io with
    | true=>exact hr.elim
    | false=>
     rw[e1] at hv
     exact BA h1 hv hr
   ·cases hq:p.1.kept with
    | false=>rw[hq] at hr;exact hr.elim
    | true=>
     rw[hq] at hr
     obtain⟨hp,hio,hk⟩:=aK hr
     exact GG h1 hio hk hq hv
 ·rename_i hne
  split at hr
  ·rename_i v id s1 hraw
   cases hd2:C.two with
   | false=>rw[hd2] at hraw;cases hraw
   | true=>
   rw[hd2] at hraw
   simp only[cond_true] at hraw
   obtain⟨us,h1,_,h3,h5⟩:=qL hT h hraw
   simp only[aq] at h5
   obtain⟨u1,us1,rfl,hv1,u2,us2,e2,hv2,e3⟩:=h5
   subst e3
   subst e2
   refine⟨_,hU h3,?_⟩
   rw[dif_neg (Cy h3 (fun r e=>hne r e))]
   cases hq:(v.kept&&!Nat.beq id base) with
   | false=>rw[hq] at hr;exact hr.elim
   | true=>
    rw[hq] at hr
    simp only[cond_true] at hr
    obtain⟨q1,q2⟩:=Bool.and_eq_true_iff.1 hq
    have hid:id≠base:=fun e=>by rw[e] at q2;simp at q2
    split at hr
    case h_2=>exact hr.elim
    rename_i d0 ty xs hl
    obtain⟨hpp,hio,hk⟩:=aK hr
    simp only[aj] at hv2
    obtain⟨d2,t2,x2,e2,hown⟩:=hv2 _ hl
    cases e2
    obtain⟨e,l,hu,hb⟩:=hown
    obtain⟨φ',k1,k2,k3⟩:=Fe h1 hio xs.length hid hl (Nat.le_refl _) hu hb
    rw[List.take_length] at k1 k2 k3
    refine⟨_,_,φ',hk,k1,?_⟩
    simp only[aj]
    exact⟨[u1,u2],rfl,by simp only[aq];exact⟨u1,[u2],rfl,mN k3 (fun _ _ _=>rfl) _ _ q1 hv1,u2,[],rfl,k2,rfl⟩⟩
  obtain⟨p,hp,hr⟩:=aK hr
  obtain⟨hpp,hio,hk⟩:=aK hr
  obtain⟨us,h1,_,h3,h4,h5⟩:=Ac hT h (show qg C.tab fn.results.toList s=some (p.1,p.2) from hp)
  refine⟨_,hU h3,?_⟩
  rw[dif_neg (Cy h3 (fun r e=>hne r e))]
  obtain⟨_,k2,k3⟩:=h1.HG hio
  refine⟨_,hpp,φ,hk,k2,?_⟩
  simp only[aj]
  exact⟨_,rfl,mK k3 (fun _ _ _=>rfl) h4 h5⟩
end
end Go.AE
