/- Calls: what comes back. -/
import Derived.Test.YtmkgiaecgkicoaaGreatAeOut
namespace Go.AE
open Go Go.RowKit
section
variable {P:Program} {C:Ctx} {g:Gl} {N:Nat} {o:Oper} {s:St} {a:Act} {w:World} {φ:Names} {K:AV->St->Prop}
theorem mJ {w w':World} {I I' S S':Nat->Prop} {φ φ':Names} {hp hp':Hp} (hI:∀b,I b->I' b) (hIs:ki I w w'):∀{l:List AV} {vs:List Value},ee l=true →
  ax w I S φ hp l vs->ax w' I' S' φ' hp' l vs
 | [],vs,_,h=>by simpa only[ax] using h
 | v::l,vs,hp,h=>by
  simp only[ax] at h ⊢
  obtain⟨u,us,rfl,h1,h2⟩:=h
  simp only[ee,Bool.and_eq_true] at hp
  refine⟨u,us,rfl,?_,mJ hI hIs hp.2 h2⟩
  have hp1:=hp.1
  cases v<;>simp only[plainCell] at hp1<;>simp only[ak] at h1 ⊢
  ·exact h1
  ·obtain⟨cs,h3,h4⟩:=h1;exact⟨cs,h3.mono hI hIs,h4⟩
  all_goals cases hp1
theorem Ek (h:Sim g N s a w φ) {c:Option Nat} {hp':Hp} {φ':Names} {w' w1:World} {r v:AV} {u:Value} {d:Nat} {s2:St} (hd:d≠base)
  (hS:Sim (cE g φ s w c) 0 ⟨[],hp'⟩ idle w' φ') (hr:ak w' (imm (cE g φ s w c) φ' hp' w'.heap.size) (aM (cE g φ s w c)) φ' hp' r u)
  (ht:Turn w w1 none) (hsz:w1.heap.size=w'.heap.size) (hb:∀b,c≠some b->w1.heap[b]? = w'.heap[b]?)
  (hcl:∀b,c=some b->b<w.heap.size/\∃id blk,lookup hp' id=some blk/\φ' id=some b) (hv:BR hp' d r s=some (v,s2)) :
  ∃ φ2,Sim g N s2 a w1 φ2/\(∀b,imm (cE g φ s w c) φ' hp' w'.heap.size b->imm g φ2 s2.hp w'.heap.size b) ∧
   (∀hpF:Hp,(∀id blk,lookup hpF id=some blk->∃blk0,lookup s2.hp id=some blk0/\∀d t xs,blk0=.arr d t xs->blk=.arr d t xs)->ak w' (imm g φ2 hpF w'.heap.size) (aM g) φ2 hpF v u) ∧
   (∀i cs,i≠d->lookup s.hp i=some (.box cs)->φ2 i=φ i/\∃cs',lookup s2.hp i=some (.box cs')):=by
 have himm0:∀b,imm (cE g φ s w c) φ' hp' w'.heap.size b->imm g φ s.hp w'.heap.size b:=by
  rintro b ⟨h1,h2,h3⟩
  refine⟨?_,h2,fun id blk hl e=>?_⟩
  ·rcases h1 with h1 | h1
   ·exact h1.1
   ·exact .inr (Nat.le_trans h.hsize h1)
  ·have hlt:=(h.place id blk b hl e).1
   rcases h1 with h1 | h1
   ·exact h1.2.2 id blk hl e
   ·have h1:w.heap.size<=b:=h1
    omega
 have simple:∀(_:s2=s) (_:∀hpF:Hp,(∀b,imm (cE g φ s w c) φ' hp' w'.heap.size b->imm g φ hpF w'.heap.size b)->ak w' (imm g φ hpF w'.heap.size) (aM g) φ hpF v u),
   ∃ φ2,Sim g N s2 a w1 φ2/\(∀b,imm (cE g φ s w c) φ' hp' w'.heap.size b->imm g φ2 s2.hp w'.heap.size b) ∧
   (∀hpF:Hp,(∀id blk,lookup hpF id=some blk->∃blk0,lookup s2.hp id=some blk0/\∀d t xs,blk0=.arr d t xs->blk=.arr d t xs)->ak w' (imm g φ2 hpF w'.heap.size) (aM g) φ2 hpF v u) ∧
   (∀i cs,i≠d->lookup s.hp i=some (.box cs)->φ2 i=φ i/\∃cs',lookup s2.hp i=some (.box cs')):=by
  rintro rfl hv
  refine⟨φ,h.grow ht,himm0,fun hpF hF=>hv hpF fun b hb=>?_,fun i cs _ hi=>⟨rfl,cs,hi⟩⟩
  obtain⟨h1,h2,h3⟩:=himm0 b hb
  refine⟨h1,h2,fun id blk hl=>?_⟩
  obtain⟨blk0,hq,_⟩:=hF id blk hl
  exact h3 id blk0 hq
 have ownC:∀{e:Dp} {t:Ty} {xs:List t.D} {u:Value},lookup hp' 0=some (.arr e t xs)->ak w' (imm (cE g φ s w c) φ' hp' w'.heap.size) (aM (cE g φ s w c)) φ' hp' (.own 0 none) u->s2=s.create d (.arr e t xs) →
   ∃ φ2,Sim g N s2 a w1 φ2/\(∀b,imm (cE g φ s w c) φ' hp' w'.heap.size b->imm g φ2 s2.hp w'.heap.size b) ∧
   (∀hpF:Hp,(∀id blk,lookup hpF id=some blk->∃blk0,lookup s2.hp id=some blk0/\∀d t xs,blk0=.arr d t xs->blk=.arr d t xs)->ak w' (imm g φ2 hpF w'.heap.size) (aM g) φ2 hpF (.own d none) u) ∧
   (∀i cs,i≠d->lookup s.hp i=some (.box cs)->φ2 i=φ i/\∃cs',lookup s2.hp i=some (.box cs')):=by
  intro e t xs u hl hr es
  subst es
  simp only[ak] at hr
  obtain⟨d2,t2,x2,e2,hown⟩:=hr _ hl
  cases e2
  obtain⟨v0,e0,l0,q1,q2,q3⟩:=hS.blocks 0 _ hl
  have hb0:(0:Nat)≠base:=by decide
  have hpl:∀b,φ'.eI 0 b->b<w'.heap.size/\w.heap.size<=b:=by
   intro b hb
   obtain⟨p1,p2⟩:=hS.place 0 _ b hl hb
   exact⟨p1,(p2.resolve_right (fun q=>hb0 q.2)).resolve_right (fun q=>q)⟩
  have hnc:∀b,φ'.eI 0 b->c≠some b:=by
   intro b hb e
   have h1:=(hpl b hb).2
   have h2:=(hcl b e).1
   omega
  have hlk:∀j,lookup (s.create d (.arr e t xs)).hp j=if j=d then some (.arr e t xs) else (lookup s.hp j).map (mapBlock (AV.fO d)):=by
   intro j
   simp only[St.create,lookup_cons,cW,bf]
   by_cases hj:j=d
   ·simp[hj]
   ·have:¬d=j:=fun e=>hj e.symm
    simp[hj,this]
  have himm:∀b,imm (cE g φ s w c) φ' hp' w'.heap.size b->imm g (bp φ d (φ' 0) (φ'.sub 0)) (s.create d (.arr e t xs)).hp w'.heap.size b:=by
   intro b hb
   obtain⟨h1,h2,h3⟩:=himm0 b hb
   refine⟨h1,h2,fun id blk hli e=>?_⟩
   rw[hlk] at hli
   rw[cD] at e
   by_cases hid:id=d
   ·rw[if_pos hid] at e
    exact hb.2.2 0 _ hl e
   ·rw[if_neg hid] at hli
    rw[if_neg hid] at e
    cases hq:lookup s.hp id with
    | none=>simp[hq] at hli
    | some blk0=>exact h3 id blk0 hq e
  have hsame:ki (imm (cE g φ s w c) φ' hp' w'.heap.size) w' w1:=by
   intro b hbi o
   refine cN (hb b fun e=>?_) o
   obtain⟨_,id,blk,hli,hp⟩:=hcl b e
   exact hbi.2.2 id blk hli (.inl hp)
  refine⟨bp φ d (φ' 0) (φ'.sub 0),h.nZ (fu.refl s) hd ht.p (fun b hb=>by cases hb) (fun b hb=>?_) (fun b hb=>hS.apart 0 _ b hl hb)
   (fun _=>⟨v0,e0,l0,Ar q1 q2 (fun b hb'=>hb b (hnc b (.inl hb'))),q2,q3.later (fun b hb=>by rw[hsz];exact himm b hb) hsame (fun b hb'=>hb b (hnc b (.inr hb')))⟩),himm,?_,?_⟩
  ·obtain⟨h1,h2⟩:=hpl b hb
   exact⟨by rw[hsz];exact h1,.inl (Nat.le_trans h.hsize h2),.inl h2⟩
  ·intro hpF hF
   simp only[ak]
   intro blk hlb
   obtain⟨blk0,hq,hq2⟩:=hF d blk hlb
   rw[hlk,if_pos rfl] at hq
   cases hq
   refine⟨e,t,xs,hq2 e t xs rfl,?_⟩
   simpa [bp] using hown
  ·intro i cs hi hli
   refine⟨by simp[bp,hi],?_⟩
   rw[hlk,if_neg hi,hli]
   exact⟨_,rfl⟩
 unfold BR at hv
 split at hv
 ·split at hv
  case h_2=>cases hv
  rename_i e t xs hl
  cases hv
  exact ownC hl hr rfl
 ·rename_i v0
  obtain⟨hq,hv⟩:=cT hv
  split at hv
  case h_2=>cases hv
  rename_i e t xs hl
  cases hv
  simp only[ak] at hr
  obtain⟨us,e1,hr⟩:=hr
  simp only[ax] at hr
  obtain⟨u0,us',rfl,hr0,u1,us'',rfl,hr1,rfl⟩:=hr
  obtain⟨φ2,k1,k2,k3,k4⟩:=ownC hl (by simp only[ak];exact hr1) rfl
  refine⟨φ2,k1,k2,fun hpF hF=>?_,k4⟩
  have hi:∀b,imm (cE g φ s w c) φ' hp' w'.heap.size b->imm g φ2 hpF w'.heap.size b:=fun b hb=>by
   obtain⟨h1,h2,h3⟩:=k2 b hb
   refine⟨h1,h2,fun id blk hl=>?_⟩
   obtain⟨blk0,hq,_⟩:=hF id blk hl
   exact h3 id blk0 hq
  have k5:=k3 hpF hF
  simp only[ak] at k5 ⊢
  refine⟨[u0,u1],e1,?_⟩
  simp only[ax,ak]
  exact⟨u0,[u1],rfl,nt hi (fun _ _ _=>rfl) _ _ hq hr0,u1,[],rfl,k5,rfl⟩
 ·rename_i vs _
  cases hq:ee vs with
  | false=>simp[hq] at hv
  | true=>
   simp only[hq,cond_true,Option.some.injEq,Prod.mk.injEq] at hv
   obtain⟨rfl,rfl⟩:=hv
   refine simple rfl fun hpF hF=>?_
   simp only[ak] at hr ⊢
   obtain⟨us,h1,h2⟩:=hr
   exact⟨us,h1,mJ hF (fun _ _ _=>rfl) hq h2⟩
 ·cases hq:r.kept with
  | false=>rw[hq] at hv;cases hv
  | true=>
   rw[hq] at hv
   cases hv
   refine simple rfl fun hpF hF=>?_
   exact nt hF (fun _ _ _=>rfl) _ _ hq hr
theorem uP {x:Nat}:∀{l acc:List Nat},(x∈acc\/x∈l)->x∈uniq acc l
 | [],acc,h=>by simpa [uniq] using h
 | i::l,acc,h=>by
  unfold uniq
  cases hm:jJ i acc with
  | true=>
   refine uP ?_
   rcases h with h | h
   ·exact .inl h
   ·rcases List.mem_cons.1 h with rfl | h
    ·left
     clear h
     induction acc with
     | nil=>simp[jJ] at hm
     | cons j acc ih=>
      unfold jJ at hm
      rcases aZ x j with⟨e,hb⟩ | ⟨_,hb⟩
      ·simp[e]
      ·rw[hb] at hm
       exact List.mem_cons_of_mem _ (ih hm)
    ·exact .inr h
  | false=>
   refine uP ?_
   rcases h with h | h
   ·exact .inl (by simp[h])
   ·rcases List.mem_cons.1 h with rfl | h
    ·exact .inl (by simp)
    ·exact .inr h
theorem ua {i o:Nat}:∀{l:List AV},AV.ptr i o∈l->i∈sB l
 | v::l,h=>by
  rcases List.mem_cons.1 h with rfl | h
  ·simp[sB]
  ·have:=ua h
   unfold sB
   split<;>simp_all
theorem DL (w':World) (b:Nat) (x:Obj) (j:Nat):(w'.heap.setIfInBounds b x)[j]? = if b=j/\j<w'.heap.size then some x else w'.heap[j]?:=by
 rw[Array.getElem?_setIfInBounds]
 by_cases hb:b=j
 ·subst hb
  by_cases hl:b<w'.heap.size
  ·simp[hl]
  ·simp[hl]
 ·simp[hb]
def sJ:Names:=⟨fun _=>none,fun _=>[]⟩
theorem Jd:Sim (cE g φ s w none) 0 ⟨[],[]⟩ idle w sJ:=
 ⟨rfl,rfl,rfl,rfl,rfl,Nat.le_refl _,fun _ _ _=>rfl,fun _ _ _ _ _ h=>by simp[lookup] at h,fun _ _ _ h=>by simp[lookup] at h,fun _ _ _ h=>by simp[lookup] at h,fun _ _ h=>by simp[lookup] at h,fun _ _ h=>by simp[lookup] at h,fun _ h=>by simp[lookup] at h⟩
theorem Sim.zx (h:Sim g N s a w φ) {s':St} (k:gM s s') {id:Nat} {blk:Block} (hne:id≠base) (hl:lookup s.hp id=some blk) (hn:lookup s'.hp id=none):∀b,φ.eI id b->imm g φ s'.hp w.heap.size b:=by
 intro b hb
 obtain⟨z1,z2⟩:=h.place id _ b hl hb
 refine⟨Gl.lH (z2.resolve_right (fun q=>hne q.2)),z1,fun j blk' hj hjb=>?_⟩
 obtain⟨b0,h0,_⟩:=k j blk' hj
 have:=h.inj j id _ _ b h0 hl hjb hb
 subst this
 rw[hn] at hj
 cases hj
theorem zp (h:Sim g N s a w φ) {s':St} (k:gM s s') {v:AV} (hr:∀id∈v.refs,id≠base/\lookup s'.hp id=none) {u:Value} (hv:ak w (imm g φ s.hp w.heap.size) (aM g) φ s.hp v u) {t:Ty} {x:t.D} (hx:v.CU s.hp t=some x) :
  ∃cs,Rep w (imm g φ s'.hp w.heap.size) t x cs/\u=mkv t cs:=by
 unfold AV.CU at hx
 split at hx
 ·cases hx
 rename_i hnb
 unfold AV.as at hx
 split at hx
 ·exact absurd rfl (hnb _ _)
 ·split at hx
  ·rename_i hh _
   cases hh
   cases hx
   simp only[ak] at hv
   obtain⟨cs,q1,q2⟩:=hv
   exact⟨cs,q1.mono k.imm (fun _ _ _=>rfl),q2⟩
  ·cases hx
 ·simp only[ak] at hv
  obtain⟨cs,q1,q2⟩:=iA w (imm g φ s'.hp w.heap.size) hx
  exact⟨cs,q1,hv.trans q2⟩
 ·rename_i id cut
  obtain⟨hne,hn⟩:=hr id (by simp[AV.refs])
  split at hx
  ·rename_i d' t' ys hl
   split at hx
   ·rename_i hh _
    cases hh
    obtain⟨hwh,hx⟩:=mM hx
    cases hx
    simp only[ak] at hv
    obtain⟨d2,t2,xs2,e,ho⟩:=hv _ hl
    cases e
    have hown:=h.zx k hne hl hn
    obtain⟨v0,e0,l0,q1,q2,q3⟩:=h.blocks id _ hl
    have q3:=q3.rep hwh k.imm (fun b hb=>hown b (.inr hb))
    obtain⟨A,c,p1,p2,p3⟩:=uz q1 q2 q3 ho
    refine⟨[.slice A _ c],⟨A,c,rfl,p2,?_⟩,p1⟩
    rcases p3 with p3 | ⟨b,o,kk,r1,r2,r3,r4⟩
    ·exact .inl p3
    ·exact .inr ⟨b,o,kk,r1,hown b (.inl r2),r3,r4⟩
   ·cases hx
  ·cases hx
 ·rename_i id hi
  obtain⟨hne,hn⟩:=hr id (by simp[AV.refs])
  split at hx
  ·rename_i d' t' ys hl
   split at hx
   ·rename_i hh _
    cases hh
    obtain⟨hwh,hx⟩:=mM hx
    cases hx
    simp only[ak] at hv
    obtain⟨d2,t2,xs2,e,ho⟩:=hv _ hl
    cases e
    have hown:=h.zx k hne hl hn
    obtain⟨v0,e0,l0,q1,q2,q3⟩:=h.blocks id _ hl
    have q3:=q3.rep hwh k.imm (fun b hb=>hown b (.inr hb))
    obtain⟨A,c,p1,p2,p3⟩:=uF q1 q2 q3 ho
    refine⟨[.slice A _ c],⟨A,c,rfl,p2,?_⟩,p1⟩
    rcases p3 with p3 | ⟨b,o,kk,r1,r2,r3,r4⟩
    ·exact .inl p3
    ·exact .inr ⟨b,o,kk,r1,hown b (.inl r2),r3,r4⟩
   ·cases hx
  ·cases hx
 ·cases hx
theorem CI (h:Sim g N s a w φ) {s':St} (k:gM s s'):∀{t:Ty} {l l':List AV} {us:List Value} {x:t.D},(∀id∈AV.aR l,id≠base/\lookup s'.hp id=none)->ax w (imm g φ s.hp w.heap.size) (aM g) φ s.hp l us->pU s.hp t l=some (x,l') →
  ∃cs us',us=cs++us'/\Rep w (imm g φ s'.hp w.heap.size) t x cs/\ax w (imm g φ s.hp w.heap.size) (aM g) φ s.hp l' us'/\∀id∈AV.aR l',id∈AV.aR l:=by
 intro t
 have leaf:∀{t:Ty} (_:t.agg=false) {l l':List AV} {us:List Value} {x:t.D},(∀id∈AV.aR l,id≠base/\lookup s'.hp id=none)->ax w (imm g φ s.hp w.heap.size) (aM g) φ s.hp l us->sR s.hp t l=some (x,l') →
   ∃cs us',us=cs++us'/\Rep w (imm g φ s'.hp w.heap.size) t x cs/\ax w (imm g φ s.hp w.heap.size) (aM g) φ s.hp l' us'/\∀id∈AV.aR l',id∈AV.aR l:=by
  intro t ha l l' us x hr hv hx
  unfold sR at hx
  split at hx
  ·cases hx
  ·split at hx
   case h_2=>cases hx
   rename_i hs
   cases hx
   simp only[ax] at hv
   obtain⟨u,us',rfl,h1,h2⟩:=hv
   obtain⟨cs,q1,q2⟩:=zp h k (fun id hi=>hr id (by unfold AV.aR;exact List.mem_append_left _ hi)) h1 hs
   have hl:=q1.length
   rw[ep t ha] at hl
   match cs,hl with
   | [c],_=>
    rw[yQ ha] at q2
    subst q2
    exact⟨[u],us',rfl,q1,h2,fun id hi=>by unfold AV.aR;exact List.mem_append_right _ hi⟩
 induction t with
 | unit=>
  intro l l' us x hr hv hx
  simp only[pU,Option.some.injEq,Prod.mk.injEq] at hx
  obtain⟨_,rfl⟩:=hx
  exact⟨[],us,rfl,rfl,hv,fun _ h=>h⟩
 | pair p q ihp ihq=>
  intro l l' us x hr hv hx
  unfold pU at hx
  split at hx
  case h_2=>cases hx
  rename_i y l1 h1
  split at hx
  case h_2=>cases hx
  rename_i z l2 h2
  cases hx
  obtain⟨c1,u1,rfl,r1,v1,m1⟩:=ihp hr hv h1
  obtain⟨c2,u2,rfl,r2,v2,m2⟩:=ihq (fun id hi=>hr id (m1 id hi)) v1 h2
  exact⟨c1++c2,u2,by simp,⟨c1,c2,rfl,r1,r2⟩,v2,fun id hi=>m1 id (m2 id hi)⟩
 | int k=>intro l l' us x hr hv hx;exact leaf rfl hr hv hx
 | bool=>intro l l' us x hr hv hx;exact leaf rfl hr hv hx
 | str=>intro l l' us x hr hv hx;exact leaf rfl hr hv hx
 | sl t _=>intro l l' us x hr hv hx;exact leaf rfl hr hv hx
theorem Gc (h:Sim g N s a w φ) {s':St} (k:gM s s') {v:AV} (hr:∀id∈v.refs,id≠base/\lookup s'.hp id=none) {u:Value} (hv:ak w (imm g φ s.hp w.heap.size) (aM g) φ s.hp v u) {t:Ty} {x:t.D} (hx:v.see s.hp t=some x) :
  ∃cs,Rep w (imm g φ s'.hp w.heap.size) t x cs/\u=mkv t cs:=by
 unfold AV.see at hx
 split at hx
 ·rename_i id i off u0
  obtain⟨hne,hn⟩:=hr id (by simp[AV.refs])
  split at hx
  case h_2=>cases hx
  rename_i v0 xs hl
  split at hx
  case h_2=>cases hx
  rename_i hh _
  have hh:=hh.down
  subst hh
  simp only[ak] at hv
  obtain⟨d2,t2,xs2,b,cur,e,e2,hφ,h0,hi,hg,hu⟩:=hv _ hl
  cases e2
  have hown:=h.zx k hne hl hn
  obtain⟨vv,e0,l0,q1,q2,q3⟩:=h.blocks id _ hl
  have q3:=q3.rep rfl k.imm (fun b hb=>hown b (.inr hb))
  have hp:=ni hx (qE q3 h0 hi)
  refine⟨_,hp,?_⟩
  have hc:Cells w b (i.toNat * v0.size+off) ((((l0.drop (i.toNat * v0.size)).take v0.size).drop off).take (Ty.sl u0).size):=by
   have:=((((jH q1 (q2.trans hφ)).drop (i.toNat * v0.size)).take v0.size).drop off).take (Ty.sl u0).size
   rwa [Nat.zero_add] at this
  obtain⟨A,c,ec,_⟩:=hp
  rw[ec] at hc ⊢
  have:=hc 0 _ rfl
  rw[Nat.add_zero,cell_of_row w b _ cur e (0,0) hg] at this
  rw[show cur[i.toNat * v0.size+off]? = cur.toList[i.toNat * v0.size+off]? by simp,hu] at this
  simpa [mkv,Ty.agg] using this
 ·rename_i u0 vs
  split at hx
  case h_2=>cases hx
  rename_i hh _
  have hh:=hh.down
  subst hh
  have hx:=(cT hx).2
  split at hx
  case h_2=>cases hx
  rename_i y hs
  cases hx
  simp only[ak] at hv
  obtain⟨us,rfl,_,_,h2⟩:=hv
  obtain⟨cs,us',rfl,q1,q2,_⟩:=CI h k (fun id hi=>hr id (by simpa [AV.refs] using hi)) h2 hs
  have:us'=[]:=by simpa only[ax] using q2
  subst this
  exact⟨cs,q1,by simp⟩
 ·exact zp h k hr hv hx
mutual
theorem qn:∀(v:AV),v.kept=true->v.refs=[]
 | .data _ _,_ | .cst _,_ | .adr _ _,_=>rfl
 | .fn _ caps,h=>by unfold AV.refs;exact lS caps (by simpa only[AV.kept] using h)
 | .ref v,h=>by unfold AV.refs;exact qn v (by simpa only[AV.kept] using h)
 | .top,h | .brw _ _,h | .badr _ _,h | .ptr _ _,h | .elt _ _ _,h | .own _ _,h | .clp _ _,h | .agg _ _,h | .pth _ _ _ _,h | .tup _,h | .mp _,h=>by simp[AV.kept] at h
theorem lS:∀(l:List AV),AV.iO l=true->AV.aR l=[]
 | [],_=>rfl
 | v::l,h=>by
  simp only[AV.iO,Bool.and_eq_true] at h
  unfold AV.aR
  rw[qn v h.1,lS l h.2]
  rfl
end
theorem DI {l:List AV} (h:AV.iO l=true) {i:Nat} (hi:i∈AV.aR l):False:=by rw[lS l h] at hi;simp at hi
theorem DK (h:Sim g N s a w φ) {s':St} (k:gM s s') {v:AV} (hr:∀id∈v.refs,id≠base/\lookup s'.hp id=none) {u:Value} (hv:ak w (imm g φ s.hp w.heap.size) (aM g) φ s.hp v u) {x:AV} (hx:v.CK s.hp=some x) :
  ak w (imm g φ s'.hp w.heap.size) (aM g) φ s.hp x u/\x.kept=true:=by
 unfold AV.CK at hx
 split at hx
 ·rename_i id
  split at hx
  case h_2=>cases hx
  rename_i t xs hl
  split at hx
  case h_2=>cases hx
  rename_i y hy
  cases hx
  simp only[ak] at hv
  obtain⟨b,o,uv,e1,e2,e3,e4,e5⟩:=hv
  have hs:=Gc h k (v:=.own id none) (fun i hi=>hr i (by simpa [AV.refs] using hi)) (u:=uv) (by simp only[ak];exact e5) hy
  obtain⟨cs,q1,q2⟩:=hs
  refine⟨?_,rfl⟩
  simp only[ak]
  exact⟨b,o,uv,e1,k.imm _ e2,e3,e4,cs,q1,q2⟩
 ·obtain⟨hk,hx⟩:=cT hx
  cases hx
  exact⟨ak.later ⟨k.imm,fun _ _ _=>rfl,fun _ h=>h,fun _ _ _=>rfl,fun i blk' hi=>⟨blk',hi,rfl,fun d t xs e=>⟨d,xs,e,rfl⟩,fun _ _ _=>rfl⟩⟩ _ _ hv,hk⟩
theorem xO (h:Sim g N s a w φ) {s':St} (k:gM s s'):∀{l xs:List AV} {us:List Value},(∀id∈AV.aR l,id≠base/\lookup s'.hp id=none)->ax w (imm g φ s.hp w.heap.size) (aM g) φ s.hp l us->yP s.hp l=some xs →
  ax w (imm g φ s'.hp w.heap.size) (aM g) φ s.hp xs us/\AV.iO xs=true
 | [],xs,us,_,hv,hx=>by
  cases hx
  exact⟨by simpa only[ax] using hv,rfl⟩
 | v::l,xs,us,hr,hv,hx=>by
  unfold yP at hx
  split at hx
  case h_2=>cases hx
  rename_i x h1
  split at hx
  case h_2=>cases hx
  rename_i ys h2
  cases hx
  simp only[ax] at hv
  obtain⟨u,us',rfl,v1,v2⟩:=hv
  have hr':∀id∈v.refs++AV.aR l,id≠base/\lookup s'.hp id=none:=fun id hi=>hr id (by unfold AV.aR;exact hi)
  obtain⟨p1,p2⟩:=DK h k (fun id hi=>hr' id (List.mem_append_left _ hi)) v1 h1
  obtain⟨q1,q2⟩:=xO h k (fun id hi=>hr' id (List.mem_append_right _ hi)) v2 h2
  refine⟨by simp only[ax];exact⟨u,us',rfl,p1,q1⟩,?_⟩
  simp only[AV.iO,Bool.and_eq_true]
  exact⟨p2,q2⟩
theorem Je (h:Sim g N s a w φ) {s':St} (k:gM s s') {v:AV} (hr:∀id∈v.refs,id≠base/\lookup s'.hp id=none) {u:Value} (hv:ak w (imm g φ s.hp w.heap.size) (aM g) φ s.hp v u) {x:AV} (hx:v.KS s.hp=some x) :
  ak w (imm g φ s'.hp w.heap.size) (aM g) φ s.hp x u/\x.kept=true:=by
 unfold AV.KS at hx
 split at hx
 ·rename_i f caps
  split at hx
  case h_2=>cases hx
  rename_i l hl
  cases hx
  simp only[ak] at hv
  obtain⟨vs,e,hv⟩:=hv
  obtain⟨q1,q2⟩:=xO h k (fun id hi=>hr id (by simpa [AV.refs] using hi)) hv hl
  refine⟨by simp only[ak];exact⟨vs,e,q1⟩,?_⟩
  simp only[AV.kept]
  exact q2
 ·obtain⟨hk,hx⟩:=cT hx
  cases hx
  exact⟨ak.later ⟨k.imm,fun _ _ _=>rfl,fun _ h=>h,fun _ _ _=>rfl,fun i blk' hi=>⟨blk',hi,rfl,fun d t xs e=>⟨d,xs,e,rfl⟩,fun _ _ _=>rfl⟩⟩ _ _ hv,hk⟩
theorem kr (h:Sim g N s a w φ) {s':St} (k:gM s s'):∀{b:Bool} {ps:List Par} {vs ws:List AV} {us:List Value},(∀id∈bI ps vs,id≠base/\lookup s'.hp id=none)->ax w (imm g φ s.hp w.heap.size) (aM g) φ s.hp vs us->qx b s.hp ps vs=some ws →
  ax w (imm g φ s'.hp w.heap.size) (aM g) φ s.hp ws us/\(∀i∈AV.aR vs,i∈bI ps vs\/i∈AV.aR ws)/\(∀i∈AV.aR ws,i∈AV.aR vs)/\(b=false->AV.iO ws=true)
 | b,ps,vs,ws,us,hr,hv,hb=>by
  have one:∀{p:Par} {ps:List Par} {v x:AV} {vs l:List AV} {u:Value} {us':List Value} (_:ak w (imm g φ s'.hp w.heap.size) (aM g) φ s.hp x u) (_:ax w (imm g φ s'.hp w.heap.size) (aM g) φ s.hp l us'/\(∀i∈AV.aR vs,i∈bI ps vs\/i∈AV.aR l)/\(∀i∈AV.aR l,i∈AV.aR vs)/\(b=false->AV.iO l=true))
    (_:b=false->x.kept=true) (_:∀i∈x.refs,i∈v.refs) (_:∀i∈v.refs,i∈bI (p::ps) (v::vs)\/i∈x.refs) (_:∀i∈bI ps vs,i∈bI (p::ps) (v::vs)),
    ax w (imm g φ s'.hp w.heap.size) (aM g) φ s.hp (x::l) (u::us')/\(∀i∈AV.aR (v::vs),i∈bI (p::ps) (v::vs)\/i∈AV.aR (x::l))/\(∀i∈AV.aR (x::l),i∈AV.aR (v::vs))/\(b=false->AV.iO (x::l)=true):=by
   intro p ps v x vs l u us' h1 h2 h3 h4 h5 h6
   refine⟨by simp only[ax];exact⟨u,us',rfl,h1,h2.1⟩,?_,?_,?_⟩
   ·intro i hi
    rw[show AV.aR (v::vs)=v.refs++AV.aR vs from by simp[AV.aR]] at hi
    rw[show AV.aR (x::l)=x.refs++AV.aR l from by simp[AV.aR]]
    rcases List.mem_append.1 hi with hi | hi
    ·exact(h5 i hi).imp (fun h=>h) (fun h=>List.mem_append_left _ h)
    ·exact(h2.2.1 i hi).imp (h6 i) (fun h=>List.mem_append_right _ h)
   ·intro i hi
    unfold AV.aR at hi ⊢
    rcases List.mem_append.1 hi with hi | hi
    ·exact List.mem_append_left _ (h4 i hi)
    ·exact List.mem_append_right _ (h2.2.2.1 i hi)
   ·intro hb0
    simp only[AV.iO,Bool.and_eq_true]
    exact⟨h3 hb0,h2.2.2.2 hb0⟩
  have later:∀{v:AV} {u:Value},ak w (imm g φ s.hp w.heap.size) (aM g) φ s.hp v u->ak w (imm g φ s'.hp w.heap.size) (aM g) φ s.hp v u:=fun hv=>
   ak.later ⟨k.imm,fun _ _ _=>rfl,fun _ h=>h,fun _ _ _=>rfl,fun i blk' hi=>⟨blk',hi,rfl,fun d t xs e=>⟨d,xs,e,rfl⟩,fun _ _ _=>rfl⟩⟩ _ _ hv
  unfold qx at hb
  split at hb
  ·cases hb
   exact⟨by simpa only[ax] using hv,by simp[AV.aR],by simp[AV.aR],fun _=>rfl⟩
  ·rename_i t ps v vs
   split at hb
   case h_2=>cases hb
   rename_i x hx
   split at hb
   case h_2=>cases hb
   rename_i l hl
   cases hb
   simp only[ax] at hv
   obtain⟨u,us',rfl,h1,h2⟩:=hv
   refine one ?_ (kr h k (fun id hi=>hr id (by unfold bI;exact List.mem_append_right _ hi)) h2 hl) (fun _=>rfl) (by simp[AV.refs]) (fun i hi=>.inl (by unfold bI;exact List.mem_append_left _ hi)) (fun i hi=>by unfold bI;exact List.mem_append_right _ hi)
   simp only[ak]
   obtain⟨cs,q1,q2⟩:=Gc h k (fun id hi=>hr id (by unfold bI;exact List.mem_append_left _ hi)) h1 hx
   exact⟨cs,q1,q2⟩
  ·rename_i ps v vs
   split at hb
   case h_2=>cases hb
   rename_i x hx
   split at hb
   case h_2=>cases hb
   rename_i l hl
   cases hb
   simp only[ax] at hv
   obtain⟨u,us',rfl,h1,h2⟩:=hv
   obtain⟨q1,q2⟩:=Je h k (fun id hi=>hr id (by unfold bI;exact List.mem_append_left _ hi)) h1 hx
   exact one q1 (kr h k (fun id hi=>hr id (by unfold bI;exact List.mem_append_right _ hi)) h2 hl) (fun _=>q2) (fun i hi=>by rw[qn x q2] at hi;cases hi) (fun i hi=>.inl (by unfold bI;exact List.mem_append_left _ hi)) (fun i hi=>by unfold bI;exact List.mem_append_right _ hi)
  ·rename_i ps v vs
   obtain⟨hbt,hb⟩:=cT hb
   simp only[ax] at hv
   obtain⟨u,us',rfl,h1,h2⟩:=hv
   split at hb
   ·split at hb
    case h_2=>cases hb
    rename_i l hl
    cases hb
    exact one (later h1) (kr h k (fun id hi=>hr id (by unfold bI;exact hi)) h2 hl) (fun q=>by rw[q] at hbt;cases hbt) (fun _ h=>h) (fun _ h=>.inr h) (fun i hi=>by unfold bI;exact hi)
   ·split at hb
    case h_2=>cases hb
    rename_i l hl
    cases hb
    exact one (later h1) (kr h k (fun id hi=>hr id (by unfold bI;exact hi)) h2 hl) (fun q=>by rw[q] at hbt;cases hbt) (fun _ h=>h) (fun _ h=>.inr h) (fun i hi=>by unfold bI;exact hi)
   ·cases hb
  ·cases hb
theorem qv:∀(l:List Nat) (s:St),gM s (fI s l)
 | [],s=>gM.refl s
 | i::l,s=>(wF s i).trans (qv l _)
theorem mA:∀(l:List Nat) (s:St) (i:Nat),(i∈l\/lookup s.hp i=none)->lookup (fI s l).hp i=none
 | [],s,i,h=>by simpa [fI] using h
 | j::l,s,i,h=>by
  refine mA l _ i ?_
  rw[ic]
  by_cases e:i=j
  ·exact .inr (if_pos e)
  ·rcases h with h | h
   ·exact .inl ((List.mem_cons.1 h).resolve_left e)
   ·exact .inr (by rw[if_neg e];exact h)
theorem vr {i:Nat}:∀{l:List Nat},jJ i l=false->i∉l
 | [],_,h=>by simp at h
 | j::l,hm,h=>by
  unfold jJ at hm
  rcases aZ i j with⟨_,hb⟩ | ⟨hne,hb⟩
  ·rw[hb] at hm;cases hm
  ·rw[hb] at hm
   rcases List.mem_cons.1 h with e | h
   ·exact hne e
   ·exact vr hm h
theorem BP {k:List Nat} {i:Nat}:∀{l:List Nat},meets k l=false->i∈l->i∉k
 | j::l,h,hi=>by
  unfold meets at h
  obtain⟨h1,h2⟩:=Bool.or_eq_false_iff.1 h
  rcases List.mem_cons.1 hi with rfl | hi
  ·exact vr h1
  ·exact BP h2 hi
theorem mw:∀(l:List Nat) (s:St) (i:Nat),i∉l->lookup (fI s l).hp i=lookup s.hp i
 | [],s,i,_=>rfl
 | j::l,s,i,h=>by
  have h1:i≠j:=fun e=>h (by simp[e])
  have h2:i∉l:=fun e=>h (by simp[e])
  have:=mw l (s.drop j) i h2
  rw[ic,if_neg h1] at this
  exact this
theorem oO:∀(l:List Nat) (s:St),fu s (fI s l)
 | [],s=>fu.refl s
 | j::l,s=>by
  have h1:fu s (s.drop j):=⟨rfl,fun i blk hi=>by
   rw[ic] at hi
   split at hi
   ·cases hi
   ·exact hi⟩
  exact h1.trans (oO l (s.drop j))
def LB (g:Gl) (φ:Names) (s:St) (w:World) (ids:List Nat) (M:Nat->Prop) (hM:∀b,M b->imm g φ (fI s ids).hp w.heap.size b):Gl:=
 { w0:=w,ok:=imm g φ (fI s ids).hp w.heap.size,io:=M,okLt:=fun _ h=>h.2.1,mv:=M,mvOk:=fun b h=>⟨h,hM b h,by simp⟩ }
structure InOk (g:Gl) (φ:Names) (s s3:St) (w w':World) (c:Bool) (hp':Hp) (φ':Names) (I:Nat->Prop) (M:Nat->Prop):Prop where
 turn:TurnP w w' M
 own:∀b,M b->g.mine b/\∃j blk,lookup s.hp j=some blk/\φ.eI j b/\lookup s3.hp j=none
 fH:fu s s3
 lt:∀b,I b->b<w'.heap.size
 /-- What is fixed for the callee is fixed for the caller, if nothing was lent. -/
 fixd:c=false->∀b,I b->(g.ok b\/g.w0.heap.size<=b)/\(w.heap.size<=b\/∀j blk,lookup s3.hp j=some blk->¬ φ.eI j b)
 out:∀k d t (xs:List t.D),k≠base->lookup hp' k=some (.arr d t xs)->(∃v e l,w'.rowOf 0 e t.size v xs.length l/\v.ownBlock=φ' k/\fz d w' I (φ'.sub k) t xs l)/\(∀b,φ' k=some b->b∉φ'.sub k) ∧
  ∀b,φ'.eI k b->b<w'.heap.size/\¬I b/\(w.heap.size<=b\/M b)
theorem Sim.fH (h:Sim g N s a w φ) {s3:St} (hf:fu s s3):Sim g N s3 a w φ:=h.less (fun j v hj=>by rw[hf.env] at hj;exact hj) hf.hp
theorem InOk.grow {c:Bool} {hp':Hp} {φ':Names} {w':World} {I M:Nat->Prop} {s3:St} (h:Sim g N s a w φ) (k:InOk g φ s s3 w w' c hp' φ' I M):Sim g N s3 a w' φ:=by
 have h3:=h.fH k.fH
 have hnot:∀j blk b,lookup s3.hp j=some blk->φ.eI j b->¬M b:=by
  intro j blk b hj hb hm
  obtain⟨_,i,bi,q1,q2,q3⟩:=k.own b hm
  have:=h.inj i j _ _ b q1 (k.fH.hp j blk hj) q2 hb
  subst this
  rw[q3] at hj
  cases hj
 have hfx:∀b,imm g φ s.hp w.heap.size b->¬M b:=by
  intro b hb hm
  obtain⟨_,i,bi,q1,q2,_⟩:=k.own b hm
  exact hb.2.2 i bi q1 q2
 have hst:∀b,aM g b->¬M b:=by
  intro b hb hm
  rcases Gl.oe (k.own b hm).1 with q | q
  ·exact absurd (g.stOk _ hb).1 (by omega)
  ·exact(g.stOk _ hb).2 q
 have hheap:∀i blk,lookup s3.hp i=some blk->∀x,φ.eI i x->w'.heap[x]? = w.heap[x]?:=fun i blk hi x hx=>k.turn.block x (h3.place i _ x hi hx).1 (hnot i blk x hi hx)
 have L:Later w w' (AE.imm g φ s.hp w.heap.size) (AE.imm g φ s3.hp w'.heap.size) (aM g) (aM g) φ φ s.hp s3.hp:=
  ⟨fun b ⟨h1,h2,h3⟩=>⟨h1,Nat.lt_of_lt_of_le h2 k.turn.size,fun j blk hj=>h3 j blk (k.fH.hp j blk hj)⟩,fun b hb o=>cN (k.turn.block b hb.2.1 (hfx b hb)) o,fun _ h=>h,
   fun b hb o=>cN (k.turn.block b (h.mu hb) (hst b hb)) o,fun i blk' hi=>⟨blk',k.fH.hp i blk' hi,rfl,fun d t xs e=>⟨d,xs,e,rfl⟩,fun _ x hx=>hheap i _ hi x (.inl hx)⟩⟩
 refine⟨h.defers,h.size,k.turn.os.trans h.os,k.turn.tape.trans h.tape,k.turn.output.trans h.output,Nat.le_trans h.hsize k.turn.size,?_,h3.inj,h3.apart,?_,?_,?_,?_⟩
 ·intro x hx hio
  rw[k.turn.block x (Nat.lt_of_lt_of_le hx h.hsize) (fun hm=>(Gl.oe (k.own x hm).1).elim (fun q=>by omega) hio)]
  exact h.frame x hx hio
 ·intro i blk b hi hb
  obtain⟨p1,p2⟩:=h3.place i blk b hi hb
  exact⟨Nat.lt_of_lt_of_le p1 k.turn.size,p2⟩
 ·intro i blk hi
  exact(h.blocks i blk (k.fH.hp i blk hi)).later L (fun x hx=>hheap i _ hi x (.inl hx)) (fun x hx=>hheap i _ hi x (.inr hx))
 ·intro j av hj
  rw[k.fH.env] at hj
  exact ak.later L av _ (h.env j av hj)
 ·intro blk hbk
  obtain⟨p1,p2⟩:=h3.pinned blk hbk
  refine⟨p1,fun x hx=>?_⟩
  obtain⟨p3,p4⟩:=p2 x hx
  refine⟨p3,fun cur e hg=>?_⟩
  obtain⟨cur1,q1,q2⟩:=p4 cur e hg
  exact⟨cur1,(hheap base blk hbk x (.inl (p1.trans hx))).trans q1,q2⟩
theorem InOk.arr {c:Bool} {hp':Hp} {φ':Names} {w':World} {I M:Nat->Prop} {s3:St} (h:Sim g N s a w φ) (k:InOk g φ s s3 w w' c hp' φ' I M) {d:Nat} (hd:d≠base) {n:Nat} (hn:n≠base) {e:Dp} {t:Ty} {xs:List t.D}
  (hl:lookup hp' n=some (.arr e t xs)) (hf:(!c||(e.sk||e.Bm&&t.flat))=true):Sim g N (s3.create d (.arr e t xs)) a w' (bp φ d (φ' n) (φ'.sub n)) ∧
   (c=false->∀b,I b->AE.imm g (bp φ d (φ' n) (φ'.sub n)) (s3.create d (.arr e t xs)).hp w'.heap.size b):=by
 obtain⟨⟨v0,e0,l0,q1,q2,q3⟩,q4,q5⟩:=k.out n e t xs hn hl
 have himm:c=false->∀b,I b->AE.imm g (bp φ d (φ' n) (φ'.sub n)) (s3.create d (.arr e t xs)).hp w'.heap.size b:=by
  intro hc b hb
  obtain⟨i1,i2⟩:=k.fixd hc b hb
  refine⟨i1,k.lt b hb,fun j blk hj ho=>?_⟩
  rw[cD] at ho
  by_cases hjd:j=d
  ·rw[if_pos hjd] at ho
   exact(q5 b ho).2.1 hb
  ·rw[if_neg hjd] at ho
   simp only[St.create,lookup_cons,cW,bf] at hj
   rw[if_neg (fun e=>hjd e.symm),if_neg hjd] at hj
   cases hq:lookup s3.hp j with
   | none=>simp[hq] at hj
   | some b0=>
    rcases i2 with i2 | i2
    ·have:=(h.place j b0 b (k.fH.hp j b0 hq) ho).1
     omega
    ·exact i2 j b0 hq ho
 refine⟨h.nZ k.fH hd k.turn (fun b hb=>?_) (fun b hb=>?_) q4 (fun L=>⟨v0,e0,l0,q1,q2,?_⟩),himm⟩
 ·obtain⟨m1,j,blk,m2,m3,m4⟩:=k.own b hb
  exact⟨m1,j,blk,m2,m3,.inr m4⟩
 ·obtain⟨z1,_,z2⟩:=q5 b hb
  refine⟨z1,?_⟩
  rcases z2 with z2 | z2
  ·exact⟨.inl (Nat.le_trans h.hsize z2),.inl z2⟩
  ·obtain⟨m1,j,blk,m2,m3,m4⟩:=k.own b z2
   exact⟨m1,.inr ⟨j,blk,m2,m3,.inr m4⟩⟩
 ·cases hc:c with
  | false=>
   cases e with
   | dp=>exact q3
   | ho=>exact q3
   | sh=>exact⟨q3.1.mono' (himm hc) (fun _ _ _=>rfl),q3.2⟩
  | true=>
   rw[hc] at hf
   cases e with
   | dp=>exact q3
   | ho=>exact q3
   | sh=>exact⟨GV (by simpa [Dp.sk,Dp.Bm] using hf) q3.1,q3.2⟩
theorem kZ {c:Bool} {hp':Hp} {d:Nat} {w':World} {I S:Nat->Prop} {φ':Names} {hp1:Hp}:∀{l vs:List AV} {us:List Value} {s s':St},ax w' I S φ' hp1 l us->iL c hp' d false l s=some (vs,s') →
  s'=s/\∀(J S':Nat->Prop) (ψ:Names) (hp2:Hp),(c=false->∀b,I b->J b)->ax w' J S' ψ hp2 vs us
 | [],vs,us,s,s',hv,hx=>by
  simp only[iL,Option.some.injEq,Prod.mk.injEq] at hx
  obtain⟨rfl,rfl⟩:=hx
  simp only[ax] at hv
  subst hv
  exact⟨rfl,fun _ _ _ _ _=>by simp[ax]⟩
 | v::l,vs,us,s,s',hv,hx=>by
  simp only[ax] at hv
  obtain⟨u,us',rfl,h1,h2⟩:=hv
  unfold iL at hx
  split at hx
  ·cases hx
  ·cases hx
  ·rename_i t x
   split at hx
   case h_2=>cases hx
   rename_i vs' s1 ht
   cases hx
   obtain⟨q1,q2⟩:=kZ h2 ht
   refine⟨q1,fun J S' ψ hp2 hJ=>?_⟩
   simp only[ax]
   refine⟨u,us',rfl,?_,q2 J S' ψ hp2 hJ⟩
   cases hf:(!c||t.flat) with
   | false=>simp[ak]
   | true=>
    simp only[cond_true,ak] at h1 ⊢
    obtain⟨cs,r1,r2⟩:=h1
    refine⟨cs,?_,r2⟩
    cases hc:c with
    | false=>exact r1.mono (hJ hc) (fun _ _ _=>rfl)
    | true=>rw[hc] at hf;exact rB (by simpa using hf) r1
  ·split at hx
   case h_2=>cases hx
   rename_i vs' s1 ht
   cases hx
   obtain⟨q1,q2⟩:=kZ h2 ht
   refine⟨q1,fun J S' ψ hp2 hJ=>?_⟩
   simp only[ax,ak] at h1 ⊢
   exact⟨u,us',rfl,h1,q2 J S' ψ hp2 hJ⟩
  ·cases hx
theorem lq {c:Bool} {hp':Hp} {φ':Names} {w':World} {I M:Nat->Prop} {s3:St} (h:Sim g N s a w φ) (k:InOk g φ s s3 w w' c hp' φ' I M) {d:Nat} (hd:d≠base) {S:Nat->Prop} :
  ∀{l vs:List AV} {us:List Value} {s':St},ax w' I S φ' hp' l us->iL c hp' d true l s3=some (vs,s') →
  ∃ φ2,Sim g N s' a w' φ2/\(c=false->∀b,I b->AE.imm g φ2 s'.hp w'.heap.size b)/\ax w' (AE.imm g φ2 s'.hp w'.heap.size) (aM g) φ2 s'.hp vs us
 | [],vs,us,s',hv,hx=>by
  simp only[iL,Option.some.injEq,Prod.mk.injEq] at hx
  obtain⟨rfl,rfl⟩:=hx
  simp only[ax] at hv
  subst hv
  refine⟨φ,k.grow h,fun hc b hb=>?_,by simp[ax]⟩
  obtain⟨i1,i2⟩:=k.fixd hc b hb
  refine⟨i1,k.lt b hb,fun j blk hj ho=>?_⟩
  rcases i2 with i2 | i2
  ·have:=(h.place j blk b (k.fH.hp j blk hj) ho).1
   omega
  ·exact i2 j blk hj ho
 | v::l,vs,us,s',hv,hx=>by
  simp only[ax] at hv
  obtain⟨u,us',rfl,h1,h2⟩:=hv
  unfold iL at hx
  split at hx
  ·rename_i n
   have hx:=(cT hx).2
   split at hx
   case h_2=>cases hx
   rename_i e t xs hl
   obtain⟨hq,hx⟩:=cT hx
   obtain⟨hf,hkb⟩:=Bool.and_eq_true_iff.1 hq
   have hn:n≠base:=by rintro rfl;simp at hkb
   split at hx
   case h_2=>cases hx
   rename_i vs' s1 hs
   cases hx
   obtain⟨rfl,q2⟩:=kZ h2 hs
   obtain⟨r1,r2⟩:=k.arr h hd hn hl hf
   refine⟨_,r1,r2,?_⟩
   simp only[ax,ak] at h1 ⊢
   obtain⟨d2,t2,x2,e2,ho⟩:=h1 _ hl
   cases e2
   refine⟨u,us',rfl,fun blk hb=>?_,q2 _ _ _ _ r2⟩
   simp only[St.create,lookup_cons,if_true] at hb
   cases hb
   exact⟨e,t,xs,rfl,by simpa [bp] using ho⟩
  ·rename_i n hi
   have hx:=(cT hx).2
   split at hx
   case h_2=>cases hx
   rename_i e t xs hl
   obtain⟨hq,hx⟩:=cT hx
   obtain⟨hf,hkb⟩:=Bool.and_eq_true_iff.1 hq
   have hn:n≠base:=by rintro rfl;simp at hkb
   split at hx
   case h_2=>cases hx
   rename_i vs' s1 hs
   cases hx
   obtain⟨rfl,q2⟩:=kZ h2 hs
   obtain⟨r1,r2⟩:=k.arr h hd hn hl hf
   refine⟨_,r1,r2,?_⟩
   simp only[ax,ak] at h1 ⊢
   obtain⟨d2,t2,x2,e2,ho⟩:=h1 _ hl
   cases e2
   refine⟨u,us',rfl,fun blk hb=>?_,q2 _ _ _ _ r2⟩
   simp only[St.create,lookup_cons,if_true] at hb
   cases hb
   exact⟨e,t,xs,rfl,by simpa [bp] using ho⟩
  ·rename_i t x
   split at hx
   case h_2=>cases hx
   rename_i vs' s1 hs
   cases hx
   obtain⟨φ2,q1,q0,q2⟩:=lq h k hd h2 hs
   refine⟨φ2,q1,q0,?_⟩
   simp only[ax]
   refine⟨u,us',rfl,?_,q2⟩
   cases hf:(!c||t.flat) with
   | false=>simp[ak]
   | true=>
    simp only[cond_true,ak] at h1 ⊢
    obtain⟨cs,r1,r2⟩:=h1
    refine⟨cs,?_,r2⟩
    cases hc:c with
    | false=>exact r1.mono (q0 hc) (fun _ _ _=>rfl)
    | true=>rw[hc] at hf;exact rB (by simpa using hf) r1
  ·split at hx
   case h_2=>cases hx
   rename_i vs' s1 hs
   cases hx
   obtain⟨φ2,q1,q0,q2⟩:=lq h k hd h2 hs
   refine⟨φ2,q1,q0,?_⟩
   simp only[ax,ak] at h1 ⊢
   exact⟨u,us',rfl,h1,q2⟩
  ·cases hx
theorem Eo {c:Bool} {hp':Hp} {φ':Names} {w':World} {I M:Nat->Prop} {s3:St} (h:Sim g N s a w φ) (k:InOk g φ s s3 w w' c hp' φ' I M) {d:Nat} (hd:d≠base) {S:Nat->Prop} {r v:AV} {u:Value} {s':St}
  (hr:ak w' I S φ' hp' r u) (hx:yX c hp' d r s3=some (v,s')) :
  ∃ φ2,Sim g N s' a w' φ2/\ak w' (AE.imm g φ2 s'.hp w'.heap.size) (aM g) φ2 s'.hp v u:=by
 unfold yX at hx
 split at hx
 ·split at hx
  case h_2=>cases hx
  rename_i hs
  cases hx
  simp only[ak] at hr
  obtain⟨us,e1,e2,e3,e4⟩:=hr
  obtain⟨φ2,q1,_,q2⟩:=lq h k hd e4 hs
  exact⟨φ2,q1,by simp only[ak];exact⟨us,e1,e2,e3,q2⟩⟩
 ·split at hx
  case h_2=>cases hx
  rename_i hs
  cases hx
  simp only[ak] at hr
  obtain⟨us,e1,e4⟩:=hr
  obtain⟨φ2,q1,_,q2⟩:=lq h k hd e4 hs
  exact⟨φ2,q1,by simp only[ak];exact⟨us,e1,q2⟩⟩
 ·split at hx
  ·rename_i hs
   cases hx
   obtain⟨φ2,q1,_,q2⟩:=lq h k hd (us:=[u]) (by simp only[ax];exact⟨u,[],rfl,hr,rfl⟩) hs
   simp only[ax] at q2
   obtain⟨u',us',e1,q3,_⟩:=q2
   cases e1
   exact⟨φ2,q1,q3⟩
  ·cases hx
theorem iP:∀{ps:List Par} {vs:List AV} {i:Nat},i∈bI ps vs->i∈AV.aR vs
 | [],_,i,h=>by simp[bI] at h
 | _::_,[],i,h=>by simp[bI] at h
 | p::ps,v::vs,i,h=>by
  unfold AV.aR
  unfold bI at h
  split at h
  ·rename_i e1 e2
   cases e1;cases e2
   rcases List.mem_append.1 h with h | h
   ·exact List.mem_append_left _ h
   ·exact List.mem_append_right _ (iP h)
  ·rename_i e1 e2
   cases e1;cases e2
   rcases List.mem_append.1 h with h | h
   ·exact List.mem_append_left _ h
   ·exact List.mem_append_right _ (iP h)
  ·rename_i e1 e2
   cases e1;cases e2
   exact List.mem_append_right _ (iP h)
  ·simp at h
theorem Gu {f:FuncId} {con:Con} (hok:zR P f con) (h:Sim g N s a w φ) {m:Bool} {args:List AV} {vals:List Value} {d:Nat} (hd:d≠base) (hv:ax w (imm g φ s.hp w.heap.size) (aM g) φ s.hp args vals)
  (hop:Jp m con args d s K) {Q:Prop} (hQ:m=true->¬Q) :
  Calls P f vals.toArray w (fun
   | .returned u,w'=>∃v s' φ',K v s'/\Sim g N s' a w' φ'/\ak w' (imm g φ' s'.hp w'.heap.size) (aM g) φ' s'.hp v u/\(Q->Turn w w' none)
   | _,_=>False):=by
 unfold Jp at hop
 cases hnb:jJ base (AV.aR args) with
 | true=>rw[hnb] at hop;exact hop.elim
 | false=>
 rw[hnb] at hop
 simp only[cond_false] at hop
 obtain⟨l,hb,hop⟩:=aJ hop
 cases hmt:meets (AV.aR l) (bI con.par args) with
 | true=>rw[hmt] at hop;exact hop.elim
 | false=>
 rw[hmt] at hop
 simp only[cond_false] at hop
 obtain⟨q,hq,hop⟩:=aJ hop
 -- what is lent is put aside
 have hl0:∀id∈bI con.par args,id≠base/\lookup (fI s (bI con.par args)).hp id=none:=fun id hi=>⟨by rintro rfl;exact vr hnb (iP hi),mA _ s id (.inl hi)⟩
 obtain⟨b1,b2,b3,b4⟩:=kr h (qv _ s) hl0 hv hb
 obtain⟨ψ,src,q1,q2,q3⟩:=mq h b1 (show eJ 0 l s=some (q.1,q.2) from hq)
 have howns:∀{j b blk},lookup q.2 j=some blk->ψ.eI j b->φ.eI (src j) b:=by
  intro j b blk hj hb
  obtain⟨_,_,_,_,e,t,xs,k,_,_,_,r7,r8⟩:=q1 j blk hj
  unfold Names.eI at hb ⊢
  rw[<-r7,<-r8]
  exact hb
 let M:Nat->Prop:=fun b=>∃j blk,lookup q.2 j=some blk/\ψ.eI j b
 have hMown:∀b,M b->∃i blk,lookup s.hp i=some blk/\φ.eI i b/\i≠base/\i∈AV.aR l:=by
  rintro b ⟨j,blk,hj,ho⟩
  obtain⟨_,_,r3,rm,e,t,xs,k,r4,_⟩:=q1 j blk hj
  exact⟨src j,_,r4,howns hj ho,r3,rm⟩
 have hMm:∀b,M b->g.mine b/\b<w.heap.size:=by
  intro b hb
  obtain⟨i,blk,r1,r2,r3,_⟩:=hMown b hb
  obtain⟨p1,p2⟩:=h.place i blk b r1 r2
  exact⟨p2.resolve_right (fun q=>r3 q.2),p1⟩
 have hfx:∀b,imm g φ s.hp w.heap.size b->¬M b:=by
  intro b hb hm
  obtain⟨i,blk,r1,r2,_⟩:=hMown b hm
  exact hb.2.2 i blk r1 r2
 have hdropAll:∀{ids:List Nat} {j:Nat} {blk:Block},lookup (fI s ids).hp j=some blk->lookup s.hp j=some blk/\j∉ids:=by
  intro ids j blk hj
  refine⟨(oO ids s).hp j blk hj,fun hin=>?_⟩
  rw[mA ids s j (.inl hin)] at hj
  cases hj
 have himmD:∀{ids ids':List Nat} (_:∀i∈ids,i∈ids') (b:Nat),imm g φ (fI s ids).hp w.heap.size b->imm g φ (fI s ids').hp w.heap.size b:=by
  rintro ids ids' hsub b ⟨h1,h2,h3⟩
  refine⟨h1,h2,fun j blk hj=>?_⟩
  obtain⟨k1,k2⟩:=hdropAll hj
  exact h3 j blk (by rw[mw ids s j (fun hin=>k2 (hsub j hin))];exact k1)
 have hMok:∀b,M b->imm g φ (fI s (AV.aR args)).hp w.heap.size b:=by
  intro b hm
  obtain⟨i,blk,r1,r2,r3,r4⟩:=hMown b hm
  refine⟨Gl.lH (hMm b hm).1,(hMm b hm).2,fun j blk' hj hjb=>?_⟩
  obtain⟨k1,k2⟩:=hdropAll hj
  have:=h.inj j i _ _ b k1 r1 hjb r2
  subst this
  exact k2 (b3 j r4)
 let gl:=LB g φ s w (AV.aR args) M hMok
 have hI0:∀b,imm g φ s.hp w.heap.size b->imm gl ψ q.2 w.heap.size b:=by
  intro b hb
  exact⟨.inl ((qv _ s).imm b hb),hb.2.1,fun j blk hj ho=>hfx b hb ⟨j,blk,hj,ho⟩⟩
 have hI1:∀b,imm g φ (fI s (bI con.par args)).hp w.heap.size b->imm gl ψ q.2 w.heap.size b:=by
  intro b hb
  refine⟨.inl (himmD (fun i hi=>iP hi) b hb),hb.2.1,fun j blk hj ho=>?_⟩
  obtain⟨i,blk',r1,r2,r3,r4⟩:=hMown b ⟨j,blk,hj,ho⟩
  refine hb.2.2 i blk' ?_ r2
  rw[mw _ s i (fun hin=>BP hmt hin r4)]
  exact r1
 have hS0:Sim gl 0 ⟨[],q.2⟩ idle w ψ:=by
  refine⟨rfl,rfl,rfl,rfl,rfl,Nat.le_refl _,fun _ _ _=>rfl,?_,?_,?_,?_,fun _ _ e=>by simp[lookup] at e,?_⟩
  ·intro i j bi bj b hi hj ei ej
   obtain⟨_,_,_,_,e,t,xs,k,r4,_⟩:=q1 i bi hi
   obtain⟨_,_,_,_,e',t',xs',k',r4',_⟩:=q1 j bj hj
   exact q2 i j bi bj hi hj (h.inj _ _ _ _ b r4 r4' (howns hi ei) (howns hj ej))
  ·intro j blk b hj hb
   obtain⟨_,_,_,_,e,t,xs,k,r4,_,_,r7,r8⟩:=q1 j blk hj
   rw[r8]
   rw[r7] at hb
   exact h.apart _ _ b r4 hb
  ·intro j blk b hj hb
   exact⟨(hMm b ⟨j,blk,hj,hb⟩).2,.inl (.inr ⟨j,blk,hj,hb⟩)⟩
  ·intro j blk hj
   obtain⟨_,_,_,_,e,t,xs,k,r4,r5,rfl,r7,r8⟩:=q1 j blk hj
   rw[r7,r8]
   obtain⟨v,e0,l0,s1,s2,s3⟩:=h.blocks _ _ r4
   exact Ah ⟨v,e0,l0,s1,s2,s3.later hI0 (fun _ _ _=>rfl) (fun _ _=>rfl)⟩ r5
  ·intro blk hj
   exact absurd rfl (q1 base blk hj).2.1
 have hargs:=q3 q.2 ψ (imm gl ψ q.2 w.heap.size) (aM gl) (fun j _=>⟨rfl,rfl,rfl⟩) hI1
 refine Calls.mono (hok gl q.1 q.2 _ ψ vals hop hS0 hargs) ?_
 intro e w' hbk
 cases e with
 | returned u=>
  obtain⟨r,hp',φ',hK,hS',hr⟩:=hbk
  obtain⟨z,hz,hK⟩:=aJ hK
  have hturn:TurnP w w' M:=⟨hS'.os,hS'.tape,hS'.output,hS'.hsize,fun b hb hm=>hS'.frame b hb hm⟩
  have k:InOk g φ s (fI s (AV.aR l)) w w' (!(bI con.par args).isEmpty) hp' φ' (imm gl φ' hp' w'.heap.size) M:=by
   refine⟨hturn,fun b hm=>?_,oO _ s,fun b hb=>hb.2.1,fun hc b hb=>?_,fun n d t xs hn hl=>?_⟩
   ·obtain⟨i,blk,r1,r2,_,r4⟩:=hMown b hm
    exact⟨(hMm b hm).1,i,blk,r1,r2,mA _ s i (.inl r4)⟩
   ·have hnil:bI con.par args=[]:=by simpa using hc
    rcases hb.1 with i1 | i1
    ·refine⟨i1.1,.inr fun j blk hj ho=>?_⟩
     obtain⟨k1,k2⟩:=hdropAll hj
     by_cases hja:j∈AV.aR args
     ·rcases b2 j hja with q | q
      ·rw[hnil] at q;simp at q
      ·exact k2 q
     ·exact i1.2.2 j blk (by rw[mw _ s j hja];exact k1) ho
    ·exact⟨.inr (Nat.le_trans h.hsize i1),.inl i1⟩
   ·refine⟨hS'.blocks n _ hl,fun b hb=>hS'.apart n _ b hl hb,fun b hb=>?_⟩
    obtain⟨p1,p2⟩:=hS'.place n _ b hl hb
    exact⟨p1,fun hi=>hi.2.2 n _ hl hb,p2.resolve_right (fun q=>hn q.2)⟩
  have hd':Cr d (AV.aR l)≠base:=by
   unfold Cr
   split
   ·rename_i i hi
    rintro rfl
    exact vr hnb (b3 base (by rw[hi];simp))
   ·exact hd
  obtain⟨φ2,r1,r2⟩:=Eo h k hd' hr (show yX _ hp' (Cr d (AV.aR l)) r (fI s (AV.aR l))=some (z.1,z.2) from hz)
  refine⟨z.1,z.2,φ2,hK,r1,r2,fun hq0=>?_⟩
  cases hm:m with
  | true=>exact(hQ hm hq0).elim
  | false=>
   have hkl:=b4 hm
   refine⟨hturn.os,hturn.tape,hturn.output,hturn.size,fun b hb _=>hturn.block b hb fun hmb=>?_⟩
   obtain⟨_,_,_,_,_,hin⟩:=hMown b hmb
   exact DI hkl hin
 | panicked c=>exact hbk.elim
 | outgrown=>exact hbk.elim
def Bu (g:Gl) (φ:Names) (s:St) (w:World) (r:Option Nat) (B:List Nat):Gl:=
 { w0:=w,ok:=imm g φ s.hp w.heap.size,io:=fun b=>r=some b\/b∈B,okLt:=fun _ h=>h.2.1,pin:=r }
def fN (r:Option Nat) (B:List Nat):Names:=⟨fun j=>if j=base then r else none,fun j=>if j=base then B else []⟩
theorem uV {r:Option Nat} {B:List Nat} {b:Nat}:(fN r B).eI base b ↔ (r=some b\/b∈B):=by simp[fN,Names.eI]
theorem jA {blk:Block} {j:Nat} {x:Block} (h:lookup [(base,blk)] j=some x):j=base/\x=blk:=by
 rw[lookup_cons] at h
 split at h
 ·rename_i e;cases h;exact⟨e.symm,rfl⟩
 ·simp[lookup] at h
theorem Fi {r:Option Nat} {B:List Nat} {blk:Block} (hown:∀b,(r=some b\/b∈B)->b<w.heap.size/\∃id blk,lookup s.hp id=some blk/\φ.eI id b) :
  ∀b,imm g φ s.hp w.heap.size b->imm (Bu g φ s w r B) (fN r B) [(base,blk)] w.heap.size b:=by
 intro b hb
 refine⟨.inl hb,hb.2.1,fun id x hl ho=>?_⟩
 obtain⟨rfl,rfl⟩:=jA hl
 obtain⟨_,i,bl,h1,h2⟩:=hown b (uV.1 ho)
 exact hb.2.2 i bl h1 h2
theorem DU {r:Option Nat} {B:List Nat} {e:Dp} {t:Ty} {zs:List t.D} (hown:∀b,(r=some b\/b∈B)->b<w.heap.size/\∃id blk,lookup s.hp id=some blk/\φ.eI id b) (hap:∀b,r=some b->b∉B)
  (hb:∃v e0 l,w.rowOf 0 e0 t.size v zs.length l/\v.ownBlock=r/\fz e w (imm g φ s.hp w.heap.size) B t zs l) :
  Sim (Bu g φ s w r B) 0 ⟨[],[(base,.arr e t zs)]⟩ idle w (fN r B):=by
 refine⟨rfl,rfl,rfl,rfl,rfl,Nat.le_refl _,fun _ _ _=>rfl,?_,?_,?_,?_,fun _ _ h=>by simp[lookup] at h,?_⟩
 ·intro i j bi bj b hi hj _ _
  rw[(jA hi).1,(jA hj).1]
 ·intro i blk b hi hr
  obtain⟨rfl,rfl⟩:=jA hi
  simp only[fN,if_true] at hr ⊢
  exact hap b hr
 ·intro i blk b hi ho
  obtain⟨rfl,rfl⟩:=jA hi
  have ho:=uV.1 ho
  exact⟨(hown b ho).1,.inr ⟨ho,rfl⟩⟩
 ·intro i blk hi
  obtain⟨rfl,rfl⟩:=jA hi
  obtain⟨v,e0,l,q1,q2,q3⟩:=hb
  exact⟨v,e0,l,q1,by simp[fN,q2],by simpa [fN] using q3.later (Fi hown) (fun _ _ _=>rfl) (fun _ _=>rfl)⟩
 ·intro blk _
  refine⟨by simp[fN,Bu],fun b hb=>?_⟩
  have hb:r=some b:=hb
  exact⟨(hown b (.inl hb)).1,fun cur e hg=>⟨cur,hg,rfl⟩⟩
structure IoLeft (g:Gl) (φ:Names) (s:St) (w w':World) (r:Option Nat) (B B':List Nat) (e:Dp) (t:Ty) (ys:List t.D):Prop where
 turn:TurnP w w' (fun b=>r=some b\/b∈B)
 sub:∀b∈B',b<w'.heap.size/\(w.heap.size<=b\/r=some b\/b∈B)
 apart:∀b,r=some b->b∉B'
 row:∀b,r=some b->∀cur e,w.heap[b]? = some (.cells cur e (0,0))->∃cur',w'.heap[b]? = some (.cells cur' e (0,0))/\cur'.size=cur.size
 block:∃(I:Nat->Prop) (v:Value) (e0:TypeId) (l:List Value),w'.rowOf 0 e0 t.size v ys.length l/\v.ownBlock=r/\fz e w' I B' t ys l ∧
  ∀b,I b->(imm g φ s.hp w.heap.size b\/w.heap.size<=b)/\b<w'.heap.size/\r≠some b/\b∉B'
theorem FZ {r:Option Nat} {B:List Nat} {hp':Hp} {φ':Names} {w':World} {e:Dp} {t:Ty} {ys:List t.D} (hS:Sim (Bu g φ s w r B) 0 ⟨[],hp'⟩ idle w' φ') (hl:lookup hp' base=some (.arr e t ys)) :
  IoLeft g φ s w w' r B (φ'.sub base) e t ys:=by
 obtain⟨p1,p2⟩:=hS.pinned _ hl
 have p1:φ' base=r:=p1
 refine⟨⟨hS.os,hS.tape,hS.output,hS.hsize,fun b hb hn=>hS.frame b hb hn⟩,fun b hb=>?_,fun b hb=>hS.apart base _ b hl (p1.trans hb),fun b hb=>(p2 b hb).2,?_⟩
 ·obtain⟨q1,q2⟩:=hS.place base _ b hl (.inr hb)
  exact⟨q1,q2.imp (fun h=>h.resolve_right (fun q=>q)) (fun h=>h.1)⟩
 ·obtain⟨v,e0,l,q1,q2,q3⟩:=hS.blocks base _ hl
  refine⟨_,v,e0,l,q1,q2.trans p1,q3,fun b hb=>?_⟩
  obtain⟨h1,h2,h3⟩:=hb
  have h3:=h3 base _ hl
  exact⟨h1,h2,fun e=>h3 (.inl (p1.trans e)),fun e=>h3 (.inr e)⟩
theorem Bg {s:St} {id i:Nat} {blk x:Block} (h:lookup (s.cR id blk).hp i=some x):(i=id/\x=blk)\/(i≠id/\∃b0,lookup s.hp i=some b0):=by
 simp only[St.cR,lookup_cons,cW,bf] at h
 by_cases hi:i=id
 ·subst hi
  simp at h
  exact .inl ⟨rfl,h.symm⟩
 ·rw[if_neg (fun e=>hi e.symm),if_neg hi] at h
  cases hq:lookup s.hp i with
  | none=>simp[hq] at h
  | some b0=>exact .inr ⟨hi,b0,rfl⟩
theorem IT (h:Sim g N s a w φ) {id:Nat} {e:Dp} {t:Ty} {xs ys:List t.D} {w':World} {B':List Nat} (hl:lookup s.hp id=some (.arr e t xs)) (hlen:ys.length=xs.length)
  (k:IoLeft g φ s w w' (φ id) (φ.sub id) B' e t ys):Sim g N (s.cR id (.arr e t ys)) a w' (bp φ id (φ id) B'):=by
 have hfreed:∀b,(φ id=some b\/b∈φ.sub id)->qT s s φ id b:=fun b hb=>⟨id,_,hl,hb,.inl rfl⟩
 refine h.qG (fu.refl s) hl hlen k.turn hfreed (fun b hb=>?_) k.apart k.row (fun L=>?_)
 ·obtain⟨q1,q2⟩:=k.sub b hb
  refine⟨q1,?_,q2.imp (fun h=>h) (hfreed b)⟩
  rcases q2 with q2 | q2
  ·exact .inl (.inl (Nat.le_trans h.hsize q2))
  ·exact(h.place id _ b hl q2).2
 ·obtain⟨I,v,e0,l,q1,q2,q3,q4⟩:=k.block
  refine⟨v,e0,l,q1,q2,q3.later (fun b hb=>?_) (fun _ _ _=>rfl) (fun _ _=>rfl)⟩
  obtain⟨i1,i2,i3,i4⟩:=q4 b hb
  refine⟨?_,i2,fun i blk hi ho=>?_⟩
  ·rcases i1 with i1 | i1
   ·exact i1.1
   ·exact .inr (Nat.le_trans h.hsize i1)
  ·rw[cD] at ho
   rcases Bg hi with⟨hid,_⟩ | ⟨hid,b0,hq⟩
   ·rw[if_pos hid] at ho
    rcases ho with ho | ho
    ·exact i3 ho
    ·exact i4 ho
   ·rw[if_neg hid] at ho
    rcases i1 with i1 | i1
    ·exact i1.2.2 i b0 hq ho
    ·have:=(h.place i b0 b hq ho).1
     omega
theorem IS (h:Sim g N s a w φ) {id off:Nat} {i:Int} {u t:Ty} {xs:List u.D} {zs:List t.D} {u0:Value} (hl:lookup s.hp id=some (.arr .dp u xs))
  (hv:ak w (imm g φ s.hp w.heap.size) (aM g) φ s.hp (.pth id i off t) u0) (hz:proj u (nth xs i) off (.sl t)=some zs) :
  ∃Ep,(∀b∈Ep,b∈φ.sub id)/\Ep.Nodup/\Tree w (.sl t) zs [u0] Ep ∧
   ∀(w':World) (ys:List t.D) (z:u.D) (E':List Nat),upd u (nth xs i) off (.sl t) ys=some z->(∀b,φ.eI id b->b∉Ep->w'.heap[b]? = w.heap[b]?)->Tree w' (.sl t) ys [u0] E'->E'.Nodup →
    (∀b∈E',b∈Ep\/¬ φ.eI id b)->∃v e l,w'.rowOf 0 e u.size v (xs.set i.toNat z).length l/\v.ownBlock=φ id/\fz .dp w' (fun _=>True) (E'++φ.sub id) u (xs.set i.toNat z) l:=by
 simp only[ak] at hv
 obtain⟨d2,t2,xs2,b,cur,e,e2,hφ,h0,hi,hg,hu⟩:=hv _ hl
 cases e2
 obtain⟨v0,e0,l0,q1,q2,B0,q3,q4,q5⟩:=h.blocks id _ hl
 have hi':i.toNat<xs.length:=by omega
 have hnth:nth xs i=xs[i.toNat]:=by
  unfold nth
  rw[List.getD_eq_getElem?_getD,List.getElem?_eq_getElem hi']
  rfl
 obtain⟨B1,E,B2,eB,t1,t2⟩:=bG.at q3 i.toNat hi'
 rw[<-hnth] at t1
 obtain⟨E1,Ep,E2,eE,u1,u2,t4⟩:=we hz t1
 rcases q1 with⟨hn0,⟨e6,h00⟩ | ⟨gg,cap,cur1,e6,hb0,hgc,hnc,hcm,hcs,htk⟩⟩
 ·omega
 have hgb:gg=b:=by
  rw[e6] at q2
  have:=q2.trans hφ
  simpa [Value.ownBlock] using this
 subst hgb
 rw[hg] at hgc
 cases hgc
 have hsz:(Ty.sl t).size=1:=rfl
 rw[hsz] at u1 u2 t4
 have hmul:(i.toNat+1) * u.size<=xs.length * u.size:=Nat.mul_le_mul_right _ hi'
 rw[Nat.succ_mul] at hmul
 have hcell:l0[i.toNat * u.size+off]? = some u0:=by
  rw[<-htk,List.getElem?_take,if_pos (by omega)]
  exact hu
 have hsub1:((l0.drop (i.toNat * u.size)).take u.size)[off]? = some u0:=by
  rw[List.getElem?_take,if_pos (by omega),List.getElem?_drop]
  exact hcell
 have hlen1:off<((l0.drop (i.toNat * u.size)).take u.size).length:=by
  rcases Nat.lt_or_ge off ((l0.drop (i.toNat * u.size)).take u.size).length with hh | hh
  ·exact hh
  ·rw[List.getElem?_eq_none hh] at hsub1;cases hsub1
 have hone:(((l0.drop (i.toNat * u.size)).take u.size).drop off).take 1=[u0]:=by
  rw[List.drop_eq_getElem_cons hlen1]
  rw[List.getElem?_eq_getElem hlen1] at hsub1
  cases hsub1
  rfl
 have hB0:∀x,(x∈B1\/x∈E1\/x∈E2\/x∈B2\/x∈Ep)->x∈B0:=by
  intro x hx
  rw[eB,eE]
  simp only[List.mem_append]
  rcases hx with h | h | h | h | h<;>simp[h]
 rw[hone] at u1
 have hnd0:=q4
 rw[eB,eE] at hnd0
 simp only[List.nodup_append,List.mem_append] at hnd0
 obtain⟨⟨n1,⟨⟨n2,n3,n4⟩,n5,n6⟩,n7⟩,n8,n9⟩:=hnd0
 refine⟨Ep,fun x hx=>q5 x (hB0 x (.inr (.inr (.inr (.inr hx))))),n3,u1,?_⟩
 intro w' ys z E' hz' hw hy hE hEp
 have hd:∀x,(x∈B1\/x∈E1\/x∈E2\/x∈B2)->x∉E':=by
  intro x hx hin
  rcases hEp x hin with hq | hq
  ·rcases hx with hx | hx | hx | hx
   ·exact n7 x hx x (.inl (.inr hq)) rfl
   ·exact n4 x hx x hq rfl
   ·exact n6 x (.inr hq) x hx rfl
   ·exact n9 x (.inr (.inl (.inr hq))) x hx rfl
  ·exact hq (.inr (q5 x (hB0 x (by grind))))
 have hnotEp:∀x,(x∈B1\/x∈E1\/x∈E2\/x∈B2)->x∉Ep:=by
  intro x hx hq
  rcases hx with hx | hx | hx | hx
  ·exact n7 x hx x (.inl (.inr hq)) rfl
  ·exact n4 x hx x hq rfl
  ·exact n6 x (.inr hq) x hx rfl
  ·exact n9 x (.inr (.inl (.inr hq))) x hx rfl
 have hkeep:∀x,(x∈B1\/x∈E1\/x∈E2\/x∈B2)->w'.heap[x]? = w.heap[x]?:=fun x hx=>hw x (.inr (q5 x (hB0 x (by grind)))) (hnotEp x hx)
 have hset:=t2 w' z _ _ (fun x hx=>hkeep x (by grind)) (t4 ys z hz' w' [u0] E' (fun x hx=>hkeep x (by grind)) hy)
 have hrow:l0.take (i.toNat * u.size)++(((l0.drop (i.toNat * u.size)).take u.size).take off++[u0]++((l0.drop (i.toNat * u.size)).take u.size).drop (off+1))++l0.drop (i.toNat * u.size+u.size)=l0:=by
  have e1:((l0.drop (i.toNat * u.size)).take u.size).take off++[u0]++((l0.drop (i.toNat * u.size)).take u.size).drop (off+1)=(l0.drop (i.toNat * u.size)).take u.size:=by
   rw[<-hone]
   have:((l0.drop (i.toNat * u.size)).take u.size).drop (off+1)=(((l0.drop (i.toNat * u.size)).take u.size).drop off).drop 1:=by rw[List.drop_drop]
   rw[this,List.append_assoc,List.take_append_drop,List.take_append_drop]
  rw[e1,List.append_assoc,<-List.drop_drop,List.take_append_drop,List.take_append_drop]
 rw[hrow] at hset
 refine⟨v0,e,l0,⟨by simpa using hn0,.inr ⟨gg,cap,cur,by rw[List.length_set];exact e6,hb0,?_,by simpa using hnc,hcm,hcs,by simpa using htk⟩⟩,q2,_,hset,?_,?_⟩
 ·rw[hw gg (.inl hφ) (fun hq=>h.apart id _ gg hl hφ (q5 gg (hB0 gg (by grind))))]
  exact hg
 ·simp only[List.nodup_append,List.mem_append]
  refine⟨⟨n1,⟨⟨n2,hE,?_⟩,n5,?_⟩,?_⟩,n8,?_⟩
  ·rintro x hx y hy rfl
   exact hd x (.inr (.inl hx)) hy
  ·rintro x hx y hy rfl
   rcases hx with hx | hx
   ·exact n6 x (.inl hx) x hy rfl
   ·exact hd x (.inr (.inr (.inl hy))) hx
  ·rintro x hx y hy rfl
   rcases hy with(hy | hy) | hy
   ·exact n7 x hx x (.inl (.inl hy)) rfl
   ·exact hd x (.inl hx) hy
   ·exact n7 x hx x (.inr hy) rfl
  ·rintro x hx y hy rfl
   rcases hx with hx | (hx | hx) | hx
   ·exact n9 x (.inl hx) x hy rfl
   ·exact n9 x (.inr (.inl (.inl hx))) x hy rfl
   ·exact hd x (.inr (.inr (.inr hy))) hx
   ·exact n9 x (.inr (.inr hx)) x hy rfl
 ·intro x hx
  simp only[List.mem_append] at hx ⊢
  rcases hx with(hx | (hx | hx) | hx) | hx
  ·exact .inr (q5 x (hB0 x (by grind)))
  ·exact .inr (q5 x (hB0 x (by grind)))
  ·exact .inl hx
  ·exact .inr (q5 x (hB0 x (by grind)))
  ·exact .inr (q5 x (hB0 x (by grind)))
theorem zl {w:World} {t:Ty} (hf:t.flat=true):∀{xs:List t.D} {cs:List Value} {B:List Nat},bG (Tree w t) xs cs B->B=[]
 | [],_,_,⟨_,eB⟩=>eB
 | _::_,_,_,⟨_,_,_,_,_,eB,h1,h2⟩=>by rw[eB,GQ hf h1,zl hf h2];rfl
theorem BA {t:Ty} {zs:List t.D} {u0:Value} {Ep:List Nat} (h:Tree w (.sl t) zs [u0] Ep) (hn:Ep.Nodup) :
  ∃r B,(∀b,(r=some b\/b∈B) ↔ b∈Ep)/\(∀b,r=some b->b∉B)/\(∃e l,w.rowOf 0 e t.size u0 zs.length l/\u0.ownBlock=r) ∧
   (∃v e0 l,w.rowOf 0 e0 t.size v zs.length l/\v.ownBlock=r/\∀I:Nat->Prop,fz (Dp.of (!t.flat)) w I B t zs l):=by
 obtain⟨A,c,eu,hc,h⟩:=h
 cases eu
 rcases h with⟨rfl,rfl,rfl,rfl⟩ | ⟨b,cur,e,B',rfl,rfl,hg,ht,h2,h3⟩
 ·refine⟨none,[],fun b=>(by simp),fun b hb=>(by cases hb),⟨0,[],World.jD w 0 0 t.size,rfl⟩,⟨.slice none 0 0,0,[],World.jD w 0 0 t.size,rfl,fun I=>?_⟩⟩
  cases hf:t.flat with
  | true=>exact⟨rfl,rfl⟩
  | false=>exact⟨[],⟨rfl,rfl⟩,List.nodup_nil,fun _ h=>h⟩
 ·obtain⟨hb,hn⟩:=List.nodup_cons.1 hn
  have hle:zs.length * t.size<=c * t.size:=Nat.mul_le_mul_right _ hc
  have hcl:cur.toList.length=cur.size:=Array.length_toList
  have hrow:w.rowOf 0 e t.size (.slice (some ⟨b,0,none⟩) zs.length c) zs.length (cur.toList.take (zs.length * t.size)):=⟨by rw[List.length_take];omega,.inr ⟨b,c,cur,rfl,Nat.zero_le _,hg,hc,h2,h3,rfl⟩⟩
  refine⟨some b,B',fun x=>by simp[eq_comm],fun x hx=>by cases hx;exact hb,⟨e,_,hrow,rfl⟩,⟨_,e,_,hrow,rfl,fun I=>?_⟩⟩
  cases hf:t.flat with
  | true=>
   have:=zl hf ht
   subst this
   exact⟨ht.Gq (fun _ hb=>by simp at hb),rfl⟩
  | false=>exact⟨B',ht,hn,fun _ h=>h⟩
theorem IW {w':World} {t:Ty} {zs ys:List t.D} {u0:Value} {r:Option Nat} {B B':List Nat} (hc:∃e l,w.rowOf 0 e t.size u0 zs.length l/\u0.ownBlock=r) (hlen:ys.length=zs.length)
  (k:IoLeft g φ s w w' r B B' (Dp.of (!t.flat)) t ys):∃E',Tree w' (.sl t) ys [u0] E'/\E'.Nodup/\∀b∈E',r=some b\/b∈B':=by
 obtain⟨e,l,ho,hr⟩:=hc
 obtain⟨l2,ho2⟩:=oc ho (fun b hb cur=>k.row b (hr▸hb) cur e)
 obtain⟨I,v,e0,l0,q1,q2,q3,q4⟩:=k.block
 have htree:∃B0,bG (Tree w' t) ys l0 B0/\B0.Nodup/\∀b∈B0,b∈B':=by
  cases hf:t.flat with
  | true=>
   rw[hf] at q3
   exact⟨[],bG.flat hf q3.1,List.nodup_nil,fun b hb=>by simp at hb⟩
  | false=>
   rw[hf] at q3
   exact q3
 obtain⟨B0,h1,h2,h3⟩:=htree
 obtain⟨E,t1,t2,t3⟩:=AD q1 q2 h1 h2 (fun b hb hin=>k.apart b hb (h3 b hin)) (Nat.le_refl _) (hlen▸ho2) hr
 rw[List.take_length] at t1
 exact⟨E,t1,t2,fun b hb=>(t3 b hb).imp (fun h=>h) (fun h=>h3 b h)⟩
theorem zZ {r:AV} {u:Value} {w w':World} {I S I' S':Nat->Prop} {φ φ':Names} {hp hp':Hp} (hf:r.zk=true) (hr:ak w I S φ hp r u):ak w' I' S' φ' hp' r u:=by
 unfold AV.zk at hf
 split at hf
 ·simp only[ak] at hr ⊢
  obtain⟨cs,q1,q2⟩:=hr
  exact⟨cs,rB hf q1,q2⟩
 ·simp only[ak,ax] at hr ⊢
  exact hr
 ·cases hf
theorem Js {f:FuncId} {con:Con} (hok:zR P f con) (h:Sim g N s a w φ) {v:AV} {args:List AV} {vals:List Value} (hv:ax w (imm g φ s.hp w.heap.size) (aM g) φ s.hp (v::args) vals)
  (hnb:AV.aR args=[]) (hop:cS (qx false s.hp con.par args) fun ws=>FJ con v ws s K) {Q:Prop} (hQ:¬Q) :
  Calls P f vals.toArray w (fun
   | .returned u,w'=>∃v s' φ',K v s'/\Sim g N s' a w' φ'/\ak w' (imm g φ' s'.hp w'.heap.size) (aM g) φ' s'.hp v u/\(Q->Turn w w' none)
   | _,_=>False):=by
 obtain⟨ws,hb,hop2⟩:=aJ hop
 clear hop
 have hop:=hop2
 clear hop2
 have hr0:∀id∈bI con.par args,id≠base/\lookup s.hp id=none:=fun id hi=>by have:=iP hi;rw[hnb] at this;simp at this
 simp only[ax] at hv
 obtain⟨u0,us,rfl,hv0,hvs⟩:=hv
 obtain⟨hws,_,_,hkw⟩:=kr h (gM.refl s) hr0 hvs hb
 have hkw:=hkw rfl
 have whole:∀{id:Nat} {e:Dp} {t:Ty} {xs:List t.D},lookup s.hp id=some (.arr e t xs)->ak w (imm g φ s.hp w.heap.size) (aM g) φ s.hp (.clp id (xs.length:Int)) u0 →
   con.run (.clp base (xs.length:Int)::ws) [(base,.arr e t xs)] (fun r h'=>xk e t r h' fun v ys=>ys.length=xs.length/\K v (s.cR id (.arr e t ys))) →
   Calls P f (u0::us).toArray w (fun
   | .returned u,w'=>∃v s' φ',K v s'/\Sim g N s' a w' φ'/\ak w' (imm g φ' s'.hp w'.heap.size) (aM g) φ' s'.hp v u/\(Q->Turn w w' none)
   | _,_=>False):=by
  intro id e t xs hl hv1 hop
  have hown:∀b,(φ id=some b\/b∈φ.sub id)->b<w.heap.size/\∃i blk,lookup s.hp i=some blk/\φ.eI i b:=fun b hb=>⟨(h.place id _ b hl hb).1,id,_,hl,hb⟩
  have hS0:=DU (g:=g) (φ:=φ) (s:=s) (w:=w) hown (fun b hb=>h.apart id _ b hl hb) (h.blocks id _ hl)
  have hargs:ax w (imm (Bu g φ s w (φ id) (φ.sub id)) (fN (φ id) (φ.sub id)) [(base,.arr e t xs)] w.heap.size) (aM (Bu g φ s w (φ id) (φ.sub id))) (fN (φ id) (φ.sub id)) [(base,.arr e t xs)] (.clp base (xs.length:Int)::ws) (u0::us):=by
   simp only[ax]
   refine⟨u0,us,rfl,?_,pN (Fi hown) (fun _ _ _=>rfl) _ _ hkw hws⟩
   simp only[ak] at hv1 ⊢
   intro blk hbl
   obtain⟨_,rfl⟩:=jA hbl
   obtain⟨d2,t2,x2,e2,q⟩:=hv1 _ hl
   cases e2
   exact⟨e,t,xs,rfl,by simpa [fN] using q⟩
  refine Calls.mono (hok (Bu g φ s w (φ id) (φ.sub id)) _ _ _ (fN (φ id) (φ.sub id)) (u0::us) hop hS0 hargs) ?_
  intro en w' hbk
  cases en with
  | returned u=>
   obtain⟨r,hp',φ',hK,hS',hr⟩:=hbk
   unfold xk at hK
   cases hf:r.zk with
   | false=>rw[hf] at hK;exact hK.elim
   | true=>
   rw[hf] at hK
   simp only[cond_true] at hK
   split at hK
   case h_2=>exact hK.elim
   rename_i d' t' ys hl'
   split at hK
   case h_2=>exact hK.elim
   rename_i hh _
   cases hh
   cases hde:Dp.same d' e with
   | false=>rw[hde] at hK;exact hK.elim
   | true=>
   rw[hde] at hK
   have hde:d'=e:=Dp.kU hde
   subst hde
   simp only[cond_true] at hK
   obtain⟨hlen,hK⟩:=hK
   have hk:=FZ hS' hl'
   exact⟨_,_,_,hK,IT h hl hlen hk,zZ hf hr,fun q=>(hQ q).elim⟩
  | panicked c=>exact hbk.elim
  | outgrown=>exact hbk.elim
 unfold FJ at hop
 split at hop
 ·rename_i id
  split at hop
  case h_2=>exact hop.elim
  rename_i d t xs hl
  refine whole hl ?_ hop
  simp only[ak] at hv0 ⊢
  intro blk hbl
  obtain⟨d2,t2,x2,rfl,eo,lo,ho,hb2⟩:=hv0 blk hbl
  rw[hl] at hbl
  cases hbl
  exact⟨d,t,xs,rfl,by omega,by omega,eo,lo,by simpa using ho,hb2⟩
 ·rename_i id hi
  split at hop
  case h_2=>exact hop.elim
  rename_i d t xs hl
  obtain⟨rfl,hop⟩:=hop
  exact whole hl hv0 hop
 ·rename_i id i off t
  split at hop
  case h_2=>exact hop.elim
  rename_i u xs hl
  obtain⟨zs,hz,hop⟩:=aJ hop
  obtain⟨Ep,o1,o2,o3,o4⟩:=IS h hl hv0 hz
  obtain⟨r,B,p1,p2,p3,p4⟩:=BA o3 o2
  have hsub:∀b,(r=some b\/b∈B)->b∈φ.sub id:=fun b hb=>o1 b ((p1 b).1 hb)
  have hown:∀b,(r=some b\/b∈B)->b<w.heap.size/\∃i blk,lookup s.hp i=some blk/\φ.eI i b:=fun b hb=>⟨(h.place id _ b hl (.inr (hsub b hb))).1,id,_,hl,.inr (hsub b hb)⟩
  have hS0:=DU (g:=g) (φ:=φ) (s:=s) (w:=w) hown p2 (by obtain⟨v,e0,l,k1,k2,k3⟩:=p4;exact⟨v,e0,l,k1,k2,k3 _⟩)
  have hargs:ax w (imm (Bu g φ s w r B) (fN r B) [(base,.arr (Dp.of (!t.flat)) t zs)] w.heap.size) (aM (Bu g φ s w r B)) (fN r B) [(base,.arr (Dp.of (!t.flat)) t zs)] (.clp base (zs.length:Int)::ws) (u0::us):=by
   simp only[ax]
   refine⟨u0,us,rfl,?_,pN (Fi hown) (fun _ _ _=>rfl) _ _ hkw hws⟩
   simp only[ak]
   intro blk hbl
   obtain⟨_,rfl⟩:=jA hbl
   obtain⟨e,l,z1,z2⟩:=p3
   exact⟨_,t,zs,rfl,by omega,by omega,e,l,by simpa using z1,by simpa [fN] using z2⟩
  refine Calls.mono (hok (Bu g φ s w r B) _ _ _ (fN r B) (u0::us) hop hS0 hargs) ?_
  intro en w' hbk
  cases en with
  | returned ur=>
   obtain⟨rr,hp',φ',hK,hS',hr⟩:=hbk
   unfold xk at hK
   cases hf:rr.zk with
   | false=>rw[hf] at hK;exact hK.elim
   | true=>
   rw[hf] at hK
   simp only[cond_true] at hK
   split at hK
   case h_2=>exact hK.elim
   rename_i d' t' ys hl'
   split at hK
   case h_2=>exact hK.elim
   rename_i hh _
   cases hh
   cases hde:Dp.same d' (Dp.of (!t.flat)) with
   | false=>rw[hde] at hK;exact hK.elim
   | true=>
   rw[hde] at hK
   have hde:d'=Dp.of (!t.flat):=Dp.kU hde
   subst hde
   simp only[cond_true] at hK
   obtain⟨hlen,hK⟩:=hK
   obtain⟨z,hz',hK⟩:=aJ hK
   have hk:=FZ hS' hl'
   obtain⟨E',m1,m2,m3⟩:=IW p3 hlen hk
   have hE:∀b∈E',b∈Ep\/w.heap.size<=b:=by
    intro b hb
    rcases m3 b hb with hb | hb
    ·exact .inl ((p1 b).1 (.inl hb))
    ·rcases(hk.sub b hb).2 with q | q
     ·exact .inr q
     ·exact .inl ((p1 b).1 q)
   have hlt:∀b∈E',b<w'.heap.size:=by
    intro b hb
    rcases m3 b hb with hb | hb
    ·exact Nat.lt_of_lt_of_le (hown b (.inl hb)).1 hk.turn.size
    ·exact(hk.sub b hb).1
   have hfreed:∀b,(r=some b\/b∈B)->qT s s φ id b:=fun b hb=>⟨id,_,hl,.inr (hsub b hb),.inl rfl⟩
   obtain⟨v,e0,l,k1,k2,k3⟩:=o4 w' _ z E' hz' (fun b hb hn=>hk.turn.block b (h.place id _ b hl hb).1 (fun q=>hn ((p1 b).1 q))) m1 m2 (fun b hb=>(hE b hb).imp (fun h=>h) (fun q hb=>by have:=(h.place id _ b hl hb).1;omega))
   refine⟨_,_,_,hK,h.qG (B:=E'++φ.sub id) (fu.refl s) hl (by simp) hk.turn hfreed (fun b hb=>?_) (fun b hφ hb=>?_) (fun b hφ cur e hg=>?_) (fun L=>⟨v,e0,l,k1,k2,k3⟩),?_,fun q=>(hQ q).elim⟩
   ·rcases List.mem_append.1 hb with hb | hb
    ·refine⟨hlt b hb,?_⟩
     rcases hE b hb with q | q
     ·exact⟨(h.place id _ b hl (.inr (o1 b q))).2,.inr ⟨id,_,hl,.inr (o1 b q),.inl rfl⟩⟩
     ·exact⟨.inl (.inl (Nat.le_trans h.hsize q)),.inl q⟩
    ·obtain⟨z1,z2⟩:=h.place id _ b hl (.inr hb)
     exact⟨Nat.lt_of_lt_of_le z1 hk.turn.size,z2,.inr ⟨id,_,hl,.inr hb,.inl rfl⟩⟩
   ·have hap:=h.apart id _ b hl hφ
    rcases List.mem_append.1 hb with hb | hb
    ·rcases hE b hb with q | q
     ·exact hap (o1 b q)
     ·have:=(h.place id _ b hl (.inl hφ)).1
      omega
    ·exact hap hb
   ·refine⟨cur,?_,rfl⟩
    rw[hk.turn.block b (h.place id _ b hl (.inl hφ)).1 (fun q=>h.apart id _ b hl hφ (hsub b q))]
    exact hg
   ·exact zZ hf hr
  | panicked c=>exact hbk.elim
  | outgrown=>exact hbk.elim
 ·exact hop.elim

theorem Gg (hC:eL P C) (h:Sim g N s a w φ) {f:FuncId} {args:List AV} {vals:List Value} {d:Nat} (hd:d≠base) (hv:ax w (imm g φ s.hp w.heap.size) (aM g) φ s.hp args vals)
  (hop:Ie C f args d s K):(∀args w,(callFunc f args).run P w=.ok (.enter f args) w)/\Calls P f vals.toArray w (fun
   | .returned u,w'=>∃v s' φ',K v s'/\Sim g N s' a w' φ'/\ak w' (imm g φ' s'.hp w'.heap.size) (aM g) φ' s'.hp v u ∧
     ((lookup C.inl f=none/\∃con,lookup C.cons f=some con/\(con.mode=.bor\/con.mode=.plain/\∃p,lg con.par args s=some p/\sB p.1=[]))->Turn w w' none)
   | _,_=>False):=by
 unfold Ie at hop
 cases hin:lookup C.inl f with
 | some T=>
  rw[hin] at hop
  obtain⟨hent,hok⟩:=hC.2 f T hin
  refine⟨hent,Calls.mono (hok g N s a w φ args vals K h hv hop) ?_⟩
  intro e w' he
  cases e with
  | returned u=>
   obtain⟨v,s',φ',h1,h2,h3⟩:=he
   exact⟨v,s',φ',h1,h2,h3,fun hq=>by cases hq.1⟩
  | panicked c=>exact he.elim
  | outgrown=>exact he.elim
 | none=>
 rw[hin] at hop
 simp only at hop
 obtain⟨con,hcon,hop⟩:=aJ hop
 obtain⟨hent,hok⟩:=hC.1 f con hcon
 refine⟨hent,?_⟩
 split at hop
 ·exact Gu hok h hd hv hop (fun q=>by cases q)
 ·rename_i hmode
  refine Gu hok h hd hv hop (fun _=>?_)
  rintro ⟨_,con2,hc2,q | ⟨q,_⟩⟩<;>rw[hcon] at hc2<;>cases hc2<;>rw[hmode] at q<;>cases q
 ·rename_i hmode
  split at hop
  ·rename_i v1 vs1 _
   split at hop
   case h_2=>exact hop.elim
   rename_i hnb
   refine Js hok h hv hnb hop ?_
   rintro ⟨_,con2,hc2,q | ⟨q,_⟩⟩<;>rw[hcon] at hc2<;>cases hc2<;>rw[hmode] at q<;>cases q
  ·exact hop.elim
 rename_i hmode
 obtain⟨p,hp,hop⟩:=aJ hop
 obtain⟨s1,hmv,hav,hfree⟩:=xU h hv (show lg con.par args s=some (p.1,p.2) from hp)
 split at hop
 ·rename_i hu
  have hno:∀v∈p.1,v.free=true:=by
   intro v hv
   rcases hfree v hv with q | ⟨i,o,rfl⟩
   ·exact q
   ·have:=uP (acc:=[]) (.inr (ua hv))
    rw[hu] at this
    cases this
  have hS0:Sim (cE g φ p.2 w none) 0 ⟨[],[]⟩ idle w sJ:=
   Jd
  have hI:∀b,imm g φ p.2.hp w.heap.size b->imm (cE g φ p.2 w none) sJ [] w.heap.size b:=AA s1 (fun _ _ _ h=>by simp[lookup] at h) (fun _ h=>by cases h)
  have hSt:=xW s1 (c:=none) (fun _ h=>by cases h)
  have hargs:∀{l:List AV} {vs:List Value},(∀v∈l,v.free=true)->ax w (imm g φ p.2.hp w.heap.size) (ja g φ p.2 w) φ p.2.hp l vs →
    ax w (imm (cE g φ p.2 w none) sJ [] w.heap.size) (aM (cE g φ p.2 w none)) sJ [] l vs:=by
   intro l
   induction l with
   | nil=>intro vs _ h;simpa only[ax] using h
   | cons x l ih=>
    intro vs hf h
    simp only[ax] at h ⊢
    obtain⟨u,us,rfl,h1,h2⟩:=h
    exact⟨u,us,rfl,sy hI (fun _ _ _=>rfl) hSt (fun _ _ _=>rfl) _ _ (hf x (by simp)) h1,ih (fun v hv=>hf v (by simp[hv])) h2⟩
  refine Calls.mono (hok (cE g φ p.2 w none) p.1 [] _ sJ vals hop hS0 (hargs hno hav)) ?_
  intro e w' hb
  cases e with
  | returned u=>
   obtain⟨r,hp',φ',hK,hS',hr⟩:=hb
   obtain⟨q,hq,hK⟩:=aJ hK
   have ht:Turn w w' none:=⟨hS'.os,hS'.tape,hS'.output,hS'.hsize,fun b hb _=>hS'.frame b hb (fun e=>by cases e)⟩
   obtain⟨φ2,r1,r2,r3,r4⟩:=Ek s1 hd hS' hr ht rfl (fun _ _=>rfl) (fun _ h=>by cases h) (show BR hp' d r p.2=some (q.1,q.2) from hq)
   exact⟨q.1,q.2,φ2,hK,r1,r3 q.2.hp fun id blk hl=>⟨blk,hl,fun _ _ _ e=>e⟩,fun _=>ht⟩
  | panicked c=>exact hb.elim
  | outgrown=>exact hb.elim
 ·rename_i i hu
  split at hop
  case h_2=>exact hop.elim
  rename_i cs hlb
  cases hpl:(ee cs&&!Nat.beq d i) with
  | false=>simp[hpl] at hop
  | true=>
  simp only[hpl,cond_true] at hop
  obtain⟨hpl,hdi⟩:=Bool.and_eq_true_iff.1 hpl
  have hdi:i≠d:=by rintro rfl;simp at hdi
  obtain⟨⟨b0,bvs,be,hφi,hgb,hcs,hone⟩,_⟩:=s1.blocks i _ hlb
  have hb0:b0<w.heap.size:=(s1.place i _ b0 hlb (.inl hφi)).1
  let φ0:Names:=⟨fun j=>if j=base then some b0 else none,fun _=>[]⟩
  have hlk0:∀j blk,lookup [(base,Block.box cs)] j=some blk->j=base/\blk=.box cs:=by
   intro j blk hj
   rw[lookup_cons] at hj
   split at hj
   ·rename_i e;cases hj;exact⟨e.symm,rfl⟩
   ·simp[lookup] at hj
  have hI:∀b,imm g φ p.2.hp w.heap.size b->imm (cE g φ p.2 w (some b0)) φ0 [(base,.box cs)] w.heap.size b:=by
   refine AA s1 (fun id blk b hl hb=>?_) (fun b hb=>by cases hb;exact⟨i,_,hlb,hφi⟩)
   obtain⟨rfl,_⟩:=hlk0 id blk hl
   simpa [φ0,Names.eI] using hb
  have hSt:=xW s1 (c:=some b0) (fun b hb=>by cases hb;exact⟨i,cs,hlb,hφi⟩)
  have hS0:Sim (cE g φ p.2 w (some b0)) 0 ⟨[],[(base,.box cs)]⟩ idle w φ0:=by
   refine⟨rfl,rfl,rfl,rfl,rfl,Nat.le_refl _,fun _ _ _=>rfl,?_,?_,?_,?_,fun _ _ h=>by simp[lookup] at h,?_⟩
   ·intro j k bj bk b hj hk _ _
    rw[(hlk0 j bj hj).1,(hlk0 k bk hk).1]
   ·intro j blk b _ _
    simp[φ0]
   ·intro j blk b hj hb
    obtain⟨rfl,rfl⟩:=hlk0 j blk hj
    simp only[Names.eI,φ0,if_true,Option.some.injEq,List.not_mem_nil,or_false] at hb
    subst hb
    exact⟨hb0,.inr ⟨rfl,rfl⟩⟩
   ·intro j blk hj
    obtain⟨rfl,rfl⟩:=hlk0 j blk hj
    exact⟨⟨b0,bvs,be,by simp[φ0],hgb,mJ hI (fun _ _ _=>rfl) hpl hcs,hone⟩,by simp[φ0]⟩
   ·intro blk _
    refine⟨by simp[φ0,cE],fun b hb=>?_⟩
    have hb:some b0=some b:=hb
    cases hb
    exact⟨hb0,fun cur e hg=>⟨cur,hg,rfl⟩⟩
  have hptr:∀j o,AV.ptr j o∈p.1->j=i:=by
   intro j o hj
   have:=uP (acc:=[]) (.inr (ua hj))
   rw[hu] at this
   simpa using this
  have hargs:∀{l:List AV} {vs:List Value},(∀v∈l,v.free=true\/∃i o,v=.ptr i o)->(∀j o,AV.ptr j o∈l->j=i)->ax w (imm g φ p.2.hp w.heap.size) (ja g φ p.2 w) φ p.2.hp l vs →
    ax w (imm (cE g φ p.2 w (some b0)) φ0 [(base,.box cs)] w.heap.size) (aM (cE g φ p.2 w (some b0))) φ0 [(base,.box cs)] (mo l) vs:=by
   intro l
   induction l with
   | nil=>intro vs _ _ h;simpa only[ax,mo] using h
   | cons x l ih=>
    intro vs hf hj h
    simp only[ax] at h
    obtain⟨u,us,rfl,h1,h2⟩:=h
    have ih:=ih (fun v hv=>hf v (by simp[hv])) (fun j o hm=>hj j o (by simp[hm])) h2
    by_cases hx:∃j o,x=.ptr j o
    ·obtain⟨j,o,rfl⟩:=hx
     simp only[mo,ax]
     refine⟨u,us,rfl,?_,ih⟩
     obtain rfl:=hj j o (by simp)
     simp only[ak] at h1 ⊢
     intro blk _
     obtain⟨b,e1,e2⟩:=h1 _ hlb
     rw[hφi] at e1
     cases e1
     exact⟨b0,by simp[φ0],e2⟩
    ·have hren:mo (x::l)=x::mo l:=by
      cases x<;>first | rfl | exact absurd ⟨_,_,rfl⟩ hx
     rw[hren]
     simp only[ax]
     exact⟨u,us,rfl,sy hI (fun _ _ _=>rfl) hSt (fun _ _ _=>rfl) _ _ ((hf x (by simp)).resolve_right hx) h1,ih⟩
  refine Calls.mono (hok (cE g φ p.2 w (some b0)) (mo p.1) [(base,.box cs)] _ φ0 vals hop hS0 (hargs hfree hptr hav)) ?_
  intro e w' hb
  cases e with
  | returned u=>
   obtain⟨r,hp',φ',hK,hS',hr⟩:=hb
   split at hK
   case h_2=>exact hK.elim
   rename_i cs' hlb'
   cases hpl':(Nat.beq cs'.length cs.length&&ee cs') with
   | false=>simp[hpl'] at hK
   | true=>
   simp only[hpl',cond_true] at hK
   obtain⟨q,hq,hK⟩:=aJ hK
   obtain⟨hlen,hpl'⟩:=Bool.and_eq_true_iff.1 hpl'
   have hφb:φ' base=some b0:=(hS'.pinned _ hlb').1
   have hf:∀b,b<w.heap.size->b≠b0->w'.heap[b]? = w.heap[b]?:=fun b hb hne=>hS'.frame b hb (fun e=>hne (by cases e;rfl))
   have hsz:w.heap.size<=w'.heap.size:=hS'.hsize
   let w1:World:={ w' with heap:=w'.heap.setIfInBounds b0 (.cells bvs be (0,0)) }
   have hw1:∀j,w1.heap[j]? = if b0=j/\j<w'.heap.size then some (.cells bvs be (0,0)) else w'.heap[j]?:=DL w' b0 _
   have hsz1:w1.heap.size=w'.heap.size:=by simp[w1]
   have ht1:Turn w w1 none:=by
    refine⟨hS'.os,hS'.tape,hS'.output,by rw[hsz1];exact hsz,fun b hb _=>?_⟩
    rw[hw1]
    by_cases hbb:b0=b
    ·subst hbb
     rw[if_pos ⟨rfl,by omega⟩,hgb]
    ·rw[if_neg (fun e=>hbb e.1)]
     exact hf b hb (fun e=>hbb e.symm)
   have ht2:Turn w1 w' (some b0):=by
    refine⟨rfl,rfl,rfl,by rw[hsz1];exact Nat.le_refl _,fun b hb hne=>?_⟩
    rw[hw1,if_neg (fun e=>hne (by rw[e.1]))]
   obtain⟨φ2,r1,r2,r3,r4⟩:=Ek s1 hd hS' hr ht1 hsz1 (fun b hne=>by rw[hw1,if_neg (fun e=>hne (by rw[e.1]))]) (fun b hb=>by cases hb;exact⟨hb0,base,_,hlb',hφb⟩)
    (show BR hp' d r p.2=some (q.1,q.2) from hq)
   obtain⟨e1,cs2,e2⟩:=r4 i cs hdi hlb
   have hlkF:∀id blk,lookup (q.2.setBlock i (.box cs')).hp id=some blk->∃blk0,lookup q.2.hp id=some blk0/\∀d t xs,blk0=.arr d t xs->blk=.arr d t xs:=by
    intro id blk hl
    simp only[St.setBlock,lookup_cons,bf] at hl
    by_cases hid:id=i
    ·subst hid
     exact⟨_,e2,fun d t xs e=>by cases e⟩
    ·have:¬i=id:=fun e=>hid e.symm
     simp only[hid,this,if_false] at hl
     exact⟨blk,hl,fun _ _ _ e=>e⟩
   obtain⟨⟨bb,vs',be',f1,f2,f3,f4⟩,_⟩:=hS'.blocks base _ hlb'
   rw[hφb] at f1
   cases f1
   have hSim:Sim g N (q.2.setBlock i (.box cs')) a w' φ2:=by
    refine r1.setBlock ht2 e2 (e1.trans hφi) (fun cur e hg=>?_) (fun _=>?_)
    ·rw[hw1,if_pos ⟨rfl,by omega⟩] at hg
     cases hg
     exact((hS'.pinned _ hlb').2 b0 rfl).2 bvs be hgb
    refine⟨⟨b0,vs',be',rfl,f2,mJ (fun b hb=>?_) (fun _ _ _=>rfl) hpl' f3,f4⟩,rfl⟩
    obtain⟨i1,i2,i3⟩:=r2 b hb
    refine⟨i1,i2,fun id blk hl=>?_⟩
    obtain⟨blk0,hq0,_⟩:=hlkF id blk hl
    exact i3 id blk0 hq0
   refine⟨q.1,q.2.setBlock i (.box cs'),φ2,hK,hSim,r3 _ hlkF,?_⟩
   rintro ⟨_,con2,hc2,q | ⟨_,p2,hp2,he2⟩⟩
   ·rw[hcon] at hc2
    cases hc2
    rw[hmode] at q
    cases q
   rw[hcon] at hc2
   cases hc2
   rw[hp] at hp2
   cases hp2
   rw[he2] at hu
   cases hu
  | panicked c=>exact hb.elim
  | outgrown=>exact hb.elim
 ·exact hop.elim
end
end Go.AE
