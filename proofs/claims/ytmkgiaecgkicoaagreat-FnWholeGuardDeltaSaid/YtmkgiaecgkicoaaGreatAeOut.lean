/- Values that go out with what they own. -/
import Derived.Test.YtmkgiaecgkicoaaGreatAeOpG
namespace Go.AE
open Go Go.RowKit
section
variable {P:Program} {C:Ctx} {g:Gl} {N:Nat} {s:St} {a:Act} {w:World} {φ:Names}
theorem Ah {I:Nat->Prop} {d:Dp} {r:Option Nat} {B:List Nat} {t:Ty} {xs:List t.D} (h:∃v e l,w.rowOf 0 e t.size v xs.length l/\v.ownBlock=r/\fz d w I B t xs l) {n:Nat} (hn:n<=xs.length) :
  ∃v e l,w.rowOf 0 e t.size v (xs.take n).length l/\v.ownBlock=r/\fz d w I B t (xs.take n) l:=by
 obtain⟨v,e,l,ho,hb,hl⟩:=h
 have hlen:(xs.take n).length=n:=by rw[List.length_take];omega
 have hel:fz d w I B t (xs.take n) (l.take (n * t.size)):=by
  cases d with
  | sh=>exact⟨hl.1.take n,hl.2⟩
  | dp=>
   obtain⟨B0,q1,q2,q3⟩:=hl
   obtain⟨E,F,rfl,q4⟩:=q1.take n
   exact⟨E,q4,(List.nodup_append.1 q2).1,fun b hb=>q3 b (List.mem_append_left _ hb)⟩
  | ho i off=>
   obtain⟨B0,q1,q2,q3⟩:=hl
   obtain⟨E,F,rfl,q4⟩:=q1.take n
   refine⟨E,?_,(List.nodup_append.1 q2).1,fun b hb=>q3 b (List.mem_append_left _ hb)⟩
   rw[<-List.take_set]
   exact q4
 rcases ho with⟨hll,⟨rfl,h0⟩ | ⟨gg,cap,cur,rfl,h0,hg,hnc,hcm,hcs,htk⟩⟩
 ·have:n=0:=by omega
  subst this
  exact⟨_,e,_,⟨by simp,.inl ⟨rfl,by simp⟩⟩,hb,hel⟩
 ·have hle:n * t.size<=xs.length * t.size:=Nat.mul_le_mul_right _ hn
  refine⟨.slice (some ⟨gg,0,none⟩) (xs.take n).length cap,e,_,⟨?_,.inr ⟨gg,cap,cur,rfl,h0,hg,by omega,hcm,hcs,?_⟩⟩,hb,hel⟩
  ·rw[List.length_take,hlen,hll];omega
  ·rw[hlen,<-htk,List.take_take]
   congr 1
   omega
theorem mq {I:Nat->Prop}:∀{l:List AV} {n:Nat} {s:St} {vs:List AV} {h:Hp} {us:List Value},Sim g N s a w φ->ax w I (aM g) φ s.hp l us->eJ n l s=some (vs,h) →
  ∃(ψ:Names) (src:Nat->Nat),(∀j blk',lookup h j=some blk'->n<=j/\j≠base/\src j≠base/\src j∈AV.aR l/\∃e t xs k,lookup s.hp (src j)=some (.arr e t xs)/\k<=xs.length/\blk'=.arr e t (xs.take k)/\ψ j=φ (src j)/\ψ.sub j=φ.sub (src j)) ∧
   (∀i j bi bj,lookup h i=some bi->lookup h j=some bj->src i=src j->i=j) ∧
   (∀(hF:Hp) (ψF:Names) (J S':Nat->Prop),(∀j,n<=j->lookup hF j=lookup h j/\ψF j=ψ j/\ψF.sub j=ψ.sub j)->(∀b,I b->J b)->ax w J S' ψF hF vs us)
 | [],n,s,vs,h,us,hs,hv,ho=>by
  simp only[eJ,Option.some.injEq,Prod.mk.injEq] at ho
  obtain⟨rfl,rfl⟩:=ho
  simp only[ax] at hv
  subst hv
  exact⟨φ,fun j=>j,fun j blk' hj=>by simp[lookup] at hj,fun i j bi bj hi=>by simp[lookup] at hi,fun _ _ _ _ _ _=>by simp[ax]⟩
 | v::l,n,s,vs,h,us,hs,hv,ho=>by
  simp only[ax] at hv
  obtain⟨u,us',rfl,hv,hvs⟩:=hv
  -- a name goes out
  have own:∀{id:Nat} {e:Dp} {t:Ty} {xs:List t.D} {k:Nat} {v':AV} {vs':List AV} {h':Hp},id∈v.refs->id≠base->n≠base->lookup s.hp id=some (.arr e t xs)->k<=xs.length->eJ (n+1) l (s.drop id)=some (vs',h') →
    (∀(hF:Hp) (ψF:Names) (J S':Nat->Prop),lookup hF n=some (.arr e t (xs.take k))->ψF n=φ id->ak w J S' ψF hF v' u)->vs=v'::vs'->h=(n,.arr e t (xs.take k))::h' →
    ∃(ψ:Names) (src:Nat->Nat),(∀j blk',lookup h j=some blk'->n<=j/\j≠base/\src j≠base/\src j∈AV.aR (v::l)/\∃e t xs k,lookup s.hp (src j)=some (.arr e t xs)/\k<=xs.length/\blk'=.arr e t (xs.take k)/\ψ j=φ (src j)/\ψ.sub j=φ.sub (src j)) ∧
     (∀i j bi bj,lookup h i=some bi->lookup h j=some bj->src i=src j->i=j) ∧
     (∀(hF:Hp) (ψF:Names) (J S':Nat->Prop),(∀j,n<=j->lookup hF j=lookup h j/\ψF j=ψ j/\ψF.sub j=ψ.sub j)->(∀b,I b->J b)->ax w J S' ψF hF vs (u::us')):=by
   intro id e t xs k v' vs' h' hmem hid hnb hl hk ht hv' e1 e2
   have hs':Sim g N (s.drop id) a w φ:=hs.less (fun _ _ h=>h) (fun j b hj=>by
    rw[ic] at hj
    split at hj
    ·cases hj
    ·exact hj)
   have hvs':ax w I (aM g) φ (s.drop id).hp l us':=by
    refine ax.later ⟨fun _ h=>h,fun _ _ _=>rfl,fun _ h=>h,fun _ _ _=>rfl,fun i blk' hi=>?_⟩ _ _ hvs
    obtain⟨b0,h0,e0,_⟩:=wF s id i blk' hi
    exact⟨b0,h0,rfl,fun d t xs e=>⟨d,xs,e0 d t xs e,rfl⟩,fun _ _ _=>rfl⟩
   obtain⟨ψ,src,q1,q2,q3⟩:=mq hs' hvs' ht
   subst e1
   subst e2
   have hdrop:∀{j:Nat} {blk:Block},lookup (s.drop id).hp j=some blk->j≠id/\lookup s.hp j=some blk:=by
    intro j blk hj
    rw[ic] at hj
    split at hj
    ·cases hj
    ·rename_i hne;exact⟨hne,hj⟩
   refine⟨bp ψ n (φ id) (φ.sub id),fun j=>if j=n then id else src j,?_,?_,?_⟩
   ·intro j blk' hj
    rw[lookup_cons] at hj
    by_cases hjn:n=j
    ·subst hjn
     simp only[if_true,Option.some.injEq] at hj
     subst hj
     exact⟨Nat.le_refl _,hnb,by simpa using hid,by simpa [AV.aR] using .inl hmem,e,t,xs,k,by simpa using hl,hk,rfl,by simp[bp],by simp[bp]⟩
    ·rw[if_neg hjn] at hj
     obtain⟨r1,r2,r3,rm,e',t',xs',k',r4,r5,r6,r7,r8⟩:=q1 j blk' hj
     have hne:¬j=n:=fun e=>hjn e.symm
     refine⟨by omega,r2,by simpa [hne] using r3,by simpa [hne,AV.aR] using .inr rm,e',t',xs',k',by simpa [hne] using (hdrop r4).2,r5,r6,by simpa [bp,hne] using r7,by simpa [bp,hne] using r8⟩
   ·intro i j bi bj hi hj hij
    rw[lookup_cons] at hi hj
    by_cases hin:n=i
    ·by_cases hjn:n=j
     ·omega
     ·exfalso
      rw[if_neg hjn] at hj
      have hne:¬j=n:=fun e=>hjn e.symm
      simp only[<-hin,if_true,if_neg hne] at hij
      obtain⟨_,_,_,_,e',t',xs',k',r4,_⟩:=q1 j bj hj
      exact(hdrop r4).1 hij.symm
    ·rw[if_neg hin] at hi
     have hne:¬i=n:=fun e=>hin e.symm
     by_cases hjn:n=j
     ·exfalso
      simp only[<-hjn,if_true,if_neg hne] at hij
      obtain⟨_,_,_,_,e',t',xs',k',r4,_⟩:=q1 i bi hi
      exact(hdrop r4).1 hij
     ·rw[if_neg hjn] at hj
      have hne2:¬j=n:=fun e=>hjn e.symm
      simp only[if_neg hne,if_neg hne2] at hij
      exact q2 i j bi bj hi hj hij
   ·intro hF ψF J S' hF1 hI
    simp only[ax]
    refine⟨u,us',rfl,?_,?_⟩
    ·obtain⟨f1,f2,_⟩:=hF1 n (Nat.le_refl _)
     refine hv' hF ψF _ _ (by rw[f1,lookup_cons,if_pos rfl]) (by rw[f2];simp[bp])
    ·refine q3 hF ψF J S' (fun j hj=>?_) hI
     obtain⟨f1,f2,f3⟩:=hF1 j (by omega)
     have hne:¬j=n:=by omega
     have hne2:¬n=j:=by omega
     rw[lookup_cons,if_neg hne2] at f1
     exact⟨f1,by rw[f2];simp[bp,hne],by rw[f3];simp[bp,hne]⟩
  -- a value goes out
  have val:∀{vs':List AV},eJ n l s=some (vs',h)->(∀(hF:Hp) (ψF:Names) (J S':Nat->Prop),(∀b,I b->J b)->ak w J S' ψF hF v u)->vs=v::vs' →
    ∃(ψ:Names) (src:Nat->Nat),(∀j blk',lookup h j=some blk'->n<=j/\j≠base/\src j≠base/\src j∈AV.aR (v::l)/\∃e t xs k,lookup s.hp (src j)=some (.arr e t xs)/\k<=xs.length/\blk'=.arr e t (xs.take k)/\ψ j=φ (src j)/\ψ.sub j=φ.sub (src j)) ∧
     (∀i j bi bj,lookup h i=some bi->lookup h j=some bj->src i=src j->i=j) ∧
     (∀(hF:Hp) (ψF:Names) (J S':Nat->Prop),(∀j,n<=j->lookup hF j=lookup h j/\ψF j=ψ j/\ψF.sub j=ψ.sub j)->(∀b,I b->J b)->ax w J S' ψF hF vs (u::us')):=by
   intro vs' ht hv' e1
   subst e1
   obtain⟨ψ,src,q1,q2,q3⟩:=mq hs hvs ht
   refine⟨ψ,src,fun j blk' hj=>?_,q2,fun hF ψF J S' h1 h2=>?_⟩
   ·obtain⟨r1,r2,r3,rm,rr⟩:=q1 j blk' hj
    exact⟨r1,r2,r3,by simpa [AV.aR] using .inr rm,rr⟩
   simp only[ax]
   exact⟨u,us',rfl,hv' hF ψF J S' h2,q3 hF ψF J S' h1 h2⟩
  unfold eJ at ho
  split at ho
  ·rename_i id
   obtain⟨hb,ho⟩:=vK ho
   obtain⟨hb1,hb2⟩:=Bool.or_eq_false_iff.1 hb
   have hid:id≠base:=by rintro rfl;simp at hb1
   have hnb:n≠base:=by rintro rfl;simp at hb2
   split at ho
   case h_2=>cases ho
   rename_i e t xs hl
   split at ho
   case h_2=>cases ho
   rename_i vs' h' ht
   simp only[Option.some.injEq,Prod.mk.injEq] at ho
   obtain⟨rfl,rfl⟩:=ho
   refine own (k:=xs.length) (by simp[AV.refs]) hid hnb hl (Nat.le_refl _) ht (fun hF ψF J S' f1 f2=>?_) rfl (by rw[List.take_length])
   simp only[ak] at hv ⊢
   intro blk hblk
   rw[f1] at hblk
   cases hblk
   obtain⟨d2,t2,x2,e2,ho⟩:=hv _ hl
   cases e2
   exact⟨e,t,_,rfl,by rw[f2,List.take_length];exact ho⟩
  ·rename_i id lo hi
   cases hbb:(decide (lo=0)&&!(Nat.beq id base||Nat.beq n base)) with
   | false=>rw[hbb] at ho;cases ho
   | true=>
   rw[hbb] at ho
   simp only[cond_true] at ho
   obtain⟨hb0,hb⟩:=Bool.and_eq_true_iff.1 hbb
   have hlo:lo=0:=of_decide_eq_true hb0
   subst hlo
   clear hbb
   have hb:(Nat.beq id base||Nat.beq n base)=false:=by simpa using hb
   obtain⟨hb1,hb2⟩:=Bool.or_eq_false_iff.1 hb
   have hid:id≠base:=by rintro rfl;simp at hb1
   have hnb:n≠base:=by rintro rfl;simp at hb2
   split at ho
   case h_2=>cases ho
   rename_i e t xs hl
   split at ho
   case h_2=>cases ho
   rename_i vs' h' ht
   simp only[Option.some.injEq,Prod.mk.injEq] at ho
   obtain⟨rfl,rfl⟩:=ho
   simp only[ak] at hv
   obtain⟨d2,t2,x2,e2,g1,g2,g0,A,c,g3,g4,g5,g6⟩:=hv _ hl
   cases e2
   refine own (k:=hi.toNat) (by simp[AV.refs]) hid hnb hl (by omega) ht (fun hF ψF J S' f1 f2=>?_) rfl rfl
   simp only[ak]
   intro blk hblk
   rw[f1] at hblk
   cases hblk
   have hlen:(xs.take hi.toNat).length=hi.toNat:=by rw[List.length_take];omega
   obtain⟨e5,l5,k1,k2⟩:=g5 rfl
   exact⟨e,t,_,rfl,by rw[f2,hlen];exact⟨e5,l5,k1,k2⟩⟩
  ·rename_i id hi
   obtain⟨hb,ho⟩:=vK ho
   obtain⟨hb1,hb2⟩:=Bool.or_eq_false_iff.1 hb
   have hid:id≠base:=by rintro rfl;simp at hb1
   have hnb:n≠base:=by rintro rfl;simp at hb2
   split at ho
   case h_2=>cases ho
   rename_i e t xs hl
   split at ho
   case h_2=>cases ho
   rename_i vs' h' ht
   simp only[Option.some.injEq,Prod.mk.injEq] at ho
   obtain⟨rfl,rfl⟩:=ho
   simp only[ak] at hv
   obtain⟨d2,t2,x2,e2,g1,g2,e5,l5,k1,k2⟩:=hv _ hl
   cases e2
   refine own (k:=hi.toNat) (by simp[AV.refs]) hid hnb hl (by omega) ht (fun hF ψF J S' f1 f2=>?_) rfl rfl
   simp only[ak]
   intro blk hblk
   rw[f1] at hblk
   cases hblk
   have hlen:(xs.take hi.toNat).length=hi.toNat:=by rw[List.length_take];omega
   have e3:(((xs.take hi.toNat).length:Nat):Int)=hi:=by rw[hlen];omega
   refine⟨e,t,_,rfl,?_⟩
   rw[e3,f2]
   exact⟨g1,by omega,e5,l5,k1,k2⟩
  ·obtain⟨hb,ho⟩:=cT ho
   split at ho
   case h_2=>cases ho
   rename_i vs' h' ht
   simp only[Option.some.injEq,Prod.mk.injEq] at ho
   obtain⟨rfl,rfl⟩:=ho
   exact val ht (fun hF ψF J S' h2=>nt h2 (fun _ _ _=>rfl) _ _ hb hv) rfl
theorem Sim.out (h:Sim g N s a w φ) {l vs:List AV} {us:List Value} {hp:Hp} (hv:ax w (imm g φ s.hp w.heap.size) (aM g) φ s.hp l us) (ho:eJ 0 l s=some (vs,hp)) :
  ∃ ψ,Sim g 0 ⟨[],hp⟩ idle w ψ/\ax w (imm g ψ hp w.heap.size) (aM g) ψ hp vs us:=by
 obtain⟨ψ,src,q1,q2,q3⟩:=mq h hv ho
 have howns:∀{j b blk},lookup hp j=some blk->ψ.eI j b->φ.eI (src j) b:=by
  intro j b blk hj hb
  obtain⟨_,_,_,_,e,t,xs,k,_,_,_,r7,r8⟩:=q1 j blk hj
  unfold Names.eI at hb ⊢
  rw[<-r7,<-r8]
  exact hb
 have himm:∀b,imm g φ s.hp w.heap.size b->imm g ψ hp w.heap.size b:=by
  rintro b ⟨h1,h2,h3⟩
  refine⟨h1,h2,fun j blk hj hb=>?_⟩
  obtain⟨_,_,_,_,e,t,xs,k,r4,_⟩:=q1 j blk hj
  exact h3 _ _ r4 (howns hj hb)
 refine⟨ψ,⟨rfl,rfl,h.os,h.tape,h.output,h.hsize,h.frame,?_,?_,?_,?_,fun _ _ e=>by simp[lookup] at e,?_⟩,q3 hp ψ _ _ (fun j _=>⟨rfl,rfl,rfl⟩) himm⟩
 ·intro i j bi bj b hi hj ei ej
  obtain⟨_,_,_,_,e,t,xs,k,r4,_⟩:=q1 i bi hi
  obtain⟨_,_,_,_,e',t',xs',k',r4',_⟩:=q1 j bj hj
  exact q2 i j bi bj hi hj (h.inj _ _ _ _ b r4 r4' (howns hi ei) (howns hj ej))
 ·intro j blk b hj hb
  obtain⟨_,_,_,_,e,t,xs,k,r4,_,_,r7,r8⟩:=q1 j blk hj
  rw[r8]
  rw[r7] at hb
  exact h.apart _ _ b r4 hb
 ·intro j blk b hj hb
  obtain⟨_,_,r3,_,e,t,xs,k,r4,_⟩:=q1 j blk hj
  obtain⟨p1,p2⟩:=h.place _ _ b r4 (howns hj hb)
  exact⟨p1,.inl (p2.resolve_right (fun q=>r3 q.2))⟩
 ·intro j blk hj
  obtain⟨_,_,_,_,e,t,xs,k,r4,r5,rfl,r7,r8⟩:=q1 j blk hj
  rw[r7,r8]
  obtain⟨v,e0,l0,s1,s2,s3⟩:=h.blocks _ _ r4
  exact Ah ⟨v,e0,l0,s1,s2,s3.later himm (fun _ _ _=>rfl) (fun _ _=>rfl)⟩ r5
 ·intro blk hj
  exact absurd rfl (q1 base blk hj).2.1
end
end Go.AE
