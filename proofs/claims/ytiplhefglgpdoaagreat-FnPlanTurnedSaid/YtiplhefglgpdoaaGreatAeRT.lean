/- Plans that are turned yield the same rows: plain Lean. -/
import Derived.Test.YtiplhefglgpdoaaGreatAeMV
import Derived.Test.YtiplhefglgpdoaaGreatAeMU
import Derived.Test.YtiplhefglgpdoaaGreatAeEqH
section
namespace Go.AE
open Go Go.RowKit
set_option linter.unusedVariables false
namespace M
@[reducible] def TRs:Ty:=.sl (.sl aa)
theorem ua (tables:List az.D):∀(ys:List ah.D) (all:List (List (List aa.D))) {k:Int},0<=k->k<(all.length:Int)->nth (t:=TRs) (ys.foldl (eC tables) all) k=nth (t:=TRs) all k
 | [],_,_,_,_=>rfl
 | y::ys,all,k,k0,k1=>by
  rw[List.foldl_cons,ua tables ys _ k0 (by unfold eC;simp;omega)]
  exact mH (t:=TRs) k0 k1
theorem mX (tables:List az.D) (xs ys:List ah.D) {k:Int} (k0:0<=k) (k1:k<(xs.length:Int)):nth (t:=TRs) (cq tables (xs++ys)) k=nth (t:=TRs) (cq tables xs) k:=by
 unfold cq
 rw[List.foldl_append]
 refine ua tables ys _ k0 ?_
 have:=xl tables xs
 unfold cq at this
 rw[this]
 exact k1
theorem BP {tables:List az.D} {a b:List (List (List aa.D))} {s:ah.D} {n:Int} (hs:mN n s) (h:∀k:Int,0<=k->k<n->nth (t:=TRs) a k=nth (t:=TRs) b k):bQ tables a s=bQ tables b s:=
 zM rfl rfl (fun k1=>h _ (hs k1).1.1 (hs k1).1.2) (fun ht=>h _ (hs (EC ht)).2.1 (hs (EC ht)).2.2)
theorem tR {tables:List az.D} {plan:List ah.D} (hrf:BC plan) {i:Int} (i0:0<=i) (i1:i<(plan.length:Int)) :
  nth (t:=TRs) (cq tables plan) i=bQ tables (cq tables plan) (nth (t:=ah) plan i):=by
 have hk:i.toNat<plan.length:=by omega
 have e:plan=(plan.take i.toNat++[nth (t:=ah) plan i])++plan.drop (i.toNat+1):=by
  have:=take_one hk
  rw[show ((i.toNat:Nat):Int)=i by omega] at this
  rw[<-this,List.take_append_drop]
 have hl:(plan.take i.toNat).length=i.toNat:=by rw[List.length_take];omega
 have h1:nth (t:=TRs) (cq tables plan) i=nth (t:=TRs) (cq tables (plan.take i.toNat++[nth (t:=ah) plan i])) i:=by
  conv=>lhs;rw[e]
  exact mX tables _ _ i0 (by rw[List.length_append,hl];simp;omega)
 rw[h1,BW,qN (t:=TRs) (by rw[xl,hl];omega)]
 refine BP (hrf.2 i i0 i1) fun k k0 k1=>?_
 have h2:nth (t:=TRs) (cq tables plan) k=nth (t:=TRs) (cq tables (plan.take i.toNat)) k:=by
  conv=>lhs;rw[show plan=plan.take i.toNat++plan.drop i.toNat by rw[List.take_append_drop]]
  exact mX tables _ _ k0 (by rw[hl];omega)
 exact h2.symm
theorem Fk {tables:List az.D} {plan:List ah.D} (hp:bB tables plan=true) {i:Int} (i0:0<=i) (i1:i<(plan.length:Int)):∃a c,bN tables a (nth (t:=ah) plan i)=some c:=by
 unfold bB at hp
 have h:=(Bool.and_eq_true_iff.1 hp).1
 unfold cn at h
 cases hr:kz tables plan with
 | none=>rw[hr] at h;cases h
 | some st=>
  obtain⟨a,h1,_,_⟩:=zg plan ([],[]) st hr i i0 i1
  exact⟨a,_,h1⟩
theorem Bi {t:Ty} {xs ys:List t.D} {n i:Int} (h:n=(xs.length:Int)) (h0:0<=i):nth (t:=t) (xs++ys) (n+i)=nth (t:=t) ys i:=by
 subst h
 unfold nth
 rw[List.getD_eq_getElem?_getD,List.getD_eq_getElem?_getD,List.getElem?_append_right (by omega)]
 rw[show ((xs.length:Int)+i).toNat-xs.length=i.toNat by omega]
theorem Gr {t:Ty} {xs:List t.D} {n:Nat} {i:Int} (h0:0<=i) (h1:i<(n:Int)):nth (t:=t) (xs.take n) i=nth (t:=t) xs i:=by
 unfold nth
 rw[List.getD_eq_getElem?_getD,List.getD_eq_getElem?_getD,List.getElem?_take_of_lt (by omega)]
theorem GU {t:Ty} {xs:List t.D} {n:Nat} {i:Int} (h0:0<=i):nth (t:=t) (xs.drop n) i=nth (t:=t) xs ((n:Int)+i):=by
 unfold nth
 rw[List.getD_eq_getElem?_getD,List.getD_eq_getElem?_getD,List.getElem?_drop]
 rw[show ((n:Int)+i).toNat=n+i.toNat by omega]
theorem HJ {f:ah.D->ah.D} {xs:List ah.D} {i:Int} (h0:0<=i) (h1:i<(xs.length:Int)):nth (t:=ah) (xs.map f) i=f (nth (t:=ah) xs i):=by
 rw[lq (t:=ah) h0 (by rw[List.length_map];exact h1),lq (t:=ah) h0 h1,List.getElem_map]
section
variable {plan new:List ah.D} {a:Nat} (ha:a<plan.length)
include ha
theorem Ff:(bY plan (a:Int) new).length=plan.length+new.length-1:=by
 unfold bY
 simp only[List.length_append,List.length_take,List.length_map,List.length_drop,Int.toNat_natCast]
 omega
theorem Ix {i:Int} (i0:0<=i) (i1:i<(new.length:Int)):nth (t:=ah) (bY plan (a:Int) new) ((a:Int)+i)=nth (t:=ah) new i:=by
 unfold bY
 have hl:(plan.take (a:Int).toNat).length=a:=by rw[List.length_take];omega
 rw[List.append_assoc,Bi (t:=ah) (by rw[hl]) i0]
 exact mH (t:=ah) i0 i1
theorem FX {k:Int} (k0:(a:Int)<k) (k1:k<(plan.length:Int)):nth (t:=ah) (bY plan (a:Int) new) (k+((new.length:Int)-1))=shift (a:Int) (wrap64 ((new.length:Int)-1)) (nth (t:=ah) plan k):=by
 unfold bY
 have hl:(plan.take (a:Int).toNat++new).length=a+new.length:=by rw[List.length_append,List.length_take];omega
 rw[show k+((new.length:Int)-1)=((a+new.length:Nat):Int)+(k-a-1) by omega,Bi (t:=ah) (by rw[hl]) (by omega),HJ (by omega) (by rw[List.length_drop];omega),GU (t:=ah) (by omega)]
 rw[show (((a:Int).toNat+1:Nat):Int)+(k-a-1)=k by omega]
theorem EH {tables:List az.D} {k:Int} (k0:0<=k) (k1:k<(a:Int)):nth (t:=TRs) (cq tables (bY plan (a:Int) new)) k=nth (t:=TRs) (cq tables plan) k:=by
 have hl:(plan.take a).length=a:=by rw[List.length_take];omega
 have h1:nth (t:=TRs) (cq tables plan) k=nth (t:=TRs) (cq tables (plan.take a)) k:=by
  conv=>lhs;rw[show plan=plan.take a++plan.drop a by rw[List.take_append_drop]]
  exact mX tables _ _ k0 (by rw[hl];exact k1)
 rw[h1]
 unfold bY
 rw[List.append_assoc]
 exact mX tables _ _ k0 (by show k<((plan.take a).length:Int);rw[hl];exact k1)
theorem Eg {tables:List az.D} (hrf:BC plan) (hrq:BC (bY plan (a:Int) new)) (h6:plan.length<=6) (hn:0<new.length) (h3:new.length<=3)
  (hB:nth (t:=TRs) (cq tables (bY plan (a:Int) new)) ((a:Int)+((new.length:Int)-1))=nth (t:=TRs) (cq tables plan) (a:Int)) :
  ∀(n:Nat) (k:Int),k=(a:Int)+n->k<(plan.length:Int)->nth (t:=TRs) (cq tables (bY plan (a:Int) new)) (k+((new.length:Int)-1))=nth (t:=TRs) (cq tables plan) k:=by
 intro n
 induction n using Nat.strongRecOn with
 | ind n ih=>
  intro k hk k1
  by_cases hn0:n=0
  ·rw[show k=(a:Int) by omega]
   exact hB
  have hak:(a:Int)<k:=by omega
  have hql:=Ff (new:=new) ha
  rw[tR hrq (by omega) (by omega),tR hrf (by omega) k1,FX ha hak k1]
  have hin:=hrf.2 k (by omega) k1
  generalize nth (t:=ah) plan k=s at *
  have hw:wrap64 ((new.length:Int)-1)=(new.length:Int)-1:=aI (by omega) (by omega)
  have to:∀z:Int,0<=z->z<k->nth (t:=TRs) (cq tables (bY plan (a:Int) new)) (cond (decide ((a:Int)<=z)) (wrap64 (z+((new.length:Int)-1))) z)=nth (t:=TRs) (cq tables plan) z:=by
   intro z z0 z1
   by_cases hz:(a:Int)<=z
   ·rw[decide_eq_true hz,cond_true,aI (by omega) (by omega)]
    exact ih (z-a).toNat (by omega) z (by omega) (by omega)
   ·rw[decide_eq_false hz,cond_false]
    exact EH ha z0 (by omega)
  rw[hw]
  refine zM rfl rfl (fun q=>?_) (fun q=>?_)
  ·have:=to _ (hin q).1.1 (hin q).1.2
   rw[<-this]
   unfold shift
   simp only
   rw[decide_eq_false q,Bool.not_false,Bool.true_and]
  ·have q1:=EC q
   have:=to _ (hin q1).2.1 (hin q1).2.2
   rw[<-this]
   unfold shift
   simp only
   rw[q,Bool.true_and]
end
theorem wT {s j:ah.D} {a rule:Int} (h:0<(gm s j a rule).length) :
  (s.1=(2:Int)/\j.1=(2:Int)/\gm s j a rule=[mkS 2 j.2.1 0 (fS j.2.2.2.2.1 s.2.2.2.2.1) []]) ∨
  (s.1=(2:Int)/\j.1=(4:Int)/\gm s j a rule=[mkS 4 j.2.1 j.2.2.1 (fS j.2.2.2.2.1 s.2.2.2.2.1) []]) ∨
  (s.1=(2:Int)/\j.1=(3:Int)/\gm s j a rule=[mkS 2 j.2.1 0 (lJ s.2.2.2.2.1 j.2.2.2.2.2.1) [],mkS 3 a 0 [] j.2.2.2.2.2.1]) ∨
  (s.1=(2:Int)/\j.1=(6:Int)/\gm s j a rule=[mkS 2 j.2.1 0 s.2.2.2.2.1 [],mkS 6 a 0 [] []]) ∨
  (s.1=(2:Int)/\j.1=(5:Int)/\gm s j a rule=[mkS 2 j.2.1 0 s.2.2.2.2.1 [],mkS 2 j.2.2.1 0 s.2.2.2.2.1 [],mkS 5 a (wrap64 (a+(1:Int))) [] []]) ∨
  (s.1=(3:Int)/\j.1=(3:Int)/\gm s j a rule=[mkS 3 j.2.1 0 [] (s.2.2.2.2.2.1.map fun z=>nth (t:=.int .i64) j.2.2.2.2.2.1 z)]) ∨
  (s.1=(6:Int)/\j.1=(6:Int)/\gm s j a rule=[mkS 6 j.2.1 0 [] []]):=by
 have pick:∀{p q:Prop} [Decidable p] [Decidable q] {l:List ah.D},0<(cond (decide p&&decide q) l []).length->p/\q/\cond (decide p&&decide q) l []=l:=by
  intro p q _ _ l h
  cases hb:(decide p&&decide q) with
  | false=>rw[hb] at h;simp at h
  | true=>
   obtain⟨h1,h2⟩:=Bool.and_eq_true_iff.1 hb
   exact⟨of_decide_eq_true h1,of_decide_eq_true h2,rfl⟩
 unfold gm at h ⊢
 by_cases c1:rule=1
 ·rw[decide_eq_true c1,cond_true] at h ⊢
  exact .inl (pick h)
 rw[decide_eq_false c1,cond_false] at h ⊢
 by_cases c2:rule=2
 ·rw[decide_eq_true c2,cond_true] at h ⊢
  exact .inr (.inl (pick h))
 rw[decide_eq_false c2,cond_false] at h ⊢
 by_cases c3:rule=3
 ·rw[decide_eq_true c3,cond_true] at h ⊢
  exact .inr (.inr (.inl (pick h)))
 rw[decide_eq_false c3,cond_false] at h ⊢
 by_cases c4:rule=4
 ·rw[decide_eq_true c4,cond_true] at h ⊢
  exact .inr (.inr (.inr (.inl (pick h))))
 rw[decide_eq_false c4,cond_false] at h ⊢
 by_cases c5:rule=5
 ·rw[decide_eq_true c5,cond_true] at h ⊢
  exact .inr (.inr (.inr (.inr (.inl (pick h)))))
 rw[decide_eq_false c5,cond_false] at h ⊢
 by_cases c6:rule=6
 ·rw[decide_eq_true c6,cond_true] at h ⊢
  exact .inr (.inr (.inr (.inr (.inr (.inl (pick h))))))
 rw[decide_eq_false c6,cond_false] at h ⊢
 by_cases c7:rule=7
 ·rw[decide_eq_true c7,cond_true] at h ⊢
  exact .inr (.inr (.inr (.inr (.inr (.inr (pick h))))))
 rw[decide_eq_false c7,cond_false] at h
 exact absurd h (Nat.lt_irrefl 0)
section
variable {tables:List az.D} {R:List (List (List aa.D))}
theorem lY {s:ah.D} (h:s.1=(2:Int)):bQ tables R s=List.filter (fun r=>holds r s.2.2.2.2.1) (nth (t:=TRs) R s.2.1):=by unfold bQ;rw[h];rfl
theorem zf {s:ah.D} (h:s.1=(3:Int)):bQ tables R s=List.map (fun r=>taken r s.2.2.2.2.2.1) (nth (t:=TRs) R s.2.1):=by unfold bQ;rw[h];rfl
theorem Gq {s:ah.D} (h:s.1=(4:Int)):bQ tables R s=List.flatMap (fun r=>joined s.2.2.2.2.1 r (nth (t:=TRs) R s.2.2.1)) (nth (t:=TRs) R s.2.1):=by unfold bQ;rw[h];rfl
theorem Hy {s:ah.D} (h:s.1=(5:Int)):bQ tables R s=(nth (t:=TRs) R s.2.1++nth (t:=TRs) R s.2.2.1:List (List aa.D)):=by unfold bQ;rw[h];rfl
theorem zu {s:ah.D} (h:s.1=(6:Int)):bQ tables R s=cS (nth (t:=TRs) R s.2.1):=by unfold bQ;rw[h];rfl
end
theorem FZ {tables:List az.D} {R R':List (List (List aa.D))} {s j:ah.D} {a rule:Int} (ha:0<=a) (ha2:a<=1000) (hn:0<(gm s j a rule).length)
  (hnew:∀i:Int,0<=i->i<((gm s j a rule).length:Int)->nth (t:=TRs) R' (a+i)=bQ tables R' (nth (t:=ah) (gm s j a rule) i)) (hrj:nth (t:=TRs) R s.2.1=bQ tables R j) (hji:mN s.2.1 j)
  (eA:∀z:Int,0<=z/\z<s.2.1->nth (t:=TRs) R' z=nth (t:=TRs) R z) (ks:s.1=(2:Int)->∃c,bu c s.2.2.2.2.1=3) (kj:j.1=(2:Int)\/j.1=(4:Int)->∃c,bu c j.2.2.2.2.1=3)
  (hs2:s.1=(2:Int)->j.1=(3:Int)->od s.2.2.2.2.1 j.2.2.2.2.2.1.length) (hs3:s.1=(3:Int)->j.1=(3:Int)->∀z∈s.2.2.2.2.2.1,0<=z/\z<(j.2.2.2.2.2.1.length:Int)) :
  nth (t:=TRs) R' (a+(((gm s j a rule).length:Int)-1))=bQ tables R s:=by
 rcases wT hn with⟨k1,k2,hN⟩ | ⟨k1,k2,hN⟩ | ⟨k1,k2,hN⟩ | ⟨k1,k2,hN⟩ | ⟨k1,k2,hN⟩ | ⟨k1,k2,hN⟩ | ⟨k1,k2,hN⟩<;>rw[hN] at hnew ⊢<;>clear hN hn<;>have hj:=hji (by rw[k2];decide)<;>have e0:=hnew 0 (by decide) (by simp)<;>rw[Int.add_zero] at e0
 ·obtain⟨c,kc⟩:=ks k1
  obtain⟨d,kd⟩:=kj (.inl k2)
  show nth (t:=TRs) R' (a+0)=_
  rw[Int.add_zero,e0,lY k1,hrj,lY k2]
  show List.filter (fun r=>holds r (fS j.2.2.2.2.1 s.2.2.2.2.1)) (nth (t:=TRs) R' j.2.1)=_
  rw[eA _ hj.1,List.filter_filter]
  congr 1
  funext r
  rw[yN kd kc,Bool.and_comm]
 ·obtain⟨c,kc⟩:=ks k1
  obtain⟨d,kd⟩:=kj (.inr k2)
  show nth (t:=TRs) R' (a+0)=_
  rw[Int.add_zero,e0,lY k1,hrj,Gq k2,AB kd kc]
  show List.flatMap (fun r=>joined (fS j.2.2.2.2.1 s.2.2.2.2.1) r (nth (t:=TRs) R' j.2.2.1)) (nth (t:=TRs) R' j.2.1)=_
  rw[eA _ hj.1,eA _ hj.2]
 ·have e1:=hnew 1 (by decide) (by simp)
  show nth (t:=TRs) R' (a+1)=_
  rw[e1,lY k1,hrj,zf k2]
  show List.map (fun r=>taken r j.2.2.2.2.2.1) (nth (t:=TRs) R' a)=_
  rw[e0]
  show List.map (fun r=>taken r j.2.2.2.2.2.1) (List.filter (fun r=>holds r (lJ s.2.2.2.2.1 j.2.2.2.2.2.1)) (nth (t:=TRs) R' j.2.1))=_
  rw[eA _ hj.1,List.filter_map]
  congr 2
  funext r
  exact DH (hs2 k1 k2)
 ·have e1:=hnew 1 (by decide) (by simp)
  show nth (t:=TRs) R' (a+1)=_
  rw[e1,lY k1,hrj,zu k2,<-Dk]
  show cS (nth (t:=TRs) R' a)=_
  rw[e0]
  show cS (List.filter (fun r=>holds r s.2.2.2.2.1) (nth (t:=TRs) R' j.2.1))=_
  rw[eA _ hj.1]
 ·have e1:=hnew 1 (by decide) (by simp)
  have e2:=hnew 2 (by decide) (by simp)
  show nth (t:=TRs) R' (a+2)=_
  rw[e2,lY k1,hrj,Hy k2,List.filter_append]
  show (nth (t:=TRs) R' a++nth (t:=TRs) R' (wrap64 (a+1)):List (List aa.D))=_
  rw[aI (by omega) (by omega),e0,e1]
  show (List.filter (fun r=>holds r s.2.2.2.2.1) (nth (t:=TRs) R' j.2.1)++List.filter (fun r=>holds r s.2.2.2.2.1) (nth (t:=TRs) R' j.2.2.1):List (List aa.D))=_
  rw[eA _ hj.1,eA _ hj.2]
 ·show nth (t:=TRs) R' (a+0)=_
  rw[Int.add_zero,e0,zf k1,hrj,zf k2]
  show List.map (fun r=>taken r (s.2.2.2.2.2.1.map fun z=>nth (t:=.int .i64) j.2.2.2.2.2.1 z)) (nth (t:=TRs) R' j.2.1)=_
  rw[eA _ hj.1,List.map_map]
  congr 1
  funext r
  exact(Du (hs3 k1 k2)).symm
 ·show nth (t:=TRs) R' (a+0)=_
  rw[Int.add_zero,e0,zu k1,hrj,zu k2,Fy]
  show cS (nth (t:=TRs) R' j.2.1)=_
  rw[eA _ hj.1]
theorem FN {s j:ah.D} {a rule:Int} (h:0<(gm s j a rule).length):¬s.1=(1:Int):=by
 rcases wT h with⟨k1,_⟩ | ⟨k1,_⟩ | ⟨k1,_⟩ | ⟨k1,_⟩ | ⟨k1,_⟩ | ⟨k1,_⟩ | ⟨k1,_⟩<;>rw[k1]<;>decide
theorem Dc {tables:List az.D} {plan:List ah.D} {a:Nat} {rule:Int} (ha:a<plan.length) (hp:bB tables plan=true) (hs:Sm (.sl ah) plan) (h:(iy tables plan (a:Int) rule).2=true) :
  bB tables (iy tables plan (a:Int) rule).1=true/\cw tables (iy tables plan (a:Int) rule).1=cw tables plan:=by
 unfold iy at h ⊢
 cases h0:decide (((bS plan (a:Int) rule).length:Int)=(0:Int)) with
 | true=>rw[h0] at h;cases h
 | false=>
  rw[h0] at h
  simp only[cond_false] at h ⊢
  have hn:0<(bS plan (a:Int) rule).length:=by
   have:=of_decide_eq_false h0
   omega
  cases hq:bB tables (bY plan (a:Int) (bS plan (a:Int) rule)) with
  | false=>rw[hq] at h;cases h
  | true=>
   simp only[cond_true]
   refine⟨hq,?_⟩
   have hrf:=nk hp
   have hrq:=nk hq
   have h6:=tU hp
   have h3:=vg (nth (t:=ah) plan (a:Int)) (nth (t:=ah) plan (nth (t:=ah) plan (a:Int)).2.1) (a:Int) rule
   have hql:=Ff (new:=bS plan (a:Int) rule) ha
   obtain⟨_,hs2,hs3⟩:=(pV hp hs (at_:=(a:Int)) (by omega) (by omega)).1.2
   have hin:=hrf.2 (a:Int) (by omega) (by omega) (FN hn)
   obtain⟨qa,ca,hca⟩:=Fk hp (i:=(a:Int)) (by omega) (by omega)
   have hja:(nth (t:=ah) plan (a:Int)).2.1<(plan.length:Int):=Int.lt_trans hin.1.2 (by omega)
   obtain⟨qj,cj,hcj⟩:=Fk hp hin.1.1 hja
   have hB:nth (t:=TRs) (cq tables (bY plan (a:Int) (bS plan (a:Int) rule))) ((a:Int)+(((bS plan (a:Int) rule).length:Int)-1))=nth (t:=TRs) (cq tables plan) (a:Int):=by
    rw[tR hrf (i:=(a:Int)) (by omega) (by omega)]
    refine FZ (by omega) (by omega) hn (fun i i0 i1=>?_) (tR hrf hin.1.1 hja) (hrf.2 _ hin.1.1 hja) (fun z hz=>EH ha hz.1 (Int.lt_trans hz.2 hin.1.2)) (fun k=>⟨_,oX hca k⟩) (fun k=>?_) hs2 hs3
    ·rw[tR hrq (by omega) (by rw[hql];unfold bS at *;omega),Ix (new:=bS plan (a:Int) rule) ha i0 i1]
     rfl
    ·rcases k with k | k
     ·exact⟨_,oX hcj k⟩
     ·exact Bh hcj k
   have hend:=Eg ha hrf hrq h6 hn h3 hB (plan.length-1-a) ((plan.length:Int)-1) (by omega) (by omega)
   unfold cw
   rw[hq,hp,hql]
   simp only[cond_true]
   rw[show ((plan.length+(bS plan (a:Int) rule).length-1:Nat):Int)-1=(plan.length:Int)-1+(((bS plan (a:Int) rule).length:Int)-1) by omega]
   exact hend
end M
end Go.AE
end
section
namespace Go.AE
open Go Go.RowKit
set_option linter.unusedVariables false
end Go.AE
end
section
namespace Go.AE
open Go Go.RowKit
set_option linter.unusedVariables false
namespace M
end M
end Go.AE
end
section
namespace Go.AE
open Go Go.RowKit
set_option linter.unusedVariables false
namespace M
def Gy (A B:List az.D):Prop:=A.length=B.length/\(∀i:Int,0<=i->(nth (t:=az) A i).1=(nth (t:=az) B i).1)/\bX A=bX B
theorem FP {A B:List az.D} (h:Gy A B) (ahead:List (List ag.D)) (s:ah.D):bN A ahead s=bN B ahead s:=by
 unfold bN
 rw[h.1]
 by_cases h0:0<=s.2.2.2.1
 ·rw[h.2.1 _ h0]
 ·have:inR s.2.2.2.1 0 ((B.length:Int)-1)=false:=by
   unfold inR
   rw[decide_eq_false h0]
   rfl
  rw[this]
  rfl
theorem ES {A B:List az.D} (h:Gy A B) (plan:List ah.D):bB A plan=bB B plan:=by
 have e:bK A=bK B:=by
  funext st s
  unfold bK
  rw[FP h]
 unfold bB cn kz
 rw[e,h.2.2]
theorem Dq {A B:List az.D} (h:Gy A B) (plan:List ah.D) (a rule:Int):iy A plan a rule=iy B plan a rule:=by
 unfold iy
 rw[ES h]
def wH (t:az.D):az.D:=(t.1,t.2.1.reverse,())
theorem FB (A:List az.D):Gy (A.map wH) A:=by
 refine⟨List.length_map _,fun i i0=>?_,?_⟩
 ·unfold nth
  rw[List.getD_eq_getElem?_getD,List.getD_eq_getElem?_getD,List.getElem?_map]
  cases A[i.toNat]?<;>rfl
 ·unfold bX
  rw[List.length_map,List.all_map]
  congr 1
  refine congrArg (fun f=>A.all f) (funext fun t=>?_)
  show cQ (wH t)=cQ t
  unfold cQ wH fO
  simp only[List.length_reverse,List.all_reverse]
theorem IV {A:List az.D} (h:Sm (.sl az) A):Sm (.sl az) (A.map wH):=by
 refine⟨by rw[List.length_map];exact h.1,fun t ht=>?_⟩
 obtain⟨u,hu,rfl⟩:=List.mem_map.1 ht
 have:=h.2 u hu
 exact⟨this.1,⟨by show u.2.1.reverse.length<=1048576;rw[List.length_reverse];exact this.2.1.1,fun r hr=>this.2.1.2 r (List.mem_reverse.1 hr)⟩,trivial⟩
theorem xI {tables:List az.D} {plan:List ah.D} {a rule:Int} (hs:Sm (.sl ah) plan) (h:(ck tables plan a rule).2=true) :
  ∀B,Gy B tables->bB B (ck tables plan a rule).1=true/\cw B (ck tables plan a rule).1=cw B plan:=by
 unfold ck at h ⊢
 cases hb:(bB tables plan&&(inR a 0 (wrap64 ((plan.length:Int)-(1:Int)))&&inR rule 1 7)) with
 | false=>rw[hb] at h;cases h
 | true=>
  obtain⟨hp,hb1⟩:=Bool.and_eq_true_iff.1 hb
  obtain⟨ha,_⟩:=Bool.and_eq_true_iff.1 hb1
  rw[hb] at h
  simp only[cond_true] at h ⊢
  intro B hL
  have a0:=dP ha
  have a1:=iz ha
  have e:((a.toNat:Nat):Int)=a:=by omega
  rw[<-Dq hL] at h ⊢
  rw[<-ES hL] at hp
  have:=Dc (tables:=B) (a:=a.toNat) (rule:=rule) (by omega) hp hs (by rw[e];exact h)
  rw[e] at this
  exact this
end M
end Go.AE
end
section
namespace Go.AE
open Go Go.RowKit
set_option linter.unusedSimpArgs false
set_option linter.unusedVariables false
theorem Av {row:List aa.D} {E:List ax.D} (p:ax.D) (st:List aa.D) (hp:Sm ax p) (hs:Sm (.sl aa) st) (hl:st.length<=1000) (h1:M.takes p<=(st.length:Int)) (hk:1<=p.1/\p.1<=8) (hc:M.xj p row.length) :
  F.dR row E p st=some (.inl (M.cD row st p)):=by
 obtain⟨t0,t2⟩:=vc p
 have hw:=DG (n:=st.length) (k:=M.takes p) (by omega) t0 t2
 have hct:=zc st (k:=(st.length:Int)-M.takes p) (by omega) (by omega)
 have hn:((st.length:Int)-M.takes p).toNat=st.length-(M.takes p).toNat:=by omega
 rw[hn] at hct
 unfold F.dR M.cD
 rw[hw,hct]
 have hsm:Sm (.sl aa) (st.drop (st.length-(M.takes p).toNat)):=⟨by rw[List.length_drop];omega,fun x hx=>hs.2 x (List.mem_of_mem_drop hx)⟩
 rw[ai hsm,ai hc,ai hk]
 simp only[bz]
 repeat rw[ai (by first | omega | (rw[List.length_drop];omega) | (unfold lim;simp;omega))]
 rw[hn]
end Go.AE
end
