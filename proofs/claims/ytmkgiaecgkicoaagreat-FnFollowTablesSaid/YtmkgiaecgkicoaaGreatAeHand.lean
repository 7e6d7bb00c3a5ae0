/- What is handed into a deep array, or out of a call. -/
import Derived.Test.YtmkgiaecgkicoaaGreatAeOpC
namespace Go.AE
open Go Go.RowKit
section
variable {P:Program} {C:Ctx} {g:Gl} {N:Nat} {s:St} {a:Act} {w:World} {φ:Names}
structure Handed (s s':St) (φ:Names) (B:List Nat):Prop where
 nodup:B.Nodup
 env:s'.env=s.env
 gone:gG s s'
 owner:∀b∈B,∃j blk,lookup s.hp j=some blk/\φ.dS j b/\lookup s'.hp j=none/\j≠base
 fC:∀j blk,lookup s'.hp j=some blk->lookup s.hp j=some blk
theorem Handed.refl (s:St) (φ:Names):Handed s s φ []:=⟨List.nodup_nil,rfl,gG.refl s,by simp,fun _ _ h=>h⟩
theorem Handed.sim (h:Sim g N s a w φ) {s':St} {B:List Nat} (k:Handed s s' φ B):Sim g N s' a w φ:=
 h.less (fun j v hj=>by rw[k.env] at hj;exact hj) k.fC
theorem Handed.trans (h:Sim g N s a w φ) {s1 s2:St} {B E:List Nat} (k:Handed s s1 φ B) (m:Handed s1 s2 φ E):Handed s s2 φ (B++E):=by
 refine⟨?_,m.env.trans k.env,k.gone.trans m.gone,?_,fun j blk hj=>k.fC j blk (m.fC j blk hj)⟩
 ·refine List.nodup_append.2 ⟨k.nodup,m.nodup,?_⟩
  rintro b hb c hc rfl
  obtain⟨j,blk,h1,h2,h3,_⟩:=k.owner b hb
  obtain⟨i,blk',q1,q2,_⟩:=m.owner b hc
  have:=h.inj j i _ _ b h1 (k.fC i _ q1) h2 q2
  subst this
  rw[h3] at q1
  cases q1
 ·intro b hb
  rcases List.mem_append.1 hb with hb | hb
  ·obtain⟨j,blk,h1,h2,h3,h4⟩:=k.owner b hb
   refine⟨j,blk,h1,h2,?_,h4⟩
   cases hq:lookup s2.hp j with
   | none=>rfl
   | some x=>have:=m.fC j x hq;rw[h3] at this;cases this
  ·obtain⟨j,blk,h1,h2,h3,h4⟩:=m.owner b hb
   exact⟨j,blk,k.fC j blk h1,h2,h3,h4⟩
theorem Handed.le (h:Sim g N s a w φ) {s':St} {B:List Nat} (k:Handed s s' φ B):∀b∈B,b<w.heap.size/\g.mine b:=by
 intro b hb
 obtain⟨j,blk,h1,h2,_,h4⟩:=k.owner b hb
 obtain⟨p1,p2⟩:=h.place j blk b h1 h2
 exact⟨p1,p2.resolve_right (fun q=>h4 q.2)⟩
theorem zC {t:Ty} {xs:List t.D} {v u:Value} {e e2:TypeId} {l lu:List Value} {r:Option Nat} {B:List Nat} (ho:w.rowOf 0 e t.size v xs.length l) (hb:v.ownBlock=r) (hl:bG (Tree w t) xs l B) (hd:B.Nodup)
  (hap:∀b,r=some b->b∉B) {m:Nat} (hm:m<=xs.length) (hu:w.rowOf 0 e2 t.size u m lu) (hub:u.ownBlock=r) :
  ∃E,Tree w (.sl t) (xs.take m) [u] E/\E.Nodup/\∀b∈E,r=some b\/b∈B:=by
 have hlen:(xs.take m).length=m:=by rw[List.length_take];omega
 rcases hu.2 with⟨rfl,h0⟩ | ⟨gg,cap2,cur2,rfl,_,hg2,hn2,hcap2,hs2,_⟩
 ·subst h0
  exact⟨[],⟨none,0,by simp,by simp,.inl ⟨by simp,rfl,rfl,rfl⟩⟩,List.nodup_nil,by simp⟩
 ·have hr:r=some gg:=by rw[<-hub];rfl
  rcases ho.2 with⟨rfl,_⟩ | ⟨g3,cap,cur,rfl,_,hg,hn,hcap,hs,ht⟩
  ·rw[hr] at hb;simp[Value.ownBlock] at hb
  ·have hgb:g3=gg:=by rw[hr] at hb;simpa [Value.ownBlock] using hb
   subst hgb
   rw[hg] at hg2
   cases hg2
   obtain⟨E,F,eE,h1⟩:=bG.take m hl
   refine⟨g3::E,⟨_,cap2,by rw[hlen],by rw[hlen];exact hn2,.inr ⟨g3,_,_,E,rfl,rfl,hg,?_,hcap2,hs2⟩⟩,?_,?_⟩
   ·rw[hlen]
    rw[<-ht,List.take_take] at h1
    have:min (m * t.size) (xs.length * t.size)=m * t.size:=Nat.min_eq_left (Nat.mul_le_mul_right _ hm)
    rw[this] at h1
    exact h1
   ·rw[eE] at hd
    refine List.nodup_cons.2 ⟨fun hin=>hap g3 hr (by rw[eE];exact List.mem_append_left _ hin),(List.nodup_append.1 hd).1⟩
   ·intro b hbm
    rcases List.mem_cons.1 hbm with rfl | hbm
    ·exact .inl hr
    ·exact .inr (by rw[eE];exact List.mem_append_left _ hbm)
theorem gW (s:St) (id j:Nat):lookup (s.drop id).hp j=if j=id then none else lookup s.hp j:=by
 simp only[St.drop,aZ]
theorem Dl {id:Nat} {blk:Block} (hl:lookup s.hp id=some blk) (hne:id≠base) {B:List Nat} (hd:B.Nodup) (hB:∀b∈B,φ.dS id b):Handed s (s.drop id) φ B:=
 ⟨hd,rfl,wL s id,fun b hb=>⟨id,blk,hl,hB b hb,by rw[gW,if_pos rfl],hne⟩,fun j x hj=>by
  rw[gW] at hj
  split at hj
  ·cases hj
  ·exact hj⟩
theorem EH (h:Sim g N s a w φ) {t:Ty} {id:Nat} {cut:List t.D->List t.D} {x:List t.D} {s':St} (hx:xk t s id cut=some (x,s')) :
  ∃d xs,lookup s.hp id=some (.arr d t xs)/\x=cut xs/\s'=s.drop id/\id≠base/\∃v e l B,w.rowOf 0 e t.size v xs.length l/\v.ownBlock=φ id/\bG (Tree w t) xs l B/\B.Nodup/\(∀b∈B,b∈φ.sub id):=by
 unfold xk at hx
 split at hx
 case h_2=>cases hx
 rename_i d u xs hl
 split at hx
 case h_2=>cases hx
 rename_i hh _
 cases hh
 obtain⟨hb,hx⟩:=cI hx
 cases hx
 obtain⟨h1,h2⟩:=Bool.and_eq_true_iff.1 hb
 have hne:id≠base:=by rintro rfl;simp at h2
 obtain⟨v,e,l,q1,q2,q3⟩:=h.blocks id _ hl
 refine⟨d,xs,hl,rfl,rfl,hne,v,e,l,?_⟩
 cases d with
 | dp=>
  obtain⟨B0,r1,r2,r3⟩:=q3
  exact⟨B0,q1,q2,r1,r2,r3⟩
 | sh=>
  exact⟨[],q1,q2,bG.flat (by simpa [Dp.rY,Dp.AS] using h1) q3.1,List.nodup_nil,by simp⟩
 | ho=>simp[Dp.rY,Dp.AS] at h1
theorem Ga (h:Sim g N s a w φ) {t:Ty} {v:AV} {u:Value} (h1:aj w (imm g φ s.hp w.heap.size) (aM g) φ s.hp v u) {x:List t.D} {s':St} (hx:Hx t s v=some (x,s')) :
  ∃B,Handed s s' φ B/\Tree w (.sl t) x [u] B:=by
 have sl:∀{id:Nat} {cut:List t.D->List t.D} (_:xk t s id cut=some (x,s')) (_:∀d (xs:List t.D),lookup s.hp id=some (.arr d t xs)->∃k e l,w.rowOf 0 e t.size u k l/\u.ownBlock=φ id/\cut xs=xs.take k/\k<=xs.length),
   ∃B,Handed s s' φ B/\Tree w (.sl t) x [u] B:=by
  intro id cut hx m
  obtain⟨d,xs,hl,rfl,rfl,hne,v0,e0,l0,B0,r1,r2,r3,r4,r5⟩:=EH h hx
  obtain⟨k,e,l,hu,hub,e1,hk2⟩:=m d xs hl
  obtain⟨E,t1,t2,t3⟩:=zC r1 r2 r3 r4 (fun b hb hin=>h.apart id _ b hl hb (r5 b hin)) hk2 hu hub
  exact⟨E,Dl hl hne t2 (fun b hb=>(t3 b hb).imp (fun h=>h) (fun h=>r5 b h)),by rw[e1];exact t1⟩
 unfold Hx at hx
 split at hx
 ·rename_i id
  refine sl hx (fun d xs hl=>?_)
  simp only[aj] at h1
  obtain⟨d2,t2,x2,e2,e,l,ho,hb⟩:=h1 _ hl
  cases e2
  exact⟨_,e,l,ho,hb,by simp,Nat.le_refl _⟩
 ·rename_i id lo hi
  obtain⟨hlo,hx⟩:=cI hx
  have hlo:lo=0:=by simpa using hlo
  subst hlo
  refine sl hx (fun d xs hl=>?_)
  simp only[aj] at h1
  obtain⟨d2,t2,x2,e2,g1,g2,g3,A,c,_,_,g4,_⟩:=h1 _ hl
  cases e2
  obtain⟨e,l,ho,hb⟩:=g4 rfl
  exact⟨_,e,l,ho,hb,by simp[aC],by omega⟩
 ·rename_i id hi
  refine sl hx (fun d xs hl=>?_)
  simp only[aj] at h1
  obtain⟨d2,t2,x2,e2,g2,g3,e,l,ho,hb⟩:=h1 _ hl
  cases e2
  exact⟨_,e,l,ho,hb,by simp[aC],by omega⟩
 ·cases hx
  simp only[aj] at h1
  subst h1
  exact⟨[],Handed.refl s φ,⟨none,0,rfl,Nat.le_refl _,.inl ⟨rfl,rfl,rfl,rfl⟩⟩⟩
 ·cases hx
theorem Fh {t:Ty} (hf:t.flat=true) {v:AV} {u:Value} (h1:aj w (imm g φ s.hp w.heap.size) (aM g) φ s.hp v u) {x:t.D} (hx:v.as s.hp t=some x):∃cs,Tree w t x cs []/\u=mkv t cs:=by
 have no:∀{u:Ty},t=.sl u->False:=by rintro u rfl;cases hf
 unfold AV.as at hx
 split at hx
 ·split at hx
  ·rename_i hh _;exact(no hh.symm).elim
  ·cases hx
 ·split at hx
  ·rename_i hh _
   cases hh
   cases hx
   simp only[aj] at h1
   obtain⟨cs,q1,q2⟩:=h1
   exact⟨cs,Tree.flat hf q1,q2⟩
  ·cases hx
 ·simp only[aj] at h1
  obtain⟨cs,q1,q2⟩:=gY w (imm g φ s.hp w.heap.size) hx
  exact⟨cs,Tree.flat hf q1,h1.trans q2⟩
 ·split at hx
  ·split at hx
   ·rename_i hh _;exact(no hh.symm).elim
   ·cases hx
  ·cases hx
 ·split at hx
  ·split at hx
   ·rename_i hh _;exact(no hh.symm).elim
   ·cases hx
  ·cases hx
 ·cases hx
theorem xu (h:Sim g N s a w φ) {t:Ty} {v:AV} {u:Value} (h1:aj w (imm g φ s.hp w.heap.size) (aM g) φ s.hp v u) {x:t.D} {s':St} (hx:yQ t v s=some (x,s')) :
  ∃B,Handed s s' φ B/\Tree w t x [u] B/\t.agg=false:=by
 have leaf:∀{t:Ty} (hf:t.flat=true) (ha:t.agg=false) {x:t.D} {s':St},Df t v s=some (x,s')->∃B,Handed s s' φ B/\Tree w t x [u] B/\t.agg=false:=by
  intro t hf ha x s' hx
  unfold Df at hx
  split at hx
  case h_2=>cases hx
  rename_i y hy
  cases hx
  obtain⟨cs,q1,q2⟩:=Fh hf h1 hy
  have hl:=q1.length
  rw[dO t ha] at hl
  match cs,hl with
  | [c],_=>
   rw[yO ha] at q2
   exact⟨[],Handed.refl s φ,by rw[q2];exact q1,ha⟩
 unfold yQ at hx
 split at hx
 ·obtain⟨B,q1,q2⟩:=Ga h h1 hx
  exact⟨B,q1,q2,rfl⟩
 ·exact leaf rfl rfl hx
 ·exact leaf rfl rfl hx
 ·exact leaf rfl rfl hx
 ·cases hx
theorem AX:∀{t:Ty} {s s':St} {l l':List AV} {us:List Value} {x:t.D},Sim g N s a w φ->aq w (imm g φ s.hp w.heap.size) (aM g) φ s.hp l us->mJ t l s=some (x,l',s') →
  ∃B cs us',Handed s s' φ B/\us=cs++us'/\Tree w t x cs B/\aq w (imm g φ s'.hp w.heap.size) (aM g) φ s'.hp l' us':=by
 intro t
 have leaf:∀{t:Ty} {s s':St} {l l':List AV} {us:List Value} {x:t.D},Sim g N s a w φ->aq w (imm g φ s.hp w.heap.size) (aM g) φ s.hp l us->pz t s l=some (x,l',s') →
   ∃B cs us',Handed s s' φ B/\us=cs++us'/\Tree w t x cs B/\aq w (imm g φ s'.hp w.heap.size) (aM g) φ s'.hp l' us':=by
  intro t s s' l l' us x h hv hx
  unfold pz at hx
  split at hx
  ·cases hx
  ·split at hx
   case h_2=>cases hx
   rename_i hs
   cases hx
   simp only[aq] at hv
   obtain⟨u,us',rfl,h1,h2⟩:=hv
   obtain⟨B,q1,q2,_⟩:=xu h h1 hs
   exact⟨B,[u],us',q1,rfl,q2,aq.later (q1.gone.later (fun _ h=>h)) _ _ h2⟩
 induction t with
 | unit=>
  intro s s' l l' us x h hv hx
  simp only[mJ,Option.some.injEq,Prod.mk.injEq] at hx
  obtain⟨_,rfl,rfl⟩:=hx
  exact⟨[],[],us,Handed.refl _ φ,rfl,⟨rfl,rfl⟩,hv⟩
 | pair p q ihp ihq=>
  intro s s' l l' us x h hv hx
  unfold mJ at hx
  split at hx
  case h_2=>cases hx
  rename_i y l1 s1 h1
  split at hx
  case h_2=>cases hx
  rename_i z l2 s2 h2
  cases hx
  obtain⟨B1,c1,u1,q1,rfl,r1,v1⟩:=ihp h hv h1
  obtain⟨B2,c2,u2,q2,rfl,r2,v2⟩:=ihq (q1.sim h) v1 h2
  exact⟨B1++B2,c1++c2,u2,q1.trans h q2,by simp,⟨c1,c2,B1,B2,rfl,rfl,r1,r2⟩,v2⟩
 | int k=>intro s s' l l' us x h hv hx;exact leaf h hv hx
 | bool=>intro s s' l l' us x h hv hx;exact leaf h hv hx
 | str=>intro s s' l l' us x h hv hx;exact leaf h hv hx
 | sl t _=>intro s s' l l' us x h hv hx;exact leaf h hv hx
theorem zm (h:Sim g N s a w φ) {t:Ty} {v:AV} {u:Value} (h1:aj w (imm g φ s.hp w.heap.size) (aM g) φ s.hp v u) {x:t.D} {s':St} (hx:s.hand t v=some (x,s')) :
  ∃B cs,Handed s s' φ B/\Tree w t x cs B/\u=mkv t cs:=by
 unfold St.hand at hx
 split at hx
 ·rename_i u0 vs
  split at hx
  ·rename_i hh _
   have hh:=hh.down
   subst hh
   have hx:=(cI hx).2
   split at hx
   ·rename_i hg
    cases hx
    simp only[aj] at h1
    obtain⟨us,rfl,hlen,_,h2⟩:=h1
    obtain⟨B,cs,us',q1,rfl,q2,q3⟩:=AX h h2 hg
    have:us'=[]:=by simpa only[aq] using q3
    subst this
    exact⟨B,cs,q1,q2,by simp⟩
   ·cases hx
  ·cases hx
 ·cases ha:t.agg with
  | true=>
   rw[ha] at hx
   simp only[cond_true] at hx
   obtain⟨hf,hx⟩:=cI hx
   split at hx
   case h_2=>cases hx
   rename_i y hy
   cases hx
   obtain⟨cs,q1,q2⟩:=Fh hf h1 hy
   exact⟨[],cs,Handed.refl _ φ,q1,q2⟩
  | false=>
   rw[ha] at hx
   simp only[cond_false] at hx
   obtain⟨B,q1,q2,_⟩:=xu h h1 hx
   exact⟨B,[u],q1,q2,(yO ha).symm⟩
end
end Go.AE
