/- A nested slice is taken out of a deep array. -/
import Derived.Test.YtmkgiaecgkicoaaGreatAeCallB
namespace Go.AE
open Go Go.RowKit
section
variable {g:Gl} {N:Nat} {s:St} {a:Act} {w:World} {φ:Names}
theorem Sim.zJ (h:Sim g N s a w φ) {j:Nat} {v:AV} (hv:aj w (imm g φ s.hp w.heap.size) (aM g) φ s.hp v (valOf g a j)):Sim g N { s with env:=iG s.env j v } a w φ:=by
 refine⟨h.defers,h.size,h.os,h.tape,h.output,h.hsize,h.frame,h.inj,h.apart,h.place,h.blocks,?_,h.pinned⟩
 intro i av hi
 simp only[iG,lookup_cons,aZ] at hi
 by_cases hij:j=i
 ·subst hij
  simp at hi
  subst hi
  exact hv
 ·rw[if_neg hij,if_neg (fun e=>hij e.symm)] at hi
  exact h.env i av hi
theorem Gc {α:Type} (l:List α) (a s off:Nat) (v:α) (h:off+1<=s) (hl:a+s<=l.length) :
  l.take a++((((l.drop a).take s).take off++[v]++((l.drop a).take s).drop (off+1)))++l.drop (a+s)=l.set (a+off) v:=by
 have hk:a+off<l.length:=by omega
 rw[List.set_eq_take_append_cons_drop,if_pos hk,List.take_take,Nat.min_eq_left (by omega)]
 have e1:l.take (a+off)=l.take a++(l.drop a).take off:=by rw[List.take_add]
 have e2:((l.drop a).take s).drop (off+1)++l.drop (a+s)=l.drop (a+off+1):=by
  have:l.drop (a+off+1)=((l.drop a).take s++(l.drop a).drop s).drop (off+1):=by rw[List.take_append_drop,List.drop_drop];congr 1
  rw[this,List.drop_append_of_le_length (by rw[List.length_take,List.length_drop];omega),List.drop_drop]
 rw[e1,<-e2]
 simp
theorem Is (h:Sim g N s a w φ) {id off:Nat} {i:Int} {u t:Ty} {xs:List u.D} {zs:List t.D} {u0:Value} (hl:lookup s.hp id=some (.arr .dp u xs))
  (hv:aj w (imm g φ s.hp w.heap.size) (aM g) φ s.hp (.pth id i off t) u0) (hz:proj u (nth xs i) off (.sl t)=some zs) :
  ∃Ep B',(∀b∈Ep,b∈φ.sub id)/\Ep.Nodup/\Tree w (.sl t) zs [u0] Ep/\(∀b∈B',b∈φ.sub id/\b∉Ep) ∧
   ∀(z:u.D),upd u (nth xs i) off (.sl t) []=some z->∃v e l,w.rowOf 0 e u.size v (xs.set i.toNat z).length l/\v.ownBlock=φ id/\eW (.ho i off) w (fun _=>True) B' u (xs.set i.toNat z) l:=by
 simp only[aj] at hv
 obtain⟨d2,t2,xs2,b,cur,e,e2,hφ,h0,hi,hg,hu⟩:=hv _ hl
 cases e2
 obtain⟨v0,e0,l0,q1,q2,B0,q3,q4,q5⟩:=h.blocks id _ hl
 have hi':i.toNat<xs.length:=by omega
 have hnth:nth xs i=xs[i.toNat]:=by
  unfold nth
  rw[List.getD_eq_getElem?_getD,List.getElem?_eq_getElem hi']
  rfl
 obtain⟨B1,E,B2,eB,t1,t2⟩:=bG.at q3 i.toNat hi'
 rw[<-hnth] at t1
 obtain⟨E1,Ep,E2,eE,u1,u2,t4⟩:=xh hz t1
 rcases q1 with⟨hn0,⟨e6,h00⟩ | ⟨gg,cap,cur1,e6,hb0,hgc,hnc,hcm,hcs,htk⟩⟩
 ·omega
 have hgb:gg=b:=by
  rw[e6] at q2
  have:=q2.trans hφ
  simpa [Value.ownBlock] using this
 subst hgb
 rw[hg] at hgc
 cases hgc
 have hsz:(Ty.sl t).size=1:=rfl
 rw[hsz] at u1 u2 t4
 have hmul:(i.toNat+1) * u.size<=xs.length * u.size:=Nat.mul_le_mul_right _ hi'
 rw[Nat.succ_mul] at hmul
 have hcell:l0[i.toNat * u.size+off]? = some u0:=by
  rw[<-htk,List.getElem?_take,if_pos (by omega)]
  exact hu
 have hsub1:((l0.drop (i.toNat * u.size)).take u.size)[off]? = some u0:=by
  rw[List.getElem?_take,if_pos (by omega),List.getElem?_drop]
  exact hcell
 have hlen1:off<((l0.drop (i.toNat * u.size)).take u.size).length:=by
  rcases Nat.lt_or_ge off ((l0.drop (i.toNat * u.size)).take u.size).length with hh | hh
  ·exact hh
  ·rw[List.getElem?_eq_none hh] at hsub1;cases hsub1
 have hone:(((l0.drop (i.toNat * u.size)).take u.size).drop off).take 1=[u0]:=by
  rw[List.drop_eq_getElem_cons hlen1]
  rw[List.getElem?_eq_getElem hlen1] at hsub1
  cases hsub1
  rfl
 rw[hone] at u1
 have hB0:∀x,(x∈B1\/x∈E1\/x∈E2\/x∈B2\/x∈Ep)->x∈B0:=by
  intro x hx
  rw[eB,eE]
  simp only[List.mem_append]
  rcases hx with h | h | h | h | h<;>simp[h]
 have hnd0:=q4
 rw[eB,eE] at hnd0
 simp only[List.nodup_append,List.mem_append] at hnd0
 obtain⟨⟨n1,⟨⟨n2,n3,n4⟩,n5,n6⟩,n7⟩,n8,n9⟩:=hnd0
 have hmem:∀x,x∈B1++(E1++[]++E2)++B2->x∈B1\/x∈E1\/x∈E2\/x∈B2:=by
  intro x hx
  simp only[List.mem_append,List.not_mem_nil,or_false] at hx
  rcases hx with(h | h | h) | h
  ·exact .inl h
  ·exact .inr (.inl h)
  ·exact .inr (.inr (.inl h))
  ·exact .inr (.inr (.inr h))
 refine⟨Ep,B1++(E1++[]++E2)++B2,fun x hx=>q5 x (hB0 x (.inr (.inr (.inr (.inr hx))))),n3,u1,fun x hx=>⟨q5 x (hB0 x (by have:=hmem x hx;grind)),?_⟩,fun z hz'=>?_⟩
 ·intro hq
  rcases hmem x hx with hx | hx | hx | hx
  ·exact n7 x hx x (.inl (.inr hq)) rfl
  ·exact n4 x hx x hq rfl
  ·exact n6 x (.inr hq) x hx rfl
  ·exact n9 x (.inr (.inl (.inr hq))) x hx rfl
 ·have hset:=t2 w z _ _ (fun _ _=>rfl) (t4 [] z hz' w [.slice none 0 0] [] (fun _ _=>rfl) ⟨none,0,rfl,Nat.le_refl _,.inl ⟨rfl,rfl,rfl,rfl⟩⟩)
  rw[Gc l0 _ _ _ _ u2 (by rw[hn0];exact hmul)] at hset
  refine⟨v0,e,l0,⟨by simpa using hn0,.inr ⟨gg,cap,cur,by rw[List.length_set];exact e6,hb0,hg,by simpa using hnc,hcm,hcs,by simpa using htk⟩⟩,q2,_,hset,?_,fun _ h=>h⟩
  simp only[List.nodup_append,List.mem_append,List.append_nil]
  refine⟨⟨n1,⟨n2,n5,?_⟩,?_⟩,n8,?_⟩
  ·rintro x hx y hy rfl
   exact n6 x (.inl hx) x hy rfl
  ·rintro x hx y hy rfl
   rcases hy with hy | hy
   ·exact n7 x hx x (.inl (.inl hy)) rfl
   ·exact n7 x hx x (.inr hy) rfl
  ·rintro x hx y hy rfl
   rcases hx with hx | hx | hx
   ·exact n9 x (.inl hx) x hy rfl
   ·exact n9 x (.inr (.inl (.inl hx))) x hy rfl
   ·exact n9 x (.inr (.inr hx)) x hy rfl
theorem Sim.lift (h:Sim g N s a w φ) {j id k off:Nat} {i:Int} {u t:Ty} {xs:List u.D} {zs:List t.D} {z:u.D} (hj:AE.slot s.env j=.pth id i off t) (hl:lookup s.hp id=some (.arr .dp u xs)) (hz:proj u (nth xs i) off (.sl t)=some zs)
  (hz':upd u (nth xs i) off (.sl t) []=some z) (hidb:id≠base) (hkb:k≠base) (hki:k≠id) :
  ∃ φ',Sim g N { (s.cJ id (.arr (.ho i off) u (xs.set i.toNat z))).create k (.arr (Dp.of (!t.flat)) t zs) with env:=iG ((s.cJ id (.arr (.ho i off) u (xs.set i.toNat z))).create k (.arr (Dp.of (!t.flat)) t zs)).env j (.own k none) } a w φ':=by
 have hjg:Nat.blt j bT=true:=by
  cases hb:Nat.blt j bT with
  | true=>rfl
  | false=>unfold AE.slot at hj;rw[hb] at hj;cases hj
 have hv:=h.slot j
 rw[hj] at hv
 rw[show a.tmps.getD j undef=valOf g a j by unfold valOf;rw[hjg];rfl] at hv
 obtain⟨Ep,B',p1,p2,p3,p4,p5⟩:=Is h hl hv hz
 obtain⟨vh,eh,lh,r1,r2,r3⟩:=p5 z hz'
 obtain⟨r,B,o1,o2,o3,vk,ek,lk,k1,k2,k3⟩:=BE p3 p2
 generalize hs1:s.cJ id (.arr (.ho i off) u (xs.set i.toNat z))=s1
 generalize hs2:s1.create k (.arr (Dp.of (!t.flat)) t zs)=s2
 -- the names
 have hlk1:∀m,lookup s1.hp m=if m=id then some (.arr (.ho i off) u (xs.set i.toNat z)) else (lookup s.hp m).map (mapBlock (AV.fQ id)):=by
  intro m
  rw[<-hs1]
  simp only[St.cJ,lookup_cons,cP,aZ]
  by_cases hm:m=id
  ·simp[hm]
  ·have:¬id=m:=fun e=>hm e.symm
   simp[hm,this]
 have hlk2:∀m,lookup s2.hp m=if m=k then some (.arr (Dp.of (!t.flat)) t zs) else (lookup s1.hp m).map (mapBlock (AV.fI k)):=by
  intro m
  rw[<-hs2]
  simp only[St.create,lookup_cons,cP,aZ]
  by_cases hm:m=k
  ·simp[hm]
  ·have:¬k=m:=fun e=>hm e.symm
   simp[hm,this]
 have hlive1:∀m blk',lookup s1.hp m=some blk'->∃blk,lookup s.hp m=some blk/\(m≠id->blk'=mapBlock (AV.fQ id) blk):=by
  intro m blk' hm
  rw[hlk1] at hm
  by_cases hmi:m=id
  ·exact⟨_,hmi▸hl,fun q=>(q hmi).elim⟩
  ·rw[if_neg hmi] at hm
   cases hq:lookup s.hp m with
   | none=>simp[hq] at hm
   | some b0=>simp[hq] at hm;exact⟨b0,rfl,fun _=>hm.symm⟩
 have hlive:∀m blk',m≠k->lookup s2.hp m=some blk'->∃b1,lookup s1.hp m=some b1/\blk'=mapBlock (AV.fI k) b1/\∃blk,lookup s.hp m=some blk:=by
  intro m blk' hmk hm
  rw[hlk2,if_neg hmk] at hm
  cases hq:lookup s1.hp m with
  | none=>simp[hq] at hm
  | some b1=>
   simp[hq] at hm
   obtain⟨b0,hb0,_⟩:=hlive1 m b1 hq
   exact⟨b1,rfl,hm.symm,b0,hb0⟩
 -- who owns what
 have hmain1:∀m,(bf φ id (φ id) B') m=φ m:=by
  intro m
  by_cases hm:m=id<;>simp[bf,hm]
 have howns:∀m b,(bf (bf φ id (φ id) B') k r B).dS m b->(m=k/\b∈Ep)\/(m≠k/\φ.dS m b/\b∉Ep)\/(m≠k/\m≠id/\φ.dS m b):=by
  intro m b ho
  rw[ct] at ho
  by_cases hm:m=k
  ·rw[if_pos hm] at ho
   exact .inl ⟨hm,(o1 b).1 ho⟩
  ·rw[if_neg hm,ct] at ho
   by_cases hmi:m=id
   ·rw[if_pos hmi] at ho
    refine .inr (.inl ⟨hm,?_,?_⟩)
    ·rcases ho with ho | ho
     ·exact .inl (hmi▸ho)
     ·exact .inr (hmi▸(p4 b ho).1)
    ·rcases ho with ho | ho
     ·exact fun q=>h.apart id _ b hl ho (p1 b q)
     ·exact(p4 b ho).2
   ·rw[if_neg hmi] at ho
    exact .inr (.inr ⟨hm,hmi,ho⟩)
 have himm:∀b,imm g φ s.hp w.heap.size b->imm g (bf (bf φ id (φ id) B') k r B) s2.hp w.heap.size b:=by
  rintro b ⟨h1,h2,h3⟩
  refine⟨h1,h2,fun m blk' hm ho=>?_⟩
  rcases howns m b ho with⟨_,q⟩ | ⟨hmk,q,_⟩ | ⟨hmk,_,q⟩
  ·exact h3 id _ hl (.inr (p1 b q))
  ·obtain⟨_,_,_,b0,hb0⟩:=hlive m blk' hmk hm
   exact h3 m b0 hb0 q
  ·obtain⟨_,_,_,b0,hb0⟩:=hlive m blk' hmk hm
   exact h3 m b0 hb0 q
 have L1:LaterS id w w (imm g φ s.hp w.heap.size) (imm g φ s.hp w.heap.size) (aM g) (aM g) φ (bf φ id (φ id) B') s.hp s1.hp:=by
  refine⟨fun _ h=>h,fun _ _ _=>rfl,fun _ h=>h,fun _ _ _=>rfl,fun m blk' hm=>?_⟩
  by_cases hmi:m=id
  ·subst hmi
   rw[hlk1,if_pos rfl] at hm
   cases hm
   refine⟨_,hl,hmain1 m,?_,fun _ b hb=>⟨fun q=>(q rfl).elim,fun cur e hg=>⟨cur,hg,rfl⟩⟩⟩
   intro d1 t1 x1 e
   cases e
   exact⟨_,_,rfl,by simp⟩
  ·obtain⟨b0,hb0,e0⟩:=hlive1 m blk' hm
   refine⟨b0,hb0,hmain1 m,?_,fun _ b hb=>⟨fun _=>rfl,fun cur e hg=>⟨cur,hg,rfl⟩⟩⟩
   rintro d1 t1 x1 rfl
   exact⟨d1,x1,e0 hmi,rfl⟩
 have L2:LaterX k w w (imm g φ s.hp w.heap.size) (imm g (bf (bf φ id (φ id) B') k r B) s2.hp w.heap.size) (aM g) (aM g) (bf φ id (φ id) B') (bf (bf φ id (φ id) B') k r B) s1.hp s2.hp:=by
  refine⟨himm,fun _ _ _=>rfl,fun _ h=>h,fun _ _ _=>rfl,fun m blk' hmk hm=>?_⟩
  obtain⟨b1,hb1,rfl,_⟩:=hlive m blk' hmk hm
  refine⟨b1,hb1,by simp[bf,hmk],?_,fun _ _ _=>rfl⟩
  rintro d1 t1 x1 rfl
  exact⟨d1,x1,rfl,rfl⟩
 have hsim:Sim g N s2 a w (bf (bf φ id (φ id) B') k r B):=by
  refine⟨h.defers,h.size,h.os,h.tape,h.output,h.hsize,h.frame,?_,?_,?_,?_,?_,?_⟩
  ·intro m1 m2 b1 b2 b hm1 hm2 e1 e2
   have up:∀m blk',lookup s2.hp m=some blk'->m≠k->∃blk,lookup s.hp m=some blk:=by
    intro m blk' hm hmk
    obtain⟨_,_,_,b0,hb0⟩:=hlive m blk' hmk hm
    exact⟨b0,hb0⟩
   rcases howns m1 b e1 with⟨a1,a2⟩ | ⟨a1,a2,a3⟩ | ⟨a1,a3,a2⟩<;>rcases howns m2 b e2 with⟨c1,c2⟩ | ⟨c1,c2,c3⟩ | ⟨c1,c3,c2⟩
   ·rw[a1,c1]
   ·exact absurd a2 c3
   ·obtain⟨x2,y2⟩:=up m2 b2 hm2 c1
    exact absurd (h.inj m2 id _ _ b y2 hl c2 (.inr (p1 b a2))) c3
   ·exact absurd c2 a3
   ·obtain⟨x1,y1⟩:=up m1 b1 hm1 a1
    obtain⟨x2,y2⟩:=up m2 b2 hm2 c1
    exact h.inj m1 m2 _ _ b y1 y2 a2 c2
   ·obtain⟨x1,y1⟩:=up m1 b1 hm1 a1
    obtain⟨x2,y2⟩:=up m2 b2 hm2 c1
    exact h.inj m1 m2 _ _ b y1 y2 a2 c2
   ·obtain⟨x1,y1⟩:=up m1 b1 hm1 a1
    exact absurd (h.inj m1 id _ _ b y1 hl a2 (.inr (p1 b c2))) a3
   ·obtain⟨x1,y1⟩:=up m1 b1 hm1 a1
    obtain⟨x2,y2⟩:=up m2 b2 hm2 c1
    exact h.inj m1 m2 _ _ b y1 y2 a2 c2
   ·obtain⟨x1,y1⟩:=up m1 b1 hm1 a1
    obtain⟨x2,y2⟩:=up m2 b2 hm2 c1
    exact h.inj m1 m2 _ _ b y1 y2 a2 c2
  ·intro m blk' b hm hb
   by_cases hmk:m=k
   ·simp only[bf,if_pos hmk] at hb ⊢
    exact o2 b hb
   ·obtain⟨_,_,_,b0,hb0⟩:=hlive m blk' hmk hm
    simp only[bf,if_neg hmk] at hb ⊢
    by_cases hmi:m=id
    ·rw[if_pos hmi] at hb ⊢
     exact fun q=>h.apart id _ b hl hb (p4 b q).1
    ·rw[if_neg hmi] at hb ⊢
     exact h.apart m b0 b hb0 hb
  ·intro m blk' b hm ho
   rcases howns m b ho with⟨_,q⟩ | ⟨hmk,q,_⟩ | ⟨hmk,_,q⟩
   ·obtain⟨z1,z2⟩:=h.place id _ b hl (.inr (p1 b q))
    exact⟨z1,.inl (z2.resolve_right (fun q=>hidb q.2))⟩
   ·obtain⟨_,_,_,b0,hb0⟩:=hlive m blk' hmk hm
    exact h.place m b0 b hb0 q
   ·obtain⟨_,_,_,b0,hb0⟩:=hlive m blk' hmk hm
    exact h.place m b0 b hb0 q
  ·intro m blk' hm
   by_cases hmk:m=k
   ·subst hmk
    rw[hlk2,if_pos rfl] at hm
    cases hm
    have e1:(bf (bf φ id (φ id) B') m r B) m=r:=by simp[bf]
    have e2:(bf (bf φ id (φ id) B') m r B).sub m=B:=by simp[bf]
    rw[e1,e2]
    exact⟨vk,ek,lk,k1,k2,k3 _⟩
   ·obtain⟨b1,hb1,rfl,_⟩:=hlive m blk' hmk hm
    have e1:(bf (bf φ id (φ id) B') k r B) m=(bf φ id (φ id) B') m:=by simp[bf,hmk]
    have e2:(bf (bf φ id (φ id) B') k r B).sub m=(bf φ id (φ id) B').sub m:=by simp[bf,hmk]
    rw[e1,e2]
    refine dx.ji L2 (fun _ _=>rfl) (fun _ _=>rfl) ?_
    by_cases hmi:m=id
    ·subst hmi
     rw[hlk1,if_pos rfl] at hb1
     cases hb1
     have e3:(bf φ m (φ m) B').sub m=B':=by simp[bf]
     rw[hmain1,e3]
     exact⟨vh,eh,lh,r1,r2,r3⟩
    ·obtain⟨b0,hb0,e0⟩:=hlive1 m b1 hb1
     rw[e0 hmi]
     have e3:(bf φ id (φ id) B').sub m=φ.sub m:=by simp[bf,hmi]
     rw[hmain1,e3]
     exact(h.blocks m b0 hb0).kP L1 (fun _ _=>rfl) (fun _ _=>rfl)
  ·intro m av hm
   rw[<-hs2,<-hs1] at hm
   simp only[St.create,St.cJ,iS] at hm
   cases hq:lookup s.env m with
   | none=>simp[hq] at hm
   | some v=>
    simp[hq] at hm
    subst hm
    exact aj.ji L2 _ _ (aj.kP L1 v _ (h.env m v hq))
  ·intro blk' hb
   obtain⟨_,_,_,b0,hb0⟩:=hlive base blk' (fun e=>hkb e.symm) hb
   have e1:(bf (bf φ id (φ id) B') k r B) base=φ base:=by
    have q1:¬base=k:=fun e=>hkb e.symm
    have q2:¬base=id:=fun e=>hidb e.symm
    simp[bf,q1,q2]
   rw[e1]
   exact h.pinned b0 hb0
 refine⟨_,hsim.zJ ?_⟩
 simp only[aj]
 intro blk hb
 rw[hlk2,if_pos rfl] at hb
 cases hb
 refine⟨_,t,zs,rfl,?_⟩
 have e1:(bf (bf φ id (φ id) B') k r B) k=r:=by simp[bf]
 rw[e1]
 exact o3
end
end Go.AE
