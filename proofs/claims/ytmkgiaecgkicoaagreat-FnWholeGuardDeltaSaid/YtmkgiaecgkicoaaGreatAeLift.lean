/- A nested slice is taken out of a deep array. -/
import Derived.Test.YtmkgiaecgkicoaaGreatAeCallB
import Derived.Test.YtmkgiaecgkicoaaGreatAeOpG
import Derived.MapKept
section
namespace Go.AE
open Go Go.RowKit
section
variable {g:Gl} {N:Nat} {s:St} {a:Act} {w:World} {φ:Names}
theorem Sim.At (h:Sim g N s a w φ) {j:Nat} {v:AV} (hv:ak w (imm g φ s.hp w.heap.size) (aM g) φ s.hp v (valOf g a j)):Sim g N { s with env:=iZ s.env j v } a w φ:=by
 refine⟨h.defers,h.size,h.os,h.tape,h.output,h.hsize,h.frame,h.inj,h.apart,h.place,h.blocks,?_,h.pinned⟩
 intro i av hi
 simp only[iZ,lookup_cons,bf] at hi
 by_cases hij:j=i
 ·subst hij
  simp at hi
  subst hi
  exact hv
 ·rw[if_neg hij,if_neg (fun e=>hij e.symm)] at hi
  exact h.env i av hi
theorem Ht {α:Type} (l:List α) (a s off:Nat) (v:α) (h:off+1<=s) (hl:a+s<=l.length) :
  l.take a++((((l.drop a).take s).take off++[v]++((l.drop a).take s).drop (off+1)))++l.drop (a+s)=l.set (a+off) v:=by
 have hk:a+off<l.length:=by omega
 rw[List.set_eq_take_append_cons_drop,if_pos hk,List.take_take,Nat.min_eq_left (by omega)]
 have e1:l.take (a+off)=l.take a++(l.drop a).take off:=by rw[List.take_add]
 have e2:((l.drop a).take s).drop (off+1)++l.drop (a+s)=l.drop (a+off+1):=by
  have:l.drop (a+off+1)=((l.drop a).take s++(l.drop a).drop s).drop (off+1):=by rw[List.take_append_drop,List.drop_drop];congr 1
  rw[this,List.drop_append_of_le_length (by rw[List.length_take,List.length_drop];omega),List.drop_drop]
 rw[e1,<-e2]
 simp
theorem IJ (h:Sim g N s a w φ) {id off:Nat} {i:Int} {u t:Ty} {xs:List u.D} {zs:List t.D} {u0:Value} (hl:lookup s.hp id=some (.arr .dp u xs))
  (hv:ak w (imm g φ s.hp w.heap.size) (aM g) φ s.hp (.pth id i off t) u0) (hz:proj u (nth xs i) off (.sl t)=some zs) :
  ∃Ep B',(∀b∈Ep,b∈φ.sub id)/\Ep.Nodup/\Tree w (.sl t) zs [u0] Ep/\(∀b∈B',b∈φ.sub id/\b∉Ep) ∧
   ∀(z:u.D),upd u (nth xs i) off (.sl t) []=some z->∃v e l,w.rowOf 0 e u.size v (xs.set i.toNat z).length l/\v.ownBlock=φ id/\fz (.ho i off) w (fun _=>True) B' u (xs.set i.toNat z) l:=by
 simp only[ak] at hv
 obtain⟨d2,t2,xs2,b,cur,e,e2,hφ,h0,hi,hg,hu⟩:=hv _ hl
 cases e2
 obtain⟨v0,e0,l0,q1,q2,B0,q3,q4,q5⟩:=h.blocks id _ hl
 have hi':i.toNat<xs.length:=by omega
 have hnth:nth xs i=xs[i.toNat]:=by
  unfold nth
  rw[List.getD_eq_getElem?_getD,List.getElem?_eq_getElem hi']
  rfl
 obtain⟨B1,E,B2,eB,t1,t2⟩:=bG.at q3 i.toNat hi'
 rw[<-hnth] at t1
 obtain⟨E1,Ep,E2,eE,u1,u2,t4⟩:=we hz t1
 rcases q1 with⟨hn0,⟨e6,h00⟩ | ⟨gg,cap,cur1,e6,hb0,hgc,hnc,hcm,hcs,htk⟩⟩
 ·omega
 have hgb:gg=b:=by
  rw[e6] at q2
  have:=q2.trans hφ
  simpa [Value.ownBlock] using this
 subst hgb
 rw[hg] at hgc
 cases hgc
 have hsz:(Ty.sl t).size=1:=rfl
 rw[hsz] at u1 u2 t4
 have hmul:(i.toNat+1) * u.size<=xs.length * u.size:=Nat.mul_le_mul_right _ hi'
 rw[Nat.succ_mul] at hmul
 have hcell:l0[i.toNat * u.size+off]? = some u0:=by
  rw[<-htk,List.getElem?_take,if_pos (by omega)]
  exact hu
 have hsub1:((l0.drop (i.toNat * u.size)).take u.size)[off]? = some u0:=by
  rw[List.getElem?_take,if_pos (by omega),List.getElem?_drop]
  exact hcell
 have hlen1:off<((l0.drop (i.toNat * u.size)).take u.size).length:=by
  rcases Nat.lt_or_ge off ((l0.drop (i.toNat * u.size)).take u.size).length with hh | hh
  ·exact hh
  ·rw[List.getElem?_eq_none hh] at hsub1;cases hsub1
 have hone:(((l0.drop (i.toNat * u.size)).take u.size).drop off).take 1=[u0]:=by
  rw[List.drop_eq_getElem_cons hlen1]
  rw[List.getElem?_eq_getElem hlen1] at hsub1
  cases hsub1
  rfl
 rw[hone] at u1
 have hB0:∀x,(x∈B1\/x∈E1\/x∈E2\/x∈B2\/x∈Ep)->x∈B0:=by
  intro x hx
  rw[eB,eE]
  simp only[List.mem_append]
  rcases hx with h | h | h | h | h<;>simp[h]
 have hnd0:=q4
 rw[eB,eE] at hnd0
 simp only[List.nodup_append,List.mem_append] at hnd0
 obtain⟨⟨n1,⟨⟨n2,n3,n4⟩,n5,n6⟩,n7⟩,n8,n9⟩:=hnd0
 have hmem:∀x,x∈B1++(E1++[]++E2)++B2->x∈B1\/x∈E1\/x∈E2\/x∈B2:=by
  intro x hx
  simp only[List.mem_append,List.not_mem_nil,or_false] at hx
  rcases hx with(h | h | h) | h
  ·exact .inl h
  ·exact .inr (.inl h)
  ·exact .inr (.inr (.inl h))
  ·exact .inr (.inr (.inr h))
 refine⟨Ep,B1++(E1++[]++E2)++B2,fun x hx=>q5 x (hB0 x (.inr (.inr (.inr (.inr hx))))),n3,u1,fun x hx=>⟨q5 x (hB0 x (by have:=hmem x hx;grind)),?_⟩,fun z hz'=>?_⟩
 ·intro hq
  rcases hmem x hx with hx | hx | hx | hx
  ·exact n7 x hx x (.inl (.inr hq)) rfl
  ·exact n4 x hx x hq rfl
  ·exact n6 x (.inr hq) x hx rfl
  ·exact n9 x (.inr (.inl (.inr hq))) x hx rfl
 ·have hset:=t2 w z _ _ (fun _ _=>rfl) (t4 [] z hz' w [.slice none 0 0] [] (fun _ _=>rfl) ⟨none,0,rfl,Nat.le_refl _,.inl ⟨rfl,rfl,rfl,rfl⟩⟩)
  rw[Ht l0 _ _ _ _ u2 (by rw[hn0];exact hmul)] at hset
  refine⟨v0,e,l0,⟨by simpa using hn0,.inr ⟨gg,cap,cur,by rw[List.length_set];exact e6,hb0,hg,by simpa using hnc,hcm,hcs,by simpa using htk⟩⟩,q2,_,hset,?_,fun _ h=>h⟩
  simp only[List.nodup_append,List.mem_append,List.append_nil]
  refine⟨⟨n1,⟨n2,n5,?_⟩,?_⟩,n8,?_⟩
  ·rintro x hx y hy rfl
   exact n6 x (.inl hx) x hy rfl
  ·rintro x hx y hy rfl
   rcases hy with hy | hy
   ·exact n7 x hx x (.inl (.inl hy)) rfl
   ·exact n7 x hx x (.inr hy) rfl
  ·rintro x hx y hy rfl
   rcases hx with hx | hx | hx
   ·exact n9 x (.inl hx) x hy rfl
   ·exact n9 x (.inr (.inl (.inl hx))) x hy rfl
   ·exact n9 x (.inr (.inr hx)) x hy rfl
theorem Sim.lift (h:Sim g N s a w φ) {j id k off:Nat} {i:Int} {u t:Ty} {xs:List u.D} {zs:List t.D} {z:u.D} (hj:AE.slot s.env j=.pth id i off t) (hl:lookup s.hp id=some (.arr .dp u xs)) (hz:proj u (nth xs i) off (.sl t)=some zs)
  (hz':upd u (nth xs i) off (.sl t) []=some z) (hidb:id≠base) (hkb:k≠base) (hki:k≠id) :
  ∃ φ',Sim g N { (s.cR id (.arr (.ho i off) u (xs.set i.toNat z))).create k (.arr (Dp.of (!t.flat)) t zs) with env:=iZ ((s.cR id (.arr (.ho i off) u (xs.set i.toNat z))).create k (.arr (Dp.of (!t.flat)) t zs)).env j (.own k none) } a w φ':=by
 have hjg:Nat.blt j bV=true:=by
  cases hb:Nat.blt j bV with
  | true=>rfl
  | false=>unfold AE.slot at hj;rw[hb] at hj;cases hj
 have hv:=h.slot j
 rw[hj] at hv
 rw[show a.tmps.getD j undef=valOf g a j by unfold valOf;rw[hjg];rfl] at hv
 obtain⟨Ep,B',p1,p2,p3,p4,p5⟩:=IJ h hl hv hz
 obtain⟨vh,eh,lh,r1,r2,r3⟩:=p5 z hz'
 obtain⟨r,B,o1,o2,o3,vk,ek,lk,k1,k2,k3⟩:=BA p3 p2
 generalize hs1:s.cR id (.arr (.ho i off) u (xs.set i.toNat z))=s1
 generalize hs2:s1.create k (.arr (Dp.of (!t.flat)) t zs)=s2
 -- the names
 have hlk1:∀m,lookup s1.hp m=if m=id then some (.arr (.ho i off) u (xs.set i.toNat z)) else (lookup s.hp m).map (mapBlock (AV.fQ id)):=by
  intro m
  rw[<-hs1]
  simp only[St.cR,lookup_cons,cW,bf]
  by_cases hm:m=id
  ·simp[hm]
  ·have:¬id=m:=fun e=>hm e.symm
   simp[hm,this]
 have hlk2:∀m,lookup s2.hp m=if m=k then some (.arr (Dp.of (!t.flat)) t zs) else (lookup s1.hp m).map (mapBlock (AV.fO k)):=by
  intro m
  rw[<-hs2]
  simp only[St.create,lookup_cons,cW,bf]
  by_cases hm:m=k
  ·simp[hm]
  ·have:¬k=m:=fun e=>hm e.symm
   simp[hm,this]
 have hlive1:∀m blk',lookup s1.hp m=some blk'->∃blk,lookup s.hp m=some blk/\(m≠id->blk'=mapBlock (AV.fQ id) blk):=by
  intro m blk' hm
  rw[hlk1] at hm
  by_cases hmi:m=id
  ·exact⟨_,hmi▸hl,fun q=>(q hmi).elim⟩
  ·rw[if_neg hmi] at hm
   cases hq:lookup s.hp m with
   | none=>simp[hq] at hm
   | some b0=>simp[hq] at hm;exact⟨b0,rfl,fun _=>hm.symm⟩
 have hlive:∀m blk',m≠k->lookup s2.hp m=some blk'->∃b1,lookup s1.hp m=some b1/\blk'=mapBlock (AV.fO k) b1/\∃blk,lookup s.hp m=some blk:=by
  intro m blk' hmk hm
  rw[hlk2,if_neg hmk] at hm
  cases hq:lookup s1.hp m with
  | none=>simp[hq] at hm
  | some b1=>
   simp[hq] at hm
   obtain⟨b0,hb0,_⟩:=hlive1 m b1 hq
   exact⟨b1,rfl,hm.symm,b0,hb0⟩
 -- who owns what
 have hmain1:∀m,(bp φ id (φ id) B') m=φ m:=by
  intro m
  by_cases hm:m=id<;>simp[bp,hm]
 have howns:∀m b,(bp (bp φ id (φ id) B') k r B).eI m b->(m=k/\b∈Ep)\/(m≠k/\φ.eI m b/\b∉Ep)\/(m≠k/\m≠id/\φ.eI m b):=by
  intro m b ho
  rw[cD] at ho
  by_cases hm:m=k
  ·rw[if_pos hm] at ho
   exact .inl ⟨hm,(o1 b).1 ho⟩
  ·rw[if_neg hm,cD] at ho
   by_cases hmi:m=id
   ·rw[if_pos hmi] at ho
    refine .inr (.inl ⟨hm,?_,?_⟩)
    ·rcases ho with ho | ho
     ·exact .inl (hmi▸ho)
     ·exact .inr (hmi▸(p4 b ho).1)
    ·rcases ho with ho | ho
     ·exact fun q=>h.apart id _ b hl ho (p1 b q)
     ·exact(p4 b ho).2
   ·rw[if_neg hmi] at ho
    exact .inr (.inr ⟨hm,hmi,ho⟩)
 have himm:∀b,imm g φ s.hp w.heap.size b->imm g (bp (bp φ id (φ id) B') k r B) s2.hp w.heap.size b:=by
  rintro b ⟨h1,h2,h3⟩
  refine⟨h1,h2,fun m blk' hm ho=>?_⟩
  rcases howns m b ho with⟨_,q⟩ | ⟨hmk,q,_⟩ | ⟨hmk,_,q⟩
  ·exact h3 id _ hl (.inr (p1 b q))
  ·obtain⟨_,_,_,b0,hb0⟩:=hlive m blk' hmk hm
   exact h3 m b0 hb0 q
  ·obtain⟨_,_,_,b0,hb0⟩:=hlive m blk' hmk hm
   exact h3 m b0 hb0 q
 have L1:LaterS id w w (imm g φ s.hp w.heap.size) (imm g φ s.hp w.heap.size) (aM g) (aM g) φ (bp φ id (φ id) B') s.hp s1.hp:=by
  refine⟨fun _ h=>h,fun _ _ _=>rfl,fun _ h=>h,fun _ _ _=>rfl,fun m blk' hm=>?_⟩
  by_cases hmi:m=id
  ·subst hmi
   rw[hlk1,if_pos rfl] at hm
   cases hm
   refine⟨_,hl,hmain1 m,?_,fun _ b hb=>⟨fun q=>(q rfl).elim,fun cur e hg=>⟨cur,hg,rfl⟩⟩⟩
   intro d1 t1 x1 e
   cases e
   exact⟨_,_,rfl,by simp⟩
  ·obtain⟨b0,hb0,e0⟩:=hlive1 m blk' hm
   refine⟨b0,hb0,hmain1 m,?_,fun _ b hb=>⟨fun _=>rfl,fun cur e hg=>⟨cur,hg,rfl⟩⟩⟩
   rintro d1 t1 x1 rfl
   exact⟨d1,x1,e0 hmi,rfl⟩
 have L2:LaterX k w w (imm g φ s.hp w.heap.size) (imm g (bp (bp φ id (φ id) B') k r B) s2.hp w.heap.size) (aM g) (aM g) (bp φ id (φ id) B') (bp (bp φ id (φ id) B') k r B) s1.hp s2.hp:=by
  refine⟨himm,fun _ _ _=>rfl,fun _ h=>h,fun _ _ _=>rfl,fun m blk' hmk hm=>?_⟩
  obtain⟨b1,hb1,rfl,_⟩:=hlive m blk' hmk hm
  refine⟨b1,hb1,by simp[bp,hmk],?_,fun _ _ _=>rfl⟩
  rintro d1 t1 x1 rfl
  exact⟨d1,x1,rfl,rfl⟩
 have hsim:Sim g N s2 a w (bp (bp φ id (φ id) B') k r B):=by
  refine⟨h.defers,h.size,h.os,h.tape,h.output,h.hsize,h.frame,?_,?_,?_,?_,?_,?_⟩
  ·intro m1 m2 b1 b2 b hm1 hm2 e1 e2
   have up:∀m blk',lookup s2.hp m=some blk'->m≠k->∃blk,lookup s.hp m=some blk:=by
    intro m blk' hm hmk
    obtain⟨_,_,_,b0,hb0⟩:=hlive m blk' hmk hm
    exact⟨b0,hb0⟩
   rcases howns m1 b e1 with⟨a1,a2⟩ | ⟨a1,a2,a3⟩ | ⟨a1,a3,a2⟩<;>rcases howns m2 b e2 with⟨c1,c2⟩ | ⟨c1,c2,c3⟩ | ⟨c1,c3,c2⟩
   ·rw[a1,c1]
   ·exact absurd a2 c3
   ·obtain⟨x2,y2⟩:=up m2 b2 hm2 c1
    exact absurd (h.inj m2 id _ _ b y2 hl c2 (.inr (p1 b a2))) c3
   ·exact absurd c2 a3
   ·obtain⟨x1,y1⟩:=up m1 b1 hm1 a1
    obtain⟨x2,y2⟩:=up m2 b2 hm2 c1
    exact h.inj m1 m2 _ _ b y1 y2 a2 c2
   ·obtain⟨x1,y1⟩:=up m1 b1 hm1 a1
    obtain⟨x2,y2⟩:=up m2 b2 hm2 c1
    exact h.inj m1 m2 _ _ b y1 y2 a2 c2
   ·obtain⟨x1,y1⟩:=up m1 b1 hm1 a1
    exact absurd (h.inj m1 id _ _ b y1 hl a2 (.inr (p1 b c2))) a3
   ·obtain⟨x1,y1⟩:=up m1 b1 hm1 a1
    obtain⟨x2,y2⟩:=up m2 b2 hm2 c1
    exact h.inj m1 m2 _ _ b y1 y2 a2 c2
   ·obtain⟨x1,y1⟩:=up m1 b1 hm1 a1
    obtain⟨x2,y2⟩:=up m2 b2 hm2 c1
    exact h.inj m1 m2 _ _ b y1 y2 a2 c2
  ·intro m blk' b hm hb
   by_cases hmk:m=k
   ·simp only[bp,if_pos hmk] at hb ⊢
    exact o2 b hb
   ·obtain⟨_,_,_,b0,hb0⟩:=hlive m blk' hmk hm
    simp only[bp,if_neg hmk] at hb ⊢
    by_cases hmi:m=id
    ·rw[if_pos hmi] at hb ⊢
     exact fun q=>h.apart id _ b hl hb (p4 b q).1
    ·rw[if_neg hmi] at hb ⊢
     exact h.apart m b0 b hb0 hb
  ·intro m blk' b hm ho
   rcases howns m b ho with⟨_,q⟩ | ⟨hmk,q,_⟩ | ⟨hmk,_,q⟩
   ·obtain⟨z1,z2⟩:=h.place id _ b hl (.inr (p1 b q))
    exact⟨z1,.inl (z2.resolve_right (fun q=>hidb q.2))⟩
   ·obtain⟨_,_,_,b0,hb0⟩:=hlive m blk' hmk hm
    exact h.place m b0 b hb0 q
   ·obtain⟨_,_,_,b0,hb0⟩:=hlive m blk' hmk hm
    exact h.place m b0 b hb0 q
  ·intro m blk' hm
   by_cases hmk:m=k
   ·subst hmk
    rw[hlk2,if_pos rfl] at hm
    cases hm
    have e1:(bp (bp φ id (φ id) B') m r B) m=r:=by simp[bp]
    have e2:(bp (bp φ id (φ id) B') m r B).sub m=B:=by simp[bp]
    rw[e1,e2]
    exact⟨vk,ek,lk,k1,k2,k3 _⟩
   ·obtain⟨b1,hb1,rfl,_⟩:=hlive m blk' hmk hm
    have e1:(bp (bp φ id (φ id) B') k r B) m=(bp φ id (φ id) B') m:=by simp[bp,hmk]
    have e2:(bp (bp φ id (φ id) B') k r B).sub m=(bp φ id (φ id) B').sub m:=by simp[bp,hmk]
    rw[e1,e2]
    refine dL.jv L2 (fun _ _=>rfl) (fun _ _=>rfl) ?_
    by_cases hmi:m=id
    ·subst hmi
     rw[hlk1,if_pos rfl] at hb1
     cases hb1
     have e3:(bp φ m (φ m) B').sub m=B':=by simp[bp]
     rw[hmain1,e3]
     exact⟨vh,eh,lh,r1,r2,r3⟩
    ·obtain⟨b0,hb0,e0⟩:=hlive1 m b1 hb1
     rw[e0 hmi]
     have e3:(bp φ id (φ id) B').sub m=φ.sub m:=by simp[bp,hmi]
     rw[hmain1,e3]
     exact(h.blocks m b0 hb0).kA L1 (fun _ _=>rfl) (fun _ _=>rfl)
  ·intro m av hm
   rw[<-hs2,<-hs1] at hm
   simp only[St.create,St.cR,jd] at hm
   cases hq:lookup s.env m with
   | none=>simp[hq] at hm
   | some v=>
    simp[hq] at hm
    subst hm
    exact ak.jv L2 _ _ (ak.kA L1 v _ (h.env m v hq))
  ·intro blk' hb
   obtain⟨_,_,_,b0,hb0⟩:=hlive base blk' (fun e=>hkb e.symm) hb
   have e1:(bp (bp φ id (φ id) B') k r B) base=φ base:=by
    have q1:¬base=k:=fun e=>hkb e.symm
    have q2:¬base=id:=fun e=>hidb e.symm
    simp[bp,q1,q2]
   rw[e1]
   exact h.pinned b0 hb0
 refine⟨_,hsim.At ?_⟩
 simp only[ak]
 intro blk hb
 rw[hlk2,if_pos rfl] at hb
 cases hb
 refine⟨_,t,zs,rfl,?_⟩
 have e1:(bp (bp φ id (φ id) B') k r B) k=r:=by simp[bp]
 rw[e1]
 exact o3
end
end Go.AE
end
section
namespace Go.AE
open Go Go.RowKit
section
variable {P:Program} {C:Ctx} {g:Gl} {N:Nat} {o:Oper} {s:St} {a:Act} {w:World} {φ:Names} {K:AV->St->Prop}
theorem IL {I S:Nat->Prop} {hp:Hp} {t:Ty} {v:AV} {x:t.D} {u:Value} (hv:ak w I S φ hp v u) (hx:va t v=some x):∃cs,Rep w I t x cs/\u=mkv t cs:=by
 unfold va at hx
 split at hx
 ·split at hx
  ·rename_i hh _
   cases hh
   cases hx
   simp only[ak] at hv
   exact hv
  ·cases hx
 ·cases ha:t.agg with
  | true=>rw[ha] at hx;cases hx
  | false=>
   rw[ha] at hx
   simp only[cond_false] at hx
   simp only[ak] at hv
   obtain⟨cs,hr,e⟩:=iA w I hx
   exact⟨cs,hr,hv.trans e⟩
 ·cases hx
def ov {α:Type}:List (Int×α)->Int->Nat->Option (Nat×α)
 | [],_,_=>none
 | p::l,n,i=>bif decide (n=p.1) then some (i,p.2) else ov l n (i+1)
theorem BN {α:Type}:∀(l:List (Int×α)) (n:Int) (i:Nat),(ov l n i).map (·.2)=HM l n
 | [],_,_=>rfl
 | p::l,n,i=>by
  unfold ov HM
  cases decide (n=p.1) with
  | true=>rfl
  | false=>exact BN l n (i+1)
theorem Dv {I:Nat->Prop} {k:IntKind} {u:Ty} {n:Int}:∀{xs:List (Int×u.D)} {es:List MapEntry} (i:Nat),iu w I k u xs es →
  ∃r,Instr.findNow (.int k) (.int k n) es i=some r/\((ov xs n i=none/\r=none)\/∃j x v cs,ov xs n i=some (j,x)/\r=some (j,v)/\Rep w I u x cs/\v=mkv u cs)
 | [],[],i,_=>⟨none,rfl,.inl ⟨rfl,rfl⟩⟩
 | p::xs,e::es,i,⟨h1,⟨cs,h2,h3⟩,h4⟩=>by
  unfold Instr.findNow ov
  rw[h1]
  by_cases hn:n=p.1
  ·subst hn
   refine⟨some (i,e.val),by simp[Instr.sameNow],.inr ⟨i,p.2,e.val,cs,by simp,rfl,h2,h3⟩⟩
  ·obtain⟨r,q1,q2⟩:=Dv (i+1) h4
   refine⟨r,?_,?_⟩
   ·have hb:(n==p.1)=false:=by simpa using hn
    simp only[Instr.sameNow,if_true,hb]
    exact q1
   ·rw[decide_eq_false hn]
    exact q2
theorem Ga {I:Nat->Prop} {k:IntKind} {u:Ty} {n:Int} {x:u.D} {cs:List Value} (hx:Rep w I u x cs) {clock:Nat}:∀{xs:List (Int×u.D)} {es:List MapEntry} (i:Nat),iu w I k u xs es →
  (ov xs n i=none->iu w I k u (Hi xs n x) (es++[⟨.int k n,mkv u cs,clock⟩])) ∧
  ∀j y,ov xs n i=some (j,y)->i<=j/\(es[j-i]?).map (·.key)=some (.int k n)/\iu w I k u (Hi xs n x) (es.modify (j-i) fun e=>{ e with key:=.int k n,val:=mkv u cs })
 | [],[],i,_=>⟨fun _=>⟨rfl,⟨cs,hx,rfl⟩,trivial⟩,fun j y h=>by cases h⟩
 | p::xs,e::es,i,⟨h1,h2,h4⟩=>by
  obtain⟨q1,q2⟩:=Ga (n:=n) hx (clock:=clock) (i+1) h4
  unfold ov Hi
  by_cases hn:n=p.1
  ·subst hn
   refine⟨fun h=>by simp at h,fun j y h=>?_⟩
   simp only[decide_true,cond_true,Option.some.injEq,Prod.mk.injEq] at h
   obtain⟨rfl,rfl⟩:=h
   refine⟨Nat.le_refl _,by simp[h1],?_⟩
   simp only[decide_true,cond_true,Nat.sub_self,List.modify_zero_cons]
   exact⟨rfl,⟨cs,hx,rfl⟩,h4⟩
  ·rw[decide_eq_false hn]
   simp only[cond_false]
   refine⟨fun h=>⟨h1,h2,q1 h⟩,fun j y h=>?_⟩
   obtain⟨r1,r2,r3⟩:=q2 j y h
   have e1:j-i=(j-(i+1))+1:=by omega
   rw[e1]
   refine⟨by omega,by simpa using r2,?_⟩
   rw[List.modify_succ_cons]
   exact⟨h1,h2,r3⟩
theorem Gb {I:Nat->Prop} {k:IntKind} {u:Ty} {n:Int}:∀{xs:List (Int×u.D)} {es:List MapEntry} (i:Nat),iu w I k u xs es →
  (ov xs n i=none->Hh xs n=xs)/\∀j y,ov xs n i=some (j,y)->i<=j/\iu w I k u (Hh xs n) (es.eraseIdx (j-i))
 | [],[],i,_=>⟨fun _=>rfl,fun j y h=>by cases h⟩
 | p::xs,e::es,i,⟨h1,h2,h4⟩=>by
  obtain⟨q1,q2⟩:=Gb (n:=n) (i+1) h4
  unfold ov Hh
  by_cases hn:n=p.1
  ·subst hn
   refine⟨fun h=>by simp at h,fun j y h=>?_⟩
   simp only[decide_true,cond_true,Option.some.injEq,Prod.mk.injEq] at h
   obtain⟨rfl,rfl⟩:=h
   refine⟨Nat.le_refl _,?_⟩
   simp only[decide_true,cond_true,Nat.sub_self,List.eraseIdx_zero,List.tail_cons]
   exact h4
  ·rw[decide_eq_false hn]
   simp only[cond_false]
   refine⟨fun h=>by rw[q1 h],fun j y h=>?_⟩
   obtain⟨r1,r3⟩:=q2 j y h
   have e1:j-i=(j-(i+1))+1:=by omega
   rw[e1]
   refine⟨by omega,?_⟩
   rw[List.eraseIdx_cons_succ]
   exact⟨h1,h2,r3⟩
theorem Fw (hT:TabOk P C) (h:Sim g N s a w φ) (hd:Nat.add (o.dst.getD 0) C.off≠base) {ty:TypeId} (ho:o.op=.makeMap ty none) (hop:opW C o s K):nN P g N o a w K:=by
 simp only[opW,ho] at hop
 unfold Gy at hop
 split at hop
 case h_2=>exact hop.elim
 rename_i k e u sz by_ hl
 have hS:=h.create hd (ew w (.map #[] 0)) (c:=none) (r:=some w.heap.size) (blk:=.map k u []) (by simp) (fun b hb=>by cases hb;exact⟨by simp,.inl (Nat.le_refl _)⟩) (fun L=>⟨⟨w.heap.size,#[],0,rfl,heap_alloc_new w _,trivial⟩,rfl⟩)
 refine⟨.map (some w.heap.size),_,_,_,_,.inl ?_,hop,hS,?_,ew w _⟩
 ·simp[execOp,ho,Instr.makeMap]
 ·simp only[ak]
  exact fun _ _=>⟨w.heap.size,by simp[lX,bp],rfl⟩
theorem wj (hT:TabOk P C) (h:Sim g N s a w φ) {ty:TypeId} {m k:Operand} {K:(u:Ty)->List (Int×u.D)->Int->(List (Int×u.D)->St)->Prop} (hop:HA C ty (eval s.env m) (eval s.env k) s K) :
  ∃kk e u kt id xs n b es clock,P.underlying ty=some (.map kt e)/\P.underlying kt=some (.int kk)/\(∀w,(zeroValue e).run P w=.ok (mkv u (bq u)) w)/\lookup s.hp id=some (.map kk u xs)/\id≠base/\a.eval m=.map (some b)/\a.eval k=.int kk n/\φ id=some b ∧
   w.heap[b]? = some (.map es clock)/\iu w (imm g φ s.hp w.heap.size) kk u xs es.toList/\K u xs n (fun ys=>s.setBlock id (.map kk u ys)):=by
 have hm:=h.eval m
 have hk:=h.eval k
 unfold HA at hop
 split at hop
 case h_2=>exact hop.elim
 rename_i kk e u sz by_ hl
 obtain⟨kt,t1,t2,t3⟩:=hT.mp _ _ _ _ _ _ hl
 split at hop
 case h_2=>exact hop.elim
 rename_i id em
 split at hop
 case h_2=>exact hop.elim
 rename_i k' u' xs hx
 split at hop
 case h_2=>exact hop.elim
 rename_i hu _
 cases hu
 split at hop
 case h_2=>exact hop.elim
 rename_i k2 n ek
 cases hb:(decide (k2=kk)&&(decide (k'=kk)&&!Nat.beq id base)) with
 | false=>rw[hb] at hop;exact hop.elim
 | true=>
  rw[hb] at hop
  simp only[Bool.and_eq_true,decide_eq_true_eq,Bool.not_eq_true'] at hb
  obtain⟨rfl,rfl,hib⟩:=hb
  rw[em] at hm
  rw[ek] at hk
  simp only[ak] at hm hk
  obtain⟨b,hφ,hmv⟩:=hm _ hx
  obtain⟨cs,hr,hkv⟩:=hk
  cases hr
  obtain⟨⟨b',es,clock,hφ',hg,hrep⟩,hsub⟩:=h.blocks _ _ hx
  rw[hφ] at hφ'
  cases hφ'
  exact⟨_,e,u,kt,id,xs,n,b,es,clock,t1,t2,t3,hx,fun e=>by rw[e] at hib;simp at hib,hmv,by simpa [mkv,Ty.agg] using hkv,hφ,hg,hrep,hop⟩
theorem run_findKey {I:Nat->Prop} {kt:TypeId} {k:IntKind} {u:Ty} {xs:List (Int×u.D)} {es:Array MapEntry} {n:Int} (hk:P.underlying kt=some (.int k)) (hrep:iu w I k u xs es.toList) :
  ∃r,(Instr.findKey kt (.int k n) es.toList).run P w=.ok r w/\((ov xs n 0=none/\r=none)\/∃j x v cs,ov xs n 0=some (j,x)/\r=some (j,v)/\Rep w I u x cs/\v=mkv u cs):=by
 obtain⟨r,h1,h2⟩:=Dv (n:=n) 0 hrep
 exact⟨r,by simp[Instr.findKey,run_underlying hk,h1],h2⟩
theorem run_checkKey {kt:TypeId} {k:IntKind} {n:Int} {e:Bool} (hk:P.underlying kt=some (.int k)):(Instr.checkKey e 10000 kt (.int k n)).run P w=.ok () w:=by
 unfold Instr.checkKey
 simp[run_underlying hk]
theorem GZ (hT:TabOk P C) (h:Sim g N s a w φ) {ty:TypeId} {m k:Operand} {c:Bool} (ho:o.op=.lookup ty m k c) (hop:opW C o s K):nN P g N o a w K:=by
 simp only[opW,ho] at hop
 unfold FM at hop
 obtain⟨kk,e,u,kt,id,xs,n,b,es,clock,t1,t2,t3,hx,_,em,ek,hφ,hg,hrep,hK⟩:=wj hT h hop
 obtain⟨r,hf,hr⟩:=run_findKey (n:=n) t2 hrep
 have hval:∃cs,Rep w (imm g φ s.hp w.heap.size) u (FW u xs n) cs/\(Instr.lookup ty (.map (some b)) (.int kk n) c).run P w=.ok (if c then .tuple #[mkv u cs,.bool (JG xs n)] else mkv u cs) w:=by
  have hmf:=BN xs n 0
  unfold FW JG
  rcases hr with⟨h1,rfl⟩ | ⟨j,x,v,cs,h1,rfl,h2,rfl⟩
  ·rw[h1] at hmf
   rw[<-hmf]
   refine⟨_,nk w _ u,?_⟩
   simp[Instr.lookup,run_underlying t1,MapKept.run_getObj_map hg,run_checkKey t2,hf,t3 w]
  ·rw[h1] at hmf
   rw[<-hmf]
   refine⟨cs,h2,?_⟩
   simp[Instr.lookup,run_underlying t1,MapKept.run_getObj_map hg,run_checkKey t2,hf]
 obtain⟨cs,hrp,hrun⟩:=hval
 have hex:(execOp a.eval o).run P w=.ok (.value (if c then .tuple #[mkv u cs,.bool (JG xs n)] else mkv u cs)) w:=by
  simp[execOp,ho,em,ek,hrun]
 cases c with
 | true=>
  refine⟨_,w,_,_,_,.inl hex,hK,h,?_,Turn.refl w none⟩
  simp only[ak,ax]
  exact⟨[_,_],rfl,_,_,rfl,⟨cs,hrp,rfl⟩,_,_,rfl,⟨[_],rfl,rfl⟩,rfl⟩
 | false=>
  refine⟨_,w,_,_,_,.inl hex,hK,h,?_,Turn.refl w none⟩
  simp only[ak]
  exact⟨cs,hrp,rfl⟩
theorem AY (w:World) (b:Nat) (o:Obj):Turn w { w with heap:=w.heap.setIfInBounds b o } (some b):=
 ⟨rfl,rfl,rfl,by simp,fun x _ hx=>by
  simp only[Array.getElem?_setIfInBounds]
  rw[if_neg (fun e=>hx (by rw[e]))]⟩
theorem EF {w:World} {b:Nat} {o o':Obj} (h:w.heap[b]? = some o):({ w with heap:=w.heap.setIfInBounds b o' }:World).heap[b]? = some o':=by
 have hlt:=(Array.getElem?_eq_some_iff.1 h).1
 simp[hlt]
theorem Sim.Jf (h:Sim g N s a w φ) {id b:Nat} {k:IntKind} {u:Ty} {xs ys:List (Int×u.D)} {es es':Array MapEntry} {clock clock':Nat} (hx:lookup s.hp id=some (.map k u xs)) (hφ:φ id=some b) (hg:w.heap[b]? = some (.map es clock))
  (hr:iu w (imm g φ s.hp w.heap.size) k u ys es'.toList):Sim g N (s.setBlock id (.map k u ys)) a { w with heap:=w.heap.setIfInBounds b (.map es' clock') } φ:=
 h.IP (AY w b _) hx (fun _ _ _ e=>by cases e) (h.blocks id _ hx).2 hφ (fun cur e q=>by rw[hg] at q;cases q) (fun L=>⟨⟨b,es',clock',rfl,EF hg,hr.mono L.imm L.immSame⟩,rfl⟩)
theorem Hq {k:IntKind} {n:Int} (w:World):(Instr.keyThatStays (.int k n) (.int k n)).run P w=.ok (.int k n) w:=by
 simp[Instr.keyThatStays,Instr.sameBits]
theorem Ce (hT:TabOk P C) (h:Sim g N s a w φ) {ty:TypeId} {m k v:Operand} (ho:o.op=.insert ty m k v\/o.op=.mapUpdate ty m k v) (hop:opW C o s K):yp P g N o a w K:=by
 have hop:yN C ty (eval s.env m) (eval s.env k) (eval s.env v) s K:=by rcases ho with ho | ho<;>simpa only[opW,ho] using hop
 unfold yN at hop
 obtain⟨kk,e,u,kt,id,xs,n,b,es,clock,t1,t2,t3,hx,_,em,ek,hφ,hg,hrep,hK⟩:=wj hT h hop
 obtain⟨x,hc,hK⟩:=aJ hK
 obtain⟨cs,hxr,hv⟩:=IL (h.eval v) hc
 obtain⟨r,hf,hr⟩:=run_findKey (n:=n) t2 hrep
 obtain⟨p1,p2⟩:=Ga (n:=n) hxr (clock:=clock) 0 hrep
 have hval:∃es' clock',(Instr.mapUpdate ty (.map (some b)) (.int kk n) (mkv u cs)).run P w=.ok () { w with heap:=w.heap.setIfInBounds b (.map es' clock') }/\iu w (imm g φ s.hp w.heap.size) kk u (Hi xs n x) es'.toList:=by
  rcases hr with⟨h1,rfl⟩ | ⟨j,y,v',cs',h1,rfl,h2,rfl⟩
  ·refine⟨es.push ⟨.int kk n,mkv u cs,clock⟩,clock+1,?_,by simpa using p1 h1⟩
   simp[Instr.mapUpdate,run_underlying t1,MapKept.run_getObj_map hg,run_checkKey t2,hf,MapKept.run_setObj_map _ hg]
  ·obtain⟨_,q1,q2⟩:=p2 j y h1
   simp only[Nat.sub_zero] at q1 q2
   refine⟨es.modify j fun e=>{ e with key:=.int kk n,val:=mkv u cs },clock,?_,by simpa using q2⟩
   have hkey:((es[j]?).map (·.key)).getD (.int kk n)=.int kk n:=by
    have:(es[j]?).map (·.key)=some (.int kk n):=by simpa using q1
    rw[this];rfl
   simp[Instr.mapUpdate,run_underlying t1,MapKept.run_getObj_map hg,run_checkKey t2,hf,hkey,Hq,MapKept.run_setObj_map _ hg]
 obtain⟨es',clock',hrun,hm⟩:=hval
 refine⟨undef,_,_,_,φ,.inr ⟨?_,rfl⟩,hK,h.Jf (clock':=clock') hx hφ hg hm,by simp[ak]⟩
 rcases ho with ho | ho<;>simp[execOp,ho,em,ek,hv,hrun]
theorem Hf (hT:TabOk P C) (h:Sim g N s a w φ) {c:Call} (ho:o.op=.call c) (hc:c.callee=.builtin .delete) {m k:Operand} {ty kty:TypeId} (e1:c.args.toList=[m,k]) (e2:c.argTypes.toList=[ty,kty])
  (hop:CE C ty (eval s.env m) (eval s.env k) s K):yp P g N o a w K:=by
 unfold CE at hop
 obtain⟨kk,e,u,kt,id,xs,n,b,es,clock,t1,t2,t3,hx,_,em,ek,hφ,hg,hrep,hK⟩:=wj hT h hop
 obtain⟨r,hf,hr⟩:=run_findKey (n:=n) t2 hrep
 obtain⟨p1,p2⟩:=Gb (n:=n) 0 hrep
 have ha:c.args=#[m,k]:=by apply Array.ext';simpa using e1
 have ht:c.argTypes=#[ty,kty]:=by apply Array.ext';simpa using e2
 have hval:∃es',(Builtin.delete_ #[ty,kty] o.type #[.map (some b),.int kk n]).run P w=.ok (.tuple #[]) { w with heap:=w.heap.setIfInBounds b (.map es' clock) }/\iu w (imm g φ s.hp w.heap.size) kk u (Hh xs n) es'.toList:=by
  rcases hr with⟨h1,rfl⟩ | ⟨j,y,v',cs',h1,rfl,h2,rfl⟩
  ·refine⟨es,?_,by rw[p1 h1];exact hrep⟩
   simp[Builtin.delete_,run_underlying t1,MapKept.run_getObj_map hg,run_checkKey t2,hf,MapKept.run_setObj_map _ hg]
  ·obtain⟨_,q2⟩:=p2 j y h1
   simp only[Nat.sub_zero] at q2
   refine⟨es.eraseIdxIfInBounds j,?_,?_⟩
   ·simp[Builtin.delete_,run_underlying t1,MapKept.run_getObj_map hg,run_checkKey t2,hf,MapKept.run_setObj_map _ hg]
   ·have:(es.eraseIdxIfInBounds j).toList=es.toList.eraseIdx j:=by
     unfold Array.eraseIdxIfInBounds
     split
     ·simp
     ·rename_i hj
      rw[List.eraseIdx_of_length_le (by simpa using hj)]
    rw[this]
    exact q2
 obtain⟨es',hrun,hm⟩:=hval
 refine⟨.tuple #[],_,_,_,φ,.inl ?_,hK,h.Jf (clock':=clock) hx hφ hg hm,by simp[ak]⟩
 simp[execOp,ho,resolve,hc,invoke,builtin,ha,ht,em,ek,hrun]
end
end Go.AE
end
