/- All operations together. -/
import Derived.Test.YtmkgiaecgkicoaaGreatAeLift
import Derived.Test.YtmkgiaecgkicoaaGreatAeLift
import Derived.OrdersHeld
namespace Go.AE
open Go Go.RowKit
section
variable {P:Program} {C:Ctx} {g:Gl} {N:Nat} {o:Oper} {s:St} {a:Act} {w:World} {φ:Names} {K:AV->St->Prop}
theorem Sim.mine (h:Sim g N s a w φ) (d:Dp) {j id:Nat} {t:Ty} (hj:AE.slot s.env j=.cst (.slice none 0 0)) (hid:id≠base) :
  ∃ φ',Sim g N { s.create id (.arr d t []) with env:=iZ (s.create id (.arr d t [])).env j (.own id none) } a w φ':=by
 have hs:=h.slot j
 have hjg:Nat.blt j bV=true:=by
  cases hb:Nat.blt j bV with
  | true=>rfl
  | false=>unfold AE.slot at hj;rw[hb] at hj;cases hj
 rw[hj] at hs
 simp only[ak] at hs
 have hs':valOf g a j=.slice none 0 0:=by unfold valOf;rw[hjg];exact hs
 obtain⟨h2,h3⟩:=h.wm id hid d t
 refine⟨lX φ id none,h2.defers,h2.size,h2.os,h2.tape,h2.output,h2.hsize,h2.frame,h2.inj,h2.apart,h2.place,h2.blocks,?_,h2.pinned⟩
 intro i av hi
 simp only[iZ,lookup_cons,bf] at hi
 by_cases hij:j=i
 ·subst hij
  simp at hi
  subst hi
  rw[hs']
  exact h3
 ·rw[if_neg hij,if_neg (fun e=>hij e.symm)] at hi
  exact h2.env i av hi
theorem Sim.weak (h:Sim g N s a w φ) {id:Nat} {t:Ty} {xs:List t.D} (hl:lookup s.hp id=some (.arr .dp t xs)) (hid:id≠base) :
  Sim g N (s.cR id (.arr .sh t xs)) a w (bp φ id (φ id) []):=by
 refine h.qG (fu.refl s) hl rfl (Turn.refl w none).p (fun b hb=>by cases hb) (fun b hb=>by simp at hb) (fun _ _ h=>by simp at h) (fun b _ cur e hg=>⟨cur,hg,rfl⟩) (fun L=>?_)
 obtain⟨v,e,l,q1,q2,q3⟩:=h.blocks id _ hl
 refine⟨v,e,l,q1,q2,q3.rep rfl L.imm (fun b hb=>?_),rfl⟩
 obtain⟨p1,p2⟩:=h.place id _ b hl (.inr hb)
 refine⟨Gl.lH (p2.resolve_right (fun q=>hid q.2)),p1,fun i blk hi ho=>?_⟩
 rw[cD] at ho
 simp only[St.cR,lookup_cons,cW,bf] at hi
 by_cases hii:i=id
 ·rw[if_pos hii] at ho
  rcases ho with ho | ho
  ·exact h.apart id _ b hl ho hb
  ·simp at ho
 ·rw[if_neg hii] at ho
  rw[if_neg (fun e=>hii e.symm),if_neg hii] at hi
  cases hq:lookup s.hp i with
  | none=>simp[hq] at hi
  | some b0=>exact hii (h.inj i id _ _ b hq hl ho (.inr hb))
theorem Sim.ren (h:Sim g N s a w φ) {i j id:Nat} {d:Dp} {t:Ty} {xs:List t.D} (hj:AE.slot s.env j=.own i none) (hl:lookup s.hp i=some (.arr d t xs)) (hid:id≠base) (hi:i≠base) :
  ∃ φ',Sim g N { (s.drop i).create id (.arr d t xs) with env:=iZ ((s.drop i).create id (.arr d t xs)).env j (.own id none) } a w φ':=by
 have hjg:Nat.blt j bV=true:=by
  cases hb:Nat.blt j bV with
  | true=>rfl
  | false=>unfold AE.slot at hj;rw[hb] at hj;cases hj
 have hv:=h.slot j
 rw[hj] at hv
 rw[show a.tmps.getD j undef=valOf g a j by unfold valOf;rw[hjg];rfl] at hv
 have hf:fu s (s.drop i):=⟨rfl,fun k blk hk=>by
  simp only[St.drop,bf] at hk
  split at hk
  ·cases hk
  ·exact hk⟩
 have h2:Sim g N ((s.drop i).create id (.arr d t xs)) a w (bp φ id (φ i) (φ.sub i)):=by
  refine h.nZ hf hid (Turn.refl w none).p (fun b hb=>by cases hb) (fun b hb=>?_) (fun b hb=>h.apart i _ b hl hb) (fun L=>?_)
  ·obtain⟨p1,p2⟩:=h.place i _ b hl hb
   exact⟨p1,p2.resolve_right (fun q=>hi q.2),.inr ⟨i,_,hl,hb,.inr (by simp[St.drop,bf])⟩⟩
  ·obtain⟨v,e,l,q1,q2,q3⟩:=h.blocks i _ hl
   exact⟨v,e,l,q1,q2,q3.later L.imm L.immSame (fun _ _=>rfl)⟩
 refine⟨_,h2.At ?_⟩
 simp only[ak] at hv ⊢
 obtain⟨d2,t2,x2,e2,ho⟩:=hv _ hl
 cases e2
 intro blk hb
 simp only[St.create,lookup_cons,if_true] at hb
 cases hb
 refine⟨d,t,xs,rfl,?_⟩
 simpa [bp] using ho
theorem Sim.JD (h:Sim g N s a w φ) {bx off i id:Nat} {cs cs1:List AV} {d:Dp} {t:Ty} {xs:List t.D} (hb:lookup s.hp bx=some (.box cs)) (hn:pq cs off=some (.own i none)) (hl:lookup s.hp i=some (.arr d t xs)) (hid:id≠base) (hi:i≠base) (hne:bx≠id)
  (hl1:lookup ((s.drop i).create id (.arr d t xs)).hp bx=some (.box cs1)):∃ φ',Sim g N (((s.drop i).create id (.arr d t xs)).setBlock bx (.box (setAt cs1 off [.own id none]))) a w φ':=by
 have hf:fu s (s.drop i):=⟨rfl,fun k blk hk=>by
  simp only[St.drop,bf] at hk
  split at hk
  ·cases hk
  ·exact hk⟩
 have h2:Sim g N ((s.drop i).create id (.arr d t xs)) a w (bp φ id (φ i) (φ.sub i)):=by
  refine h.nZ hf hid (Turn.refl w none).p (fun b hb=>by cases hb) (fun b hb=>?_) (fun b hb=>h.apart i _ b hl hb) (fun L=>?_)
  ·obtain⟨p1,p2⟩:=h.place i _ b hl hb
   exact⟨p1,p2.resolve_right (fun q=>hi q.2),.inr ⟨i,_,hl,hb,.inr (by simp[St.drop,bf])⟩⟩
  ·obtain⟨v,e,l,q1,q2,q3⟩:=h.blocks i _ hl
   exact⟨v,e,l,q1,q2,q3.later L.imm L.immSame (fun _ _=>rfl)⟩
 obtain⟨⟨b0,vs0,e0,q1,q2,q3,q4⟩,_⟩:=h.blocks bx _ hb
 obtain⟨uv,e1,hu⟩:=q3.nth hn
 simp only[ak] at hu
 obtain⟨d2,t2,x2,e2,ho⟩:=hu _ hl
 cases e2
 have h3:ak w (imm g (bp φ id (φ i) (φ.sub i)) ((s.drop i).create id (.arr d t xs)).hp w.heap.size) (aM g) (bp φ id (φ i) (φ.sub i)) ((s.drop i).create id (.arr d t xs)).hp (.own id none) uv:=by
  simp only[ak]
  intro blk hbk
  simp only[St.create,lookup_cons,if_true] at hbk
  cases hbk
  refine⟨d,t,xs,rfl,?_⟩
  simpa [bp] using ho
 obtain⟨⟨b,vs,e,p1,p2,p3,p4⟩,_⟩:=h2.blocks bx _ hl1
 have hbb:b=b0:=by
  have:(bp φ id (φ i) (φ.sub i)) bx=φ bx:=by simp[bp,hne]
  rw[this,q1] at p1
  cases p1
  rfl
 subst hbb
 rw[q2] at p2
 cases p2
 have hlt:off<vs0.toList.length:=(List.getElem?_eq_some_iff.1 e1).1
 have hlen:=p3.length
 refine⟨_,h2.setBlock (Turn.refl w (some b)) hl1 p1 (fun cur e hg=>⟨cur,hg,rfl⟩) (fun L=>⟨⟨b,vs0,e0,rfl,q2,?_,q4⟩,rfl⟩)⟩
 have k1:=ax.later L _ _ p3
 have k2:=ak.later L _ _ h3
 have:=jI (n:=off) k1 (k:=[.own id none]) (us:=[uv]) (by simp only[ax];exact⟨_,[],rfl,k2,rfl⟩) (by simp;omega)
 have e9:vs0.toList.take off++[uv]++vs0.toList.drop (off+[AV.own id none].length)=vs0.toList:=by
  have:=List.getElem?_eq_some_iff.1 e1
  obtain⟨hlt,hv⟩:=this
  rw[<-hv]
  show List.take off vs0.toList++[vs0.toList[off]]++List.drop (off+1) vs0.toList=_
  rw[List.append_assoc,List.singleton_append,<-List.drop_eq_getElem_cons hlt,List.take_append_drop]
 rw[e9] at this
 exact this
theorem Sim.trim (h:Sim g N s a w φ) {i j:Nat} {t:Ty} {xs:List t.D} {hi:Int} (hj:AE.slot s.env j=.own i (some ((0:Int),hi))) (hl:lookup s.hp i=some (.arr .sh t xs)) (hib:i≠base) :
  ∃ φ',Sim g N { (s.drop i).create i (.arr .sh t (aj xs (some ((0:Int),hi)))) with env:=iZ ((s.drop i).create i (.arr .sh t (aj xs (some ((0:Int),hi))))).env j (.own i none) } a w φ':=by
 have hjg:Nat.blt j bV=true:=by
  cases hb:Nat.blt j bV with
  | true=>rfl
  | false=>unfold AE.slot at hj;rw[hb] at hj;cases hj
 have hv:=h.slot j
 rw[hj] at hv
 rw[show a.tmps.getD j undef=valOf g a j by unfold valOf;rw[hjg];rfl] at hv
 have hf:fu s (s.drop i):=⟨rfl,fun k blk hk=>by
  simp only[St.drop,bf] at hk
  split at hk
  ·cases hk
  ·exact hk⟩
 simp only[ak] at hv
 obtain⟨d2,t2,x2,e2,h1,h2,h3,A,c,hu,hc,h4,h5⟩:=hv _ hl
 cases e2
 obtain⟨eo,lo,ho,hb⟩:=h4 rfl
 have hcut:aj xs (some ((0:Int),hi))=xs.take hi.toNat:=by
  unfold aj
  simp
 have hlen:(aj xs (some ((0:Int),hi))).length=hi.toNat:=by
  rw[hcut,List.length_take]
  omega
 have h2':Sim g N ((s.drop i).create i (.arr .sh t (aj xs (some ((0:Int),hi))))) a w (bp φ i (φ i) (φ.sub i)):=by
  refine h.nZ hf hib (Turn.refl w none).p (fun b hb=>by cases hb) (fun b hb=>?_) (fun b hb=>h.apart i _ b hl hb) (fun L=>?_)
  ·obtain⟨p1,p2⟩:=h.place i _ b hl hb
   exact⟨p1,p2.resolve_right (fun q=>hib q.2),.inr ⟨i,_,hl,hb,.inr (by simp[St.drop,bf])⟩⟩
  ·obtain⟨v,e,l,q1,q2,q3⟩:=h.blocks i _ hl
   refine⟨valOf g a j,eo,lo,by rw[hlen];exact ho,hb,?_,q3.2⟩
   have q4:=q3.later L.imm L.immSame (fun _ _=>rfl)
   have hol:=ho.1
   rcases ho with⟨_,⟨_,o2⟩ | ⟨b1,cap1,cur1,o1,_,o3,_,_,_,o7⟩⟩
   ·have e0:aj xs (some ((0:Int),hi))=[]:=by rw[hcut,o2,List.take_zero]
    rw[e0]
    show lo=[]
    rw[o2] at hol
    simpa using hol
   ·rcases q1 with⟨_,⟨p1,p2⟩ | ⟨b0,cap0,cur0,p1,_,p3,_,_,_,p7⟩⟩
    ·have:xs=[]:=List.length_eq_zero_iff.1 p2
     subst this
     have e0:aj ([]:List t.D) (some ((0:Int),hi))=[]:=by rw[hcut,List.take_nil]
     rw[e0]
     show lo=[]
     have z:hi.toNat=0:=by simp at h3;omega
     rw[z] at o7
     rw[<-o7]
     simp
    ·have eb:b0=b1:=by
      have:=q2.trans hb.symm
      rw[p1,o1] at this
      simpa [Value.ownBlock] using this
     subst eb
     rw[p3] at o3
     cases o3
     have q5:=cK.take hi.toNat q4.1
     rw[<-p7,List.take_take,Nat.min_eq_left (Nat.mul_le_mul_right _ (by omega)),o7,<-hcut] at q5
     exact q5
 refine⟨_,h2'.At ?_⟩
 simp only[ak]
 intro blk hbl
 simp only[St.create,lookup_cons,if_true] at hbl
 cases hbl
 refine⟨.sh,t,_,rfl,eo,lo,?_,?_⟩
 ·rw[hlen]
  exact ho
 ·simpa [bp] using hb
theorem Sim.dir (h:Sim g N s a w φ) (d:Dir):∃ φ',Sim g N (d.run s) a w φ':=by
 cases d with
 | freeze id=>exact⟨φ,h.freeze id⟩
 | fixBox id=>
  simp only[Dir.run]
  split
  ·rename_i v hl
   cases hq:(v.free&&!Nat.beq id base) with
   | false=>exact⟨φ,h⟩
   | true=>
    obtain⟨h1,h2⟩:=Bool.and_eq_true_iff.1 hq
    have hid:id≠base:=fun e=>by rw[e] at h2;simp at h2
    refine⟨φ,h.fB hl hid fun b hb hI hi=>?_⟩
    obtain⟨⟨b',vs,e,hb',hg,hv,hone⟩,_⟩:=h.blocks id _ hl
    have hb':=hb.symm.trans hb'
    cases hb'
    simp only[ax] at hv
    obtain⟨u,us,hvs,hu,rfl⟩:=hv
    have hc:=dg hg
    rw[hvs] at hc hone
    simp only[ak]
    exact⟨b,0,u,rfl,hi,hc 0 u rfl,hone u (by simp),sy hI (fun _ _ _=>rfl) (fun _ h=>h) (fun _ _ _=>rfl) v u h1 hu⟩
  ·exact⟨φ,h⟩
 | fixOwn id=>
  simp only[Dir.run]
  split
  ·rename_i k hl
   cases hq:(!Nat.beq k id&&!Nat.beq id base) with
   | false=>exact⟨φ,h⟩
   | true=>
    obtain⟨h1,h2⟩:=Bool.and_eq_true_iff.1 hq
    have hid:id≠base:=fun e=>by rw[e] at h2;simp at h2
    have hki:k≠id:=fun e=>by rw[e] at h1;simp at h1
    refine⟨φ,h.fB hl hid fun b hb hI hi=>?_⟩
    obtain⟨⟨b',vs,e,hb',hg,hv,hone⟩,_⟩:=h.blocks id _ hl
    have hb':=hb.symm.trans hb'
    cases hb'
    simp only[ax] at hv
    obtain⟨u,us,hvs,hu,rfl⟩:=hv
    have hc:=dg hg
    rw[hvs] at hc hone
    simp only[ak]
    refine⟨b,0,u,rfl,hi,hc 0 u rfl,hone u (by simp),?_⟩
    intro blk hbl
    simp only[ak] at hu
    simp only[St.fB,cW,bf] at hbl
    rw[if_neg hki] at hbl
    cases hq2:lookup s.hp k with
    | none=>rw[hq2] at hbl;cases hbl
    | some blk0=>
     rw[hq2] at hbl
     obtain⟨d,t,xs,e1,e2⟩:=hu _ hq2
     subst e1
     simp only[Option.map_some,Option.some.injEq] at hbl
     exact⟨d,t,xs,hbl.symm,e2⟩
  ·exact⟨φ,h⟩
 | fixRow id t=>
  simp only[Dir.run]
  split
  ·rename_i cs hl
   split
   ·rename_i x hx
    cases h2:(!Nat.beq id base) with
    | false=>exact⟨φ,h⟩
    | true=>
     have hid:id≠base:=fun e=>by rw[e] at h2;simp at h2
     refine⟨φ,h.fB hl hid fun b hb hI hi=>?_⟩
     obtain⟨⟨b',vs,e,hb',hg,hv,hone⟩,_⟩:=h.blocks id _ hl
     have hb':=hb.symm.trans hb'
     cases hb'
     obtain⟨c,vs',ev,hr,_⟩:=ql hv hx
     have hc:=dg hg
     rw[ev] at hc
     have:=hc.take c.length
     rw[List.take_left] at this
     simp only[ak]
     exact⟨b,0,c,rfl,hi,hr.mono hI (fun _ _ _=>rfl),this⟩
   ·exact⟨φ,h⟩
  ·exact⟨φ,h⟩
 | keep l=>exact⟨φ,(h.less (s':={ s with env:=pZ s.env l }) (fun j v hj=>zT _ _ j v hj) (fun _ _ h=>h)).gc⟩
 | mine j id t=>
  simp only[Dir.run]
  split
  ·rename_i hj
   cases hib:Nat.beq id base with
   | true=>exact⟨φ,h⟩
   | false=>exact h.mine .sh hj (fun e=>by rw[e] at hib;cases hib)
  ·exact⟨φ,h⟩
 | mineD j id t=>
  simp only[Dir.run]
  split
  ·rename_i hj
   cases hib:Nat.beq id base with
   | true=>exact⟨φ,h⟩
   | false=>exact h.mine .dp hj (fun e=>by rw[e] at hib;cases hib)
  ·exact⟨φ,h⟩
 | mineC d bx off id t=>
  simp only[Dir.run]
  split
  ·rename_i cs hl
   split
   ·rename_i hn
    cases hb:(Nat.beq id base||Nat.beq bx id) with
    | true=>exact⟨φ,h⟩
    | false=>
    simp only[cond_false]
    obtain⟨hb1,hb2⟩:=Bool.or_eq_false_iff.1 hb
    have hid:id≠base:=by rintro rfl;simp at hb1
    have hne:bx≠id:=by rintro rfl;simp at hb2
    obtain⟨⟨b0,vs0,e0,q1,q2,q3,q4⟩,_⟩:=h.blocks bx _ hl
    obtain⟨uv,e1,hu⟩:=q3.nth hn
    simp only[ak] at hu
    subst hu
    obtain⟨h2,h3⟩:=h.wm id hid d t
    split
    ·rename_i cs1 hl1
     obtain⟨⟨b,vs,e,p1,p2,p3,p4⟩,_⟩:=h2.blocks bx _ hl1
     have hbb:b=b0:=by
      have:(lX φ id none) bx=φ bx:=by simp[lX,bp,hne]
      rw[this,q1] at p1
      cases p1
      rfl
     subst hbb
     rw[q2] at p2
     cases p2
     have hlt:off<vs0.toList.length:=(List.getElem?_eq_some_iff.1 e1).1
     have hlen:=p3.length
     refine⟨_,h2.setBlock (Turn.refl w (some b)) hl1 p1 (fun cur e hg=>⟨cur,hg,rfl⟩) (fun L=>⟨⟨b,vs0,e0,rfl,q2,?_,q4⟩,rfl⟩)⟩
     have k1:=ax.later L _ _ p3
     have k2:=ak.later L _ _ h3
     have:=jI (n:=off) k1 (k:=[.own id none]) (us:=[.slice none 0 0]) (by simp only[ax];exact⟨_,[],rfl,k2,rfl⟩) (by simp;omega)
     have e9:vs0.toList.take off++[Value.slice none 0 0]++vs0.toList.drop (off+[AV.own id none].length)=vs0.toList:=by
      have:=List.getElem?_eq_some_iff.1 e1
      obtain⟨hlt,hv⟩:=this
      rw[<-hv]
      show List.take off vs0.toList++[vs0.toList[off]]++List.drop (off+1) vs0.toList=_
      rw[List.append_assoc,List.singleton_append,<-List.drop_eq_getElem_cons hlt,List.take_append_drop]
     rw[e9] at this
     exact this
    ·exact⟨φ,h⟩
   ·exact⟨φ,h⟩
  ·exact⟨φ,h⟩
 | clip j=>
  simp only[Dir.run]
  split
  ·rename_i id hj
   split
   ·rename_i d t xs hl
    refine⟨φ,?_⟩
    have hjg:Nat.blt j bV=true:=by
     cases hb:Nat.blt j bV with
     | true=>rfl
     | false=>unfold AE.slot at hj;rw[hb] at hj;cases hj
    have hv:=h.slot j
    rw[hj] at hv
    rw[show a.tmps.getD j undef=valOf g a j by unfold valOf;rw[hjg];rfl] at hv
    have hc:ak w (imm g φ s.hp w.heap.size) (aM g) φ s.hp (.clp id (xs.length:Int)) (valOf g a j):=by
     simp only[ak] at hv ⊢
     intro blk hbl
     obtain⟨d2,t2,x2,rfl,eo,lo,ho,hb2⟩:=hv blk hbl
     rw[hl] at hbl
     cases hbl
     exact⟨d,t,xs,rfl,by omega,by omega,eo,lo,by simpa using ho,hb2⟩
    exact h.At hc
   ·exact⟨φ,h⟩
  ·exact⟨φ,h⟩
 | flat j=>
  simp only[Dir.run]
  split
  ·rename_i t vs hj
   split
   ·rename_i x hx
    refine⟨φ,?_⟩
    have hjg:Nat.blt j bV=true:=by
     cases hb:Nat.blt j bV with
     | true=>rfl
     | false=>unfold AE.slot at hj;rw[hb] at hj;cases hj
    have hv:=h.slot j
    rw[hj] at hv
    rw[show a.tmps.getD j undef=valOf g a j by unfold valOf;rw[hjg];rfl] at hv
    have hc:ak w (imm g φ s.hp w.heap.size) (aM g) φ s.hp (.data t x) (valOf g a j):=by
     simp only[ak] at hv ⊢
     obtain⟨us,e,_,_,hr⟩:=hv
     obtain⟨cs,vs',ev,hrep,hnil⟩:=ql hr hx
     have:vs'=[]:=by simpa [ax] using hnil
     subst this
     rw[List.append_nil] at ev
     subst ev
     exact⟨_,hrep,e⟩
    exact h.At hc
   ·exact⟨φ,h⟩
  ·exact⟨φ,h⟩
 | weak id=>
  simp only[Dir.run]
  split
  ·rename_i t xs hl
   cases hib:Nat.beq id base with
   | true=>exact⟨φ,h⟩
   | false=>exact⟨_,h.weak hl (fun e=>by rw[e] at hib;cases hib)⟩
  ·exact⟨φ,h⟩
 | JD bx off id=>
  simp only[Dir.run]
  split
  ·rename_i cs hb
   split
   ·rename_i i hn
    split
    ·rename_i d t xs hl
     cases hq:(Nat.beq id base||(Nat.beq i base||Nat.beq bx id)) with
     | true=>exact⟨φ,h⟩
     | false=>
      obtain⟨hb1,hb2⟩:=Bool.or_eq_false_iff.1 hq
      obtain⟨hb2,hb3⟩:=Bool.or_eq_false_iff.1 hb2
      simp only[cond_false]
      split
      ·rename_i cs1 hl1
       exact h.JD hb hn hl (fun e=>by rw[e] at hb1;simp at hb1) (fun e=>by rw[e] at hb2;simp at hb2) (fun e=>by rw[e] at hb3;simp at hb3) hl1
      ·exact⟨φ,h⟩
    ·exact⟨φ,h⟩
   ·exact⟨φ,h⟩
  ·exact⟨φ,h⟩
 | ren j id=>
  simp only[Dir.run]
  split
  ·rename_i i hj
   split
   ·rename_i d t xs hl
    cases hb:(Nat.beq id base||(Nat.beq i base||Nat.beq i id)) with
    | true=>exact⟨φ,h⟩
    | false=>
     obtain⟨hb1,hb2⟩:=Bool.or_eq_false_iff.1 hb
     obtain⟨hb2,_⟩:=Bool.or_eq_false_iff.1 hb2
     exact h.ren hj hl (fun e=>by rw[e] at hb1;cases hb1) (fun e=>by rw[e] at hb2;cases hb2)
   ·exact⟨φ,h⟩
  ·exact⟨φ,h⟩
 | lift j k=>
  simp only[Dir.run]
  split
  ·rename_i id i off v hj
   split
   ·rename_i u xs hl
    cases hb:(Nat.beq id base||(Nat.beq k base||Nat.beq k id)) with
    | true=>exact⟨φ,h⟩
    | false=>
     obtain⟨hb1,hb2⟩:=Bool.or_eq_false_iff.1 hb
     obtain⟨hb2,hb3⟩:=Bool.or_eq_false_iff.1 hb2
     simp only[cond_false]
     split
     ·rename_i zs hz
      split
      ·rename_i z hz'
       exact h.lift hj hl hz hz' (fun e=>by rw[e] at hb1;cases hb1) (fun e=>by rw[e] at hb2;cases hb2) (fun e=>by rw[e] at hb3;simp at hb3)
      ·exact⟨φ,h⟩
     ·exact⟨φ,h⟩
   ·exact⟨φ,h⟩
  ·exact⟨φ,h⟩
 | trim j=>
  simp only[Dir.run]
  split
  ·rename_i i hi hj
   split
   ·rename_i t xs hl
    cases hb:Nat.beq i base with
    | true=>exact⟨φ,h⟩
    | false=>exact h.trim hj hl (fun e=>by rw[e] at hb;cases hb)
   ·exact⟨φ,h⟩
  ·exact⟨φ,h⟩
theorem Sim.norm (l:List Dir):∀{s:St} {φ:Names},Sim g N s a w φ->∃ φ',Sim g N (norm s l) a w φ':=by
 induction l with
 | nil=>exact fun h=>⟨_,h⟩
 | cons d l ih=>
  intro s φ h
  obtain⟨φ',h'⟩:=h.dir d
  exact ih h'

theorem JI {S:World->Prop} (hT:TabOk P C) (h:Sim g N s a w φ) (hd:Nat.add (o.dst.getD 0) C.off≠base) (hq:CL o=true) (hop:opW C o s K):eY S P g N o a w K:=by
 unfold CL at hq
 split at hq
 ·exact CF h hd (.inl ‹_›) hop
 ·exact uA hT h ‹_› hop
 ·exact vf hT h ‹_› hop
 ·exact IM hT h ‹_› hop
 ·exact Kn h ‹_› hop
 ·exact DG hT h ‹_› hop
 ·cases hq
theorem Eg (hT:TabOk P C) (h:Sim g N s a w φ) (hd:Nat.add (o.dst.getD 0) C.off≠base) (hq:sF o=true) (hop:opW C o s K):cq P g N o a w K:=by
 unfold sF at hq
 split at hq
 ·exact CF h hd (.inl ‹_›) hop
 ·exact CF h hd (.inr ‹_›) hop
 ·exact Jq h ‹_› hop
 ·exact Jm hT h ‹_› hop
 ·exact Eu h ‹_› hop
 ·exact IM hT h ‹_› hop
 ·exact Kn h ‹_› hop
 ·exact uA hT h ‹_› hop
 ·exact Il hT h ‹_› hop
 ·exact vf hT h ‹_› hop
 ·exact Jc hT h ‹_› hop
 ·exact EI h ‹_› hop
 ·exact Ef h ‹_› hop
 ·exact Ia hT h ‹_› hop
 ·exact DG hT h ‹_› hop
 ·rename_i c ho
  simp only[opW,ho] at hop
  split at hq
  case h_2=>cases hq
  rename_i b hc
  simp only[hc] at hop
  split at hq
  ·split at hop
   all_goals first
    | exact hop.elim
    | exact Ky hT h ho hc ‹_› ‹_› hop
    | (rename_i e _;cases e;done)
    | (rename_i e _ _;cases e;done)
  ·split at hop
   all_goals first
    | exact hop.elim
    | exact Kl (m:=false) h ho hc ‹_› hop
    | (rename_i e _;cases e;done)
    | (rename_i e _ _;cases e;done)
  ·split at hop
   all_goals first
    | exact hop.elim
    | exact Kl (m:=true) h ho hc ‹_› hop
    | (rename_i e _;cases e;done)
    | (rename_i e _ _;cases e;done)
  ·cases hq
 ·cases hq
theorem yp.wp (h:yp P g N o a w K) {next:Act->World->Prop} {Q:Exit->Act->World->Prop}
  (hn:∀u w' v s' φ',K v s'->Sim g N s' a w' φ'->ak w' (imm g φ' s'.hp w'.heap.size) (aM g) φ' s'.hp v u->next (a.put o.dst u) w'):o.wp P a w next Q:=by
 obtain⟨u,w',v,s',φ',hr,hk,hs,hv⟩:=h
 unfold Oper.wp
 rcases hr with hr | ⟨hr,rfl⟩
 ·rw[hr];exact hn _ _ _ _ _ hk hs hv
 ·rw[hr];exact hn _ _ _ _ _ hk hs hv
theorem nN.wp (h:nN P g N o a w K) {next:Act->World->Prop} {Q:Exit->Act->World->Prop}
  (hn:∀u w' v s' φ',K v s'->Sim g N s' a w' φ'->ak w' (imm g φ' s'.hp w'.heap.size) (aM g) φ' s'.hp v u->Turn w w' none->next (a.put o.dst u) w'):o.wp P a w next Q:=by
 obtain⟨u,w',v,s',φ',hr,hk,hs,hv,ht⟩:=h
 unfold Oper.wp
 rcases hr with hr | ⟨hr,rfl⟩
 ·rw[hr];exact hn _ _ _ _ _ hk hs hv ht
 ·rw[hr];exact hn _ _ _ _ _ hk hs hv ht
theorem ax.append {w:World} {I S:Nat->Prop} {φ:Names} {hp:Hp}:∀{l k:List AV} {vs us:List Value},ax w I S φ hp l vs->ax w I S φ hp k us->ax w I S φ hp (l++k) (vs++us)
 | [],k,vs,us,h,h'=>by simp only[ax] at h;subst h;exact h'
 | b::l,k,vs,us,h,h'=>by
  simp only[ax] at h
  obtain⟨v,vs',rfl,h1,h2⟩:=h
  simp only[List.cons_append,ax]
  exact⟨v,_,rfl,h1,ax.append h2 h'⟩
theorem Sim.vM (h:Sim g N s a w φ) (b x:AV):∃ φ',Sim g N (vM b x s) a w φ':=by
 unfold AE.vM
 split
 ·split
  ·exact h.dir _
  ·exact h.dir _
  ·exact⟨φ,h⟩
 ·exact⟨φ,h⟩
theorem Sim.qh (h:Sim g N s a w φ) (x:Operand) (d:Nat):∃ φ',Sim g N (qh x d s) a w φ':=by
 unfold AE.qh
 split
 ·split
  ·exact h.dir _
  ·exact⟨φ,h⟩
 ·exact⟨φ,h⟩
theorem Sim.so (h:Sim g N s a w φ) (C:Ctx) (f:Operand) (l:List Operand) (d:Nat):∃ φ',Sim g N (AE.so C f l d s) a w φ':=by
 unfold AE.so
 split
 ·split
  ·split
   ·exact h.qh _ _
   ·exact⟨φ,h⟩
  ·exact⟨φ,h⟩
 ·exact⟨φ,h⟩
theorem DO (C:Ctx) (f:Operand) (l:List Operand) (d:Nat) (s:St):eval (AE.so C f l d s).env f=eval s.env f:=by
 cases f<;>rfl
theorem DT {C:Ctx} {f:Operand} {l:List Operand} {d:Nat} {s:St} {fid:FuncId} {caps:List AV} (h:eval s.env f=.fn fid caps) (hn:lookup C.inl fid=none):AE.so C f l d s=s:=by
 cases f with
 | func g=>
  simp only[eval] at h
  cases h
  unfold AE.so
  simp only[hn]
 | _=>rfl
theorem HY (hT:TabOk P C) (hC:eL P C) (h:Sim g N s a w φ) (hd:Nat.add (o.dst.getD 0) C.off≠base) (hop:opW C o s K) {next:Act->World->Prop} {Q:Exit->Act->World->Prop}
  (hn:∀u w' v s' φ',K v s'->Sim g N s' a w' φ'->ak w' (imm g φ' s'.hp w'.heap.size) (aM g) φ' s'.hp v u->(jc o=false->uU C o s=true->Turn w w' none)->next (a.put o.dst u) w') :
  o.wp P a w next Q:=by
 cases hq:sF o with
 | true=>exact(Eg hT h hd hq hop).Im.wp fun u w' v s' φ' h1 h2 h3 h4=>hn u w' v s' φ' h1 h2 h3 (fun _ _=>h4)
 | false=>
 have grow:nN P g N o a w K->o.wp P a w next Q:=fun hd=>hd.wp fun u w' v s' φ' h1 h2 h3 h4=>hn u w' v s' φ' h1 h2 h3 (fun _ _=>h4)
 have write:jc o=true->yp P g N o a w K->o.wp P a w next Q:=fun hw hd=>hd.wp fun u w' v s' φ' h1 h2 h3=>hn u w' v s' φ' h1 h2 h3 (fun e=>by rw[hw] at e;cases e)
 cases ho:o.op with
 | alloc e=>exact grow (Ib hT h hd ho hop)
 | convert sr ds x=>exact grow (Fu hT h ho hop)
 | box e x=>exact grow (Ks h hd ho hop)
 | buildSlice t n parts=>exact grow (Bc hT h hd ho hop)
 | makeSlice t x y=>exact grow (Jv hT h hd ho hop)
 | store t x y=>exact write (by simp[jc,ho]) (HC hT h ho hop)
 | insert t x y z=>exact write (by simp[jc,ho]) (Ce hT h (.inl ho) hop)
 | mapUpdate t x y z=>exact write (by simp[jc,ho]) (Ce hT h (.inr ho) hop)
 | lookup t x y c=>exact grow (GZ hT h ho hop)
 | makeMap t r=>
  cases r with
  | none=>exact grow (Fw hT h hd ho hop)
  | some r=>simp[opW,ho] at hop
 | call c=>
  cases hc:c.callee with
  | builtin b=>
   have hop':=hop
   simp only[opW,ho,hc] at hop'
   split at hop'
   all_goals first
    | exact hop'.elim
    | (exfalso;simp[sF,ho,hc] at hq;done)
    | skip
   ·rename_i e1 e2
    rename_i u
    cases hi:CR C.tab u with
    | true=>rw[hi] at hop';exact write (by simp[jc,ho,hc]) (JU hT h hd ho hc e1 e2 hop')
    | false=>
     rw[hi] at hop'
     obtain⟨φ₁,h₁⟩:=h.qh _ _
     obtain⟨φ',h'⟩:=h₁.vM _ _
     refine write (by simp[jc,ho,hc]) (GN hT h' hd ho hc e1 e2 ?_ hop')
     unfold CR at hi
     split at hi
     ·cases hi
     ·rename_i ti hne hl
      refine⟨_,hl,fun k hk=>?_⟩
      obtain⟨td,sz,by_⟩:=ti
      have hk:td=.val (.int k):=hk
      subst hk
      exact hne _ _ _ rfl
     ·cases hi
   ·rename_i e1 e2
    exact grow (KV hT h ho hc e1 e2 hop')
   ·rename_i e1 e2
    exact write (by simp[jc,ho,hc]) (HN hT h ho hc e1 e2 hop')
   ·rename_i e1 e2
    exact write (by simp[jc,ho,hc]) (Hf hT h ho hc e1 e2 hop')
  | invoke r n=>simp[opW,ho,hc] at hop
  | value f=>
   have hop':=hop
   simp only[opW,ho,hc] at hop'
   split at hop'
   case h_2=>exact hop'.elim
   rename_i fid caps e1
   unfold Kb at hop'
   cases hin:lookup C.inl fid with
   | some T=>
    obtain⟨φ₁,h₁⟩:=h.so C f c.args.toList _
    have hf:=h₁.eval f
    rw[DO,e1] at hf
    simp only[ak] at hf
    obtain⟨cvs,hfv,hcv⟩:=hf
    have hargs:=ax.append (sS h₁ c.args.toList) hcv
    obtain⟨hent,hcall⟩:=Gg hC h₁ hd hargs hop'
    unfold Oper.wp
    have hrun:(execOp a.eval o).run P w=.ok (.enter fid (c.args.toList.map a.eval++cvs).toArray) w:=by
     have:(execOp a.eval o).run P w=(callFunc fid (c.args.map a.eval++cvs.toArray)).run P w:=by
      simp[execOp,ho,resolve,hc,hfv,Deferred.ofValue,invoke]
     rw[this,hent]
     congr 2
     apply Array.ext'
     simp
    rw[hrun,Oper.upon_enter]
    refine Calls.mono hcall ?_
    intro e w' he
    cases e with
    | returned u=>
     obtain⟨v,s',φ',h1,h2,h3,h4⟩:=he
     refine hn u w' v s' φ' h1 h2 h3 (fun _ hl=>?_)
     unfold uU at hl
     simp only[ho,hc,e1,hin] at hl
     cases hl
    | panicked c=>exact he.elim
    | outgrown=>exact he.elim
   | none=>
    rw[DT e1 hin] at hop'
    have hf:=h.eval f
    rw[e1] at hf
    simp only[ak] at hf
    obtain⟨cvs,hfv,hcv⟩:=hf
    have hargs:=ax.append (sS h c.args.toList) hcv
    obtain⟨hent,hcall⟩:=Gg hC h hd hargs hop'
    unfold Oper.wp
    have hrun:(execOp a.eval o).run P w=.ok (.enter fid (c.args.toList.map a.eval++cvs).toArray) w:=by
     have:(execOp a.eval o).run P w=(callFunc fid (c.args.map a.eval++cvs.toArray)).run P w:=by
      simp[execOp,ho,resolve,hc,hfv,Deferred.ofValue,invoke]
     rw[this,hent]
     congr 2
     apply Array.ext'
     simp
    rw[hrun,Oper.upon_enter]
    refine Calls.mono hcall ?_
    intro e w' he
    cases e with
    | returned u=>
     obtain⟨v,s',φ',h1,h2,h3,h4⟩:=he
     refine hn u w' v s' φ' h1 h2 h3 (fun _ hl=>h4 ?_)
     unfold uU at hl
     simp only[ho,hc,e1] at hl
     split at hl
     ·cases hl
     rename_i hin
     split at hl
     ·rename_i con hcon
      split at hl
      ·rename_i hm
       exact⟨hin,con,hcon,.inl hm⟩
      ·cases hl
      ·cases hl
      ·rename_i hm
       split at hl
       ·rename_i p hp
        split at hl
        ·rename_i hpt
         exact⟨hin,con,hcon,.inr ⟨hm,p,hp,hpt⟩⟩
        ·cases hl
       ·cases hl
     ·cases hl
    | panicked c=>exact he.elim
    | outgrown=>exact he.elim
 | _=>first
  | (exfalso;simp[sF,ho] at hq;done)
  | (exfalso;simp[opW,ho] at hop;done)
end
end Go.AE
