/- How knowledge of memory moves: arrays that become fixed, names that are given anew. -/
import Derived.Test.YtmkgiaecgkicoaaGreatAeRep
namespace Go.AE
open Go Go.RowKit
theorem rZ {b:Bool} {P:Prop} (h:chk b P):b=true/\P:=by
 cases b
 ·exact h.elim
 ·exact⟨rfl,h⟩
theorem bf {α:Type} (l:List (Nat×α)) (i j:Nat):lookup (erase l i) j=if j=i then none else lookup l j:=by
 induction l with
 | nil=>simp[erase,lookup]
 | cons p l ih=>
  obtain⟨k,x⟩:=p
  by_cases hk:k=i
  ·subst hk
   simp only[erase,Nat.beq_refl,cond_true,ih,lookup]
   by_cases hj:j=k
   ·simp[hj]
   ·have:Nat.beq k j=false:=by rw[<-Bool.not_eq_true,Nat.beq_eq];exact fun h=>hj h.symm
    simp[hj,this]
  ·have hb:Nat.beq k i=false:=by rw[<-Bool.not_eq_true,Nat.beq_eq];exact hk
   simp only[erase,hb,cond_false,lookup]
   by_cases hj:k=j
   ·subst hj
    simp[hk]
   ·have:Nat.beq k j=false:=by rw[<-Bool.not_eq_true,Nat.beq_eq];exact hj
    simp[this,ih]
theorem lookup_cons {α:Type} (l:List (Nat×α)) (i j:Nat) (x:α):lookup ((i,x)::l) j=if i=j then some x else lookup l j:=by
 by_cases h:i=j
 ·subst h;simp[lookup]
 ·have:Nat.beq i j=false:=by rw[<-Bool.not_eq_true,Nat.beq_eq];exact h
  simp[lookup,this,h]
theorem jd (f:AV->AV) (e:Env) (j:Nat):lookup (tR f e) j=(lookup e j).map f:=by
 induction e with
 | nil=>rfl
 | cons p l ih=>
  obtain⟨k,v⟩:=p
  simp only[tR,lookup]
  cases Nat.beq k j<;>simp[ih]
def mapBlock (f:List AV->List AV):Block->Block
 | .box cs=>.box (f cs)
 | .arr d t xs=>.arr d t xs
 | .map k u xs=>.map k u xs
theorem cW (f:List AV->List AV) (h:Hp) (j:Nat):lookup (ko f h) j=(lookup h j).map (mapBlock f):=by
 induction h with
 | nil=>rfl
 | cons p l ih=>
  obtain⟨k,v⟩:=p
  cases v<;>simp only[ko,lookup]<;>cases Nat.beq k j<;>simp[ih,mapBlock]
structure LaterX (id:Nat) (w w':World) (I I' S S':Nat->Prop) (φ φ':Names) (hp hp':Hp):Prop where
 imm:∀b,I b->I' b
 immSame:ki I w w'
 aM:∀b,S b->S' b
 stabSame:ki S w w'
 names:∀i blk',i≠id->lookup hp' i=some blk'->∃blk,lookup hp i=some blk/\φ' i=φ i ∧
  (∀d t xs,blk=.arr d t xs->∃d' xs',blk'=.arr d' t xs'/\xs'.length=xs.length) ∧
  ((∃d t xs,blk=.arr d t xs)->∀b,φ i=some b->w'.heap[b]? = w.heap[b]?)
section
variable {id:Nat} {w w':World} {I I' S S':Nat->Prop} {φ φ':Names} {hp hp':Hp}
theorem aZ (i j:Nat):(i=j/\Nat.beq i j=true)\/(i≠j/\Nat.beq i j=false):=by
 by_cases h:i=j
 ·exact .inl ⟨h,by rw[h];simp⟩
 ·exact .inr ⟨h,by rw[<-Bool.not_eq_true,Nat.beq_eq];exact h⟩
mutual
theorem ak.jv (L:LaterX id w w' I I' S S' φ φ' hp hp'):∀(av:AV) (u:Value),ak w I S φ hp av u->ak w' I' S' φ' hp' (av.kill id) u
 | .top,_,_=>by simp[AV.kill,ak]
 | .cst v,u,h=>by simpa [AV.kill,ak] using h
 | .data t x,u,h=>by
  simp only[AV.kill,ak] at h ⊢
  obtain⟨cs,h1,h2⟩:=h
  exact⟨cs,h1.mono L.imm L.immSame,h2⟩
 | .adr t x,u,h=>by
  simp only[AV.kill,ak] at h ⊢
  obtain⟨b,o,cs,h1,h2,h3,h4⟩:=h
  exact⟨b,o,cs,h1,L.imm _ h2,h3.mono L.imm L.immSame,h4.same (L.immSame b h2)⟩
 | .brw t xs,u,h=>by
  simp only[AV.kill,ak] at h ⊢
  obtain⟨A,c,h1,h2,h3⟩:=h
  refine⟨A,c,h1,h2,?_⟩
  rcases h3 with h3 | ⟨b,o,l,hA,hb,hcs,hl⟩
  ·exact .inl h3
  ·exact .inr ⟨b,o,l,hA,L.aM b hb,hcs.same (L.stabSame b hb),hl.mono' L.imm L.immSame⟩
 | .badr t x,u,h=>by
  simp only[AV.kill,ak] at h ⊢
  obtain⟨b,o,cs,h1,h2,h3,h4⟩:=h
  exact⟨b,o,cs,h1,L.aM _ h2,h3.mono L.imm L.immSame,h4.same (L.stabSame b h2)⟩
 | .ptr i off,u,h=>by
  rcases aZ i id with⟨_,hb⟩ | ⟨hne,hb⟩
  ·simp[AV.kill,hb,ak]
  ·simp only[AV.kill,hb,cond_false,ak] at h ⊢
   intro blk' hk
   obtain⟨blk,h1,h2,_⟩:=L.names i blk' hne hk
   rw[h2]
   exact h blk h1
 | .elt i n off,u,h=>by
  rcases aZ i id with⟨_,hb⟩ | ⟨hne,hb⟩
  ·simp[AV.kill,hb,ak]
  ·simp only[AV.kill,hb,cond_false,ak] at h ⊢
   intro blk' hk
   obtain⟨blk,h1,h2,h3,_⟩:=L.names i blk' hne hk
   obtain⟨d,t,xs,b,rfl,hφ,h0,hi,hu⟩:=h blk h1
   obtain⟨d',xs',rfl,hl⟩:=h3 d t xs rfl
   exact⟨d',t,xs',b,rfl,h2.trans hφ,h0,by rw[hl];exact hi,hu⟩
 | .own i cut,u,h=>by
  rcases aZ i id with⟨_,hb⟩ | ⟨hne,hb⟩
  ·simp[AV.kill,hb,ak]
  ·simp only[AV.kill,hb,cond_false,ak] at h ⊢
   intro blk' hk
   obtain⟨blk,h1,h2,h3,h4⟩:=L.names i blk' hne hk
   obtain⟨d,t,xs,rfl,ho⟩:=h blk h1
   obtain⟨d',xs',rfl,hl⟩:=h3 d t xs rfl
   exact⟨d',t,xs',rfl,by rw[h2,hl];exact ho.later (fun b hb cur e hg=>⟨cur,(h4 ⟨_,_,_,rfl⟩ b hb).trans hg,rfl⟩)⟩
 | .clp i hi,u,h=>by
  rcases aZ i id with⟨_,hb⟩ | ⟨hne,hb⟩
  ·simp[AV.kill,hb,ak]
  ·simp only[AV.kill,hb,cond_false,ak] at h ⊢
   intro blk' hk
   obtain⟨blk,h1,h2,h3,h4⟩:=L.names i blk' hne hk
   obtain⟨d,t,xs,rfl,ho⟩:=h blk h1
   obtain⟨d',xs',rfl,hl⟩:=h3 d t xs rfl
   exact⟨d',t,xs',rfl,by rw[h2,hl];exact ho.later (fun b hb cur e hg=>⟨cur,(h4 ⟨_,_,_,rfl⟩ b hb).trans hg,rfl⟩)⟩
 | .agg t avs,u,h=>by
  simp only[AV.kill,ak] at h ⊢
  obtain⟨vs,h1,h2,h3,h4⟩:=h
  exact⟨vs,h1,h2,h3,ax.jv L avs vs h4⟩
 | .mp i,u,h=>by
  rcases aZ i id with⟨_,hb⟩ | ⟨hne,hb⟩
  ·simp[AV.kill,hb,ak]
  ·simp only[AV.kill,hb,cond_false,ak] at h ⊢
   intro blk' hk
   obtain⟨blk,h1,h2,_⟩:=L.names i blk' hne hk
   obtain⟨b,e1,e2⟩:=h blk h1
   exact⟨b,h2.trans e1,e2⟩
 | .pth i n off t',u,h=>by
  rcases aZ i id with⟨_,hb⟩ | ⟨hne,hb⟩
  ·simp[AV.kill,hb,ak]
  ·simp only[AV.kill,hb,cond_false,ak] at h ⊢
   intro blk' hk
   obtain⟨blk,h1,h2,h3,h4⟩:=L.names i blk' hne hk
   obtain⟨d,t,xs,b,cur,e,rfl,hφ,h0,hi,hg,hu⟩:=h blk h1
   obtain⟨d',xs',rfl,hl⟩:=h3 d t xs rfl
   exact⟨d',t,xs',b,cur,e,rfl,h2.trans hφ,h0,by rw[hl];exact hi,(h4 ⟨_,_,_,rfl⟩ b hφ).trans hg,hu⟩
 | .fn f caps,u,h=>by
  simp only[AV.kill,ak] at h ⊢
  obtain⟨vs,h1,h2⟩:=h
  exact⟨vs,h1,ax.jv L caps vs h2⟩
 | .tup avs,u,h=>by
  simp only[AV.kill,ak] at h ⊢
  obtain⟨vs,h1,h2⟩:=h
  exact⟨vs,h1,ax.jv L avs vs h2⟩
 | .ref v,u,h=>by
  simp only[AV.kill,ak] at h ⊢
  obtain⟨b,o,uv,h1,h2,h3,h4,h5⟩:=h
  exact⟨b,o,uv,h1,L.imm _ h2,(L.immSame b h2 o).trans h3,h4,ak.jv L v uv h5⟩
theorem ax.jv (L:LaterX id w w' I I' S S' φ φ' hp hp'):∀(l:List AV) (vs:List Value),ax w I S φ hp l vs->ax w' I' S' φ' hp' (AV.fO id l) vs
 | [],_,h=>by simpa [AV.fO,ax] using h
 | a::l,vs,h=>by
  simp only[AV.fO,ax] at h ⊢
  obtain⟨v,vs',e,h1,h2⟩:=h
  exact⟨v,vs',e,ak.jv L a v h1,ax.jv L l vs' h2⟩
end
variable {t:Ty} {xs:List t.D}
mutual
theorem ak.fixed (L:LaterX id w w' I I' S S' φ φ' hp hp') (hid:lookup hp' id=none) {d0:Dp} (hx:lookup hp id=some (.arr d0 t xs))
  (hd:∀cut u,iy w (φ id) t xs.length cut u->∃cs,Rep w' I' (.sl t) (aj xs cut) cs/\u=mkv (.sl t) cs)
  (hc:∀hi u,mT w (φ id) t xs.length hi u->∃cs,Rep w' I' (.sl t) (aj xs (some (0,hi))) cs/\u=mkv (.sl t) cs) :
  ∀(av:AV) (u:Value),ak w I S φ hp av u->ak w' I' S' φ' hp' (av.fix id t xs) u
 | .top,_,_=>by simp[AV.fix,ak]
 | .cst v,u,h=>by simpa [AV.fix,ak] using h
 | .data t x,u,h=>by
  simp only[AV.fix,ak] at h ⊢
  obtain⟨cs,h1,h2⟩:=h
  exact⟨cs,h1.mono L.imm L.immSame,h2⟩
 | .adr t x,u,h=>by
  simp only[AV.fix,ak] at h ⊢
  obtain⟨b,o,cs,h1,h2,h3,h4⟩:=h
  exact⟨b,o,cs,h1,L.imm _ h2,h3.mono L.imm L.immSame,h4.same (L.immSame b h2)⟩
 | .brw t xs,u,h=>by
  simp only[AV.fix,ak] at h ⊢
  obtain⟨A,c,h1,h2,h3⟩:=h
  refine⟨A,c,h1,h2,?_⟩
  rcases h3 with h3 | ⟨b,o,l,hA,hb,hcs,hl⟩
  ·exact .inl h3
  ·exact .inr ⟨b,o,l,hA,L.aM b hb,hcs.same (L.stabSame b hb),hl.mono' L.imm L.immSame⟩
 | .badr t x,u,h=>by
  simp only[AV.fix,ak] at h ⊢
  obtain⟨b,o,cs,h1,h2,h3,h4⟩:=h
  exact⟨b,o,cs,h1,L.aM _ h2,h3.mono L.imm L.immSame,h4.same (L.stabSame b h2)⟩
 | .ptr i off,u,h=>by
  simp only[AV.fix,ak] at h ⊢
  intro blk' hk
  have hne:i≠id:=fun e=>by rw[e,hid] at hk;cases hk
  obtain⟨blk,h1,h2,_⟩:=L.names i blk' hne hk
  rw[h2]
  exact h blk h1
 | .elt i n off,u,h=>by
  simp only[AV.fix,ak] at h ⊢
  intro blk' hk
  have hne:i≠id:=fun e=>by rw[e,hid] at hk;cases hk
  obtain⟨blk,h1,h2,h3,_⟩:=L.names i blk' hne hk
  obtain⟨d,t,xs,b,rfl,hφ,h0,hi,hu⟩:=h blk h1
  obtain⟨d',xs',rfl,hl⟩:=h3 d t xs rfl
  exact⟨d',t,xs',b,rfl,h2.trans hφ,h0,by rw[hl];exact hi,hu⟩
 | .own i cut,u,h=>by
  rcases aZ i id with⟨he,hb⟩ | ⟨hne,hb⟩
  ·subst he
   simp only[AV.fix,hb,cond_true,ak] at h ⊢
   obtain⟨d',t',xs',he,ho⟩:=h _ hx
   cases he
   exact hd cut u ho
  ·simp only[AV.fix,hb,cond_false,ak] at h ⊢
   intro blk' hk
   obtain⟨blk,h1,h2,h3,h4⟩:=L.names i blk' hne hk
   obtain⟨d,t,xs,rfl,ho⟩:=h blk h1
   obtain⟨d',xs',rfl,hl⟩:=h3 d t xs rfl
   exact⟨d',t,xs',rfl,by rw[h2,hl];exact ho.later (fun b hb cur e hg=>⟨cur,(h4 ⟨_,_,_,rfl⟩ b hb).trans hg,rfl⟩)⟩
 | .clp i hi,u,h=>by
  rcases aZ i id with⟨he,hb⟩ | ⟨hne,hb⟩
  ·subst he
   simp only[AV.fix,hb,cond_true,ak] at h ⊢
   obtain⟨d',t',xs',he,ho⟩:=h _ hx
   cases he
   exact hc hi u ho
  ·simp only[AV.fix,hb,cond_false,ak] at h ⊢
   intro blk' hk
   obtain⟨blk,h1,h2,h3,h4⟩:=L.names i blk' hne hk
   obtain⟨d,t,xs,rfl,ho⟩:=h blk h1
   obtain⟨d',xs',rfl,hl⟩:=h3 d t xs rfl
   exact⟨d',t,xs',rfl,by rw[h2,hl];exact ho.later (fun b hb cur e hg=>⟨cur,(h4 ⟨_,_,_,rfl⟩ b hb).trans hg,rfl⟩)⟩
 | .agg t' avs,u,h=>by
  simp only[AV.fix,ak] at h ⊢
  obtain⟨vs,h1,h2,h3,h4⟩:=h
  exact⟨vs,h1,h2,h3,ax.fixed L hid hx hd hc avs vs h4⟩
 | .mp i,u,h=>by
  simp only[AV.fix,ak] at h ⊢
  intro blk' hk
  have hne:i≠id:=fun e=>by rw[e,hid] at hk;cases hk
  obtain⟨blk,h1,h2,_⟩:=L.names i blk' hne hk
  rw[h2]
  exact h blk h1
 | .pth i n off t',u,h=>by
  rcases aZ i id with⟨_,hb⟩ | ⟨hne,hb⟩
  ·simp[AV.fix,hb,ak]
  ·simp only[AV.fix,hb,cond_false,ak] at h ⊢
   intro blk' hk
   obtain⟨blk,h1,h2,h3,h4⟩:=L.names i blk' hne hk
   obtain⟨d,t,xs,b,cur,e,rfl,hφ,h0,hi,hg,hu⟩:=h blk h1
   obtain⟨d',xs',rfl,hl⟩:=h3 d t xs rfl
   exact⟨d',t,xs',b,cur,e,rfl,h2.trans hφ,h0,by rw[hl];exact hi,(h4 ⟨_,_,_,rfl⟩ b hφ).trans hg,hu⟩
 | .fn f caps,u,h=>by
  simp only[AV.fix,ak] at h ⊢
  obtain⟨vs,h1,h2⟩:=h
  exact⟨vs,h1,ax.fixed L hid hx hd hc caps vs h2⟩
 | .tup avs,u,h=>by
  simp only[AV.fix,ak] at h ⊢
  obtain⟨vs,h1,h2⟩:=h
  exact⟨vs,h1,ax.fixed L hid hx hd hc avs vs h2⟩
 | .ref v,u,h=>by
  simp only[AV.fix,ak] at h ⊢
  obtain⟨b,o,uv,h1,h2,h3,h4,h5⟩:=h
  exact⟨b,o,uv,h1,L.imm _ h2,(L.immSame b h2 o).trans h3,h4,ak.fixed L hid hx hd hc v uv h5⟩
theorem ax.fixed (L:LaterX id w w' I I' S S' φ φ' hp hp') (hid:lookup hp' id=none) {d0:Dp} (hx:lookup hp id=some (.arr d0 t xs))
  (hd:∀cut u,iy w (φ id) t xs.length cut u->∃cs,Rep w' I' (.sl t) (aj xs cut) cs/\u=mkv (.sl t) cs)
  (hc:∀hi u,mT w (φ id) t xs.length hi u->∃cs,Rep w' I' (.sl t) (aj xs (some (0,hi))) cs/\u=mkv (.sl t) cs) :
  ∀(l:List AV) (vs:List Value),ax w I S φ hp l vs->ax w' I' S' φ' hp' (AV.gf id t xs l) vs
 | [],_,h=>by simpa [AV.gf,ax] using h
 | a::l,vs,h=>by
  simp only[AV.gf,ax] at h ⊢
  obtain⟨v,vs',e,h1,h2⟩:=h
  exact⟨v,vs',e,ak.fixed L hid hx hd hc a v h1,ax.fixed L hid hx hd hc l vs' h2⟩
end
variable {W:AV}
mutual
theorem ak.qA (L:LaterX id w w' I I' S S' φ φ' hp hp') {blk0:Block} (hx:lookup hp id=some blk0) (hW:∀b,φ id=some b->ak w' I' S' φ' hp' W (.pointer (some ⟨b,0,none⟩))) :
  ∀(av:AV) (u:Value),ak w I S φ hp av u->ak w' I' S' φ' hp' (AV.sub id W av) u
 | .top,_,_=>by simp[AV.sub,ak]
 | .cst v,u,h=>by simpa [AV.sub,ak] using h
 | .data t x,u,h=>by
  simp only[AV.sub,ak] at h ⊢
  obtain⟨cs,h1,h2⟩:=h
  exact⟨cs,h1.mono L.imm L.immSame,h2⟩
 | .adr t x,u,h=>by
  simp only[AV.sub,ak] at h ⊢
  obtain⟨b,o,cs,h1,h2,h3,h4⟩:=h
  exact⟨b,o,cs,h1,L.imm _ h2,h3.mono L.imm L.immSame,h4.same (L.immSame b h2)⟩
 | .brw t xs,u,h=>by
  simp only[AV.sub,ak] at h ⊢
  obtain⟨A,c,h1,h2,h3⟩:=h
  refine⟨A,c,h1,h2,?_⟩
  rcases h3 with h3 | ⟨b,o,l,hA,hb,hcs,hl⟩
  ·exact .inl h3
  ·exact .inr ⟨b,o,l,hA,L.aM b hb,hcs.same (L.stabSame b hb),hl.mono' L.imm L.immSame⟩
 | .badr t x,u,h=>by
  simp only[AV.sub,ak] at h ⊢
  obtain⟨b,o,cs,h1,h2,h3,h4⟩:=h
  exact⟨b,o,cs,h1,L.aM _ h2,h3.mono L.imm L.immSame,h4.same (L.stabSame b h2)⟩
 | .ptr i off,u,h=>by
  rcases aZ i id with⟨he,hb⟩ | ⟨hne,hb⟩
  ·subst he
   cases off with
   | zero=>
    simp only[AV.sub,hb,cond_true,Nat.beq_refl,ak] at h ⊢
    obtain⟨b,h1,rfl⟩:=h _ hx
    exact hW b h1
   | succ n=>
    have:AV.sub i W (.ptr i (n+1))=.top:=by simp only[AV.sub,hb,cond_true];rfl
    rw[this]
    simp[ak]
  ·simp only[AV.sub,hb,cond_false,ak] at h ⊢
   intro blk' hk
   obtain⟨blk,h1,h2,_⟩:=L.names i blk' hne hk
   rw[h2]
   exact h blk h1
 | .elt i n off,u,h=>by
  rcases aZ i id with⟨_,hb⟩ | ⟨hne,hb⟩
  ·simp[AV.sub,hb,ak]
  ·simp only[AV.sub,hb,cond_false,ak] at h ⊢
   intro blk' hk
   obtain⟨blk,h1,h2,h3,_⟩:=L.names i blk' hne hk
   obtain⟨d,t,xs,b,rfl,hφ,h0,hi,hu⟩:=h blk h1
   obtain⟨d',xs',rfl,hl⟩:=h3 d t xs rfl
   exact⟨d',t,xs',b,rfl,h2.trans hφ,h0,by rw[hl];exact hi,hu⟩
 | .own i cut,u,h=>by
  rcases aZ i id with⟨_,hb⟩ | ⟨hne,hb⟩
  ·simp[AV.sub,hb,ak]
  ·simp only[AV.sub,hb,cond_false,ak] at h ⊢
   intro blk' hk
   obtain⟨blk,h1,h2,h3,h4⟩:=L.names i blk' hne hk
   obtain⟨d,t,xs,rfl,ho⟩:=h blk h1
   obtain⟨d',xs',rfl,hl⟩:=h3 d t xs rfl
   exact⟨d',t,xs',rfl,by rw[h2,hl];exact ho.later (fun b hb cur e hg=>⟨cur,(h4 ⟨_,_,_,rfl⟩ b hb).trans hg,rfl⟩)⟩
 | .clp i hi,u,h=>by
  rcases aZ i id with⟨_,hb⟩ | ⟨hne,hb⟩
  ·simp[AV.sub,hb,ak]
  ·simp only[AV.sub,hb,cond_false,ak] at h ⊢
   intro blk' hk
   obtain⟨blk,h1,h2,h3,h4⟩:=L.names i blk' hne hk
   obtain⟨d,t,xs,rfl,ho⟩:=h blk h1
   obtain⟨d',xs',rfl,hl⟩:=h3 d t xs rfl
   exact⟨d',t,xs',rfl,by rw[h2,hl];exact ho.later (fun b hb cur e hg=>⟨cur,(h4 ⟨_,_,_,rfl⟩ b hb).trans hg,rfl⟩)⟩
 | .agg t avs,u,h=>by
  simp only[AV.sub,ak] at h ⊢
  obtain⟨vs,h1,h2,h3,h4⟩:=h
  exact⟨vs,h1,h2,h3,ax.qA L hx hW avs vs h4⟩
 | .mp i,u,h=>by
  rcases aZ i id with⟨_,hb⟩ | ⟨hne,hb⟩
  ·simp[AV.sub,hb,ak]
  ·simp only[AV.sub,hb,cond_false,ak] at h ⊢
   intro blk' hk
   obtain⟨blk,h1,h2,_⟩:=L.names i blk' hne hk
   rw[h2]
   exact h blk h1
 | .pth i n off t',u,h=>by
  rcases aZ i id with⟨_,hb⟩ | ⟨hne,hb⟩
  ·simp[AV.sub,hb,ak]
  ·simp only[AV.sub,hb,cond_false,ak] at h ⊢
   intro blk' hk
   obtain⟨blk,h1,h2,h3,h4⟩:=L.names i blk' hne hk
   obtain⟨d,t,xs,b,cur,e,rfl,hφ,h0,hi,hg,hu⟩:=h blk h1
   obtain⟨d',xs',rfl,hl⟩:=h3 d t xs rfl
   exact⟨d',t,xs',b,cur,e,rfl,h2.trans hφ,h0,by rw[hl];exact hi,(h4 ⟨_,_,_,rfl⟩ b hφ).trans hg,hu⟩
 | .fn f caps,u,h=>by
  simp only[AV.sub,ak] at h ⊢
  obtain⟨vs,h1,h2⟩:=h
  exact⟨vs,h1,ax.qA L hx hW caps vs h2⟩
 | .tup avs,u,h=>by
  simp only[AV.sub,ak] at h ⊢
  obtain⟨vs,h1,h2⟩:=h
  exact⟨vs,h1,ax.qA L hx hW avs vs h2⟩
 | .ref v,u,h=>by
  simp only[AV.sub,ak] at h ⊢
  obtain⟨b,o,uv,h1,h2,h3,h4,h5⟩:=h
  exact⟨b,o,uv,h1,L.imm _ h2,(L.immSame b h2 o).trans h3,h4,ak.qA L hx hW v uv h5⟩
theorem ax.qA (L:LaterX id w w' I I' S S' φ φ' hp hp') {blk0:Block} (hx:lookup hp id=some blk0) (hW:∀b,φ id=some b->ak w' I' S' φ' hp' W (.pointer (some ⟨b,0,none⟩))) :
  ∀(l:List AV) (vs:List Value),ax w I S φ hp l vs->ax w' I' S' φ' hp' (AV.oR id W l) vs
 | [],_,h=>by simpa [AV.oR,ax] using h
 | a::l,vs,h=>by
  simp only[AV.oR,ax] at h ⊢
  obtain⟨v,vs',e,h1,h2⟩:=h
  exact⟨v,vs',e,ak.qA L hx hW a v h1,ax.qA L hx hW l vs' h2⟩
end
structure LaterS (id:Nat) (w w':World) (I I' S S':Nat->Prop) (φ φ':Names) (hp hp':Hp):Prop where
 imm:∀b,I b->I' b
 immSame:ki I w w'
 aM:∀b,S b->S' b
 stabSame:ki S w w'
 names:∀i blk',lookup hp' i=some blk'->∃blk,lookup hp i=some blk/\φ' i=φ i ∧
  (∀d t xs,blk=.arr d t xs->∃d' xs',blk'=.arr d' t xs'/\xs'.length=xs.length) ∧
  ((∃d t xs,blk=.arr d t xs)->∀b,φ i=some b->(i≠id->w'.heap[b]? = w.heap[b]?)/\∀cur e,w.heap[b]? = some (.cells cur e (0,0))->∃cur',w'.heap[b]? = some (.cells cur' e (0,0))/\cur'.size=cur.size)
mutual
theorem ak.kA (L:LaterS id w w' I I' S S' φ φ' hp hp'):∀(av:AV) (u:Value),ak w I S φ hp av u->ak w' I' S' φ' hp' (av.jj id) u
 | .top,_,_=>by simp[AV.jj,ak]
 | .cst v,u,h=>by simpa [AV.jj,ak] using h
 | .data t x,u,h=>by
  simp only[AV.jj,ak] at h ⊢
  obtain⟨cs,h1,h2⟩:=h
  exact⟨cs,h1.mono L.imm L.immSame,h2⟩
 | .adr t x,u,h=>by
  simp only[AV.jj,ak] at h ⊢
  obtain⟨b,o,cs,h1,h2,h3,h4⟩:=h
  exact⟨b,o,cs,h1,L.imm _ h2,h3.mono L.imm L.immSame,h4.same (L.immSame b h2)⟩
 | .brw t xs,u,h=>by
  simp only[AV.jj,ak] at h ⊢
  obtain⟨A,c,h1,h2,h3⟩:=h
  refine⟨A,c,h1,h2,?_⟩
  rcases h3 with h3 | ⟨b,o,l,hA,hb,hcs,hl⟩
  ·exact .inl h3
  ·exact .inr ⟨b,o,l,hA,L.aM b hb,hcs.same (L.stabSame b hb),hl.mono' L.imm L.immSame⟩
 | .badr t x,u,h=>by
  simp only[AV.jj,ak] at h ⊢
  obtain⟨b,o,cs,h1,h2,h3,h4⟩:=h
  exact⟨b,o,cs,h1,L.aM _ h2,h3.mono L.imm L.immSame,h4.same (L.stabSame b h2)⟩
 | .ptr i off,u,h=>by
  simp only[AV.jj,ak] at h ⊢
  intro blk' hk
  obtain⟨blk,h1,h2,_⟩:=L.names i blk' hk
  rw[h2]
  exact h blk h1
 | .elt i n off,u,h=>by
  simp only[AV.jj,ak] at h ⊢
  intro blk' hk
  obtain⟨blk,h1,h2,h3,_⟩:=L.names i blk' hk
  obtain⟨d,t,xs,b,rfl,hφ,h0,hi,hu⟩:=h blk h1
  obtain⟨d',xs',rfl,hl⟩:=h3 d t xs rfl
  exact⟨d',t,xs',b,rfl,h2.trans hφ,h0,by rw[hl];exact hi,hu⟩
 | .own i cut,u,h=>by
  simp only[AV.jj,ak] at h ⊢
  intro blk' hk
  obtain⟨blk,h1,h2,h3,h4⟩:=L.names i blk' hk
  obtain⟨d,t,xs,rfl,ho⟩:=h blk h1
  obtain⟨d',xs',rfl,hl⟩:=h3 d t xs rfl
  exact⟨d',t,xs',rfl,by rw[h2,hl];exact ho.later (fun b hb=>(h4 ⟨_,_,_,rfl⟩ b hb).2)⟩
 | .clp i hi,u,h=>by
  simp only[AV.jj,ak] at h ⊢
  intro blk' hk
  obtain⟨blk,h1,h2,h3,h4⟩:=L.names i blk' hk
  obtain⟨d,t,xs,rfl,ho⟩:=h blk h1
  obtain⟨d',xs',rfl,hl⟩:=h3 d t xs rfl
  exact⟨d',t,xs',rfl,by rw[h2,hl];exact ho.later (fun b hb=>(h4 ⟨_,_,_,rfl⟩ b hb).2)⟩
 | .agg t avs,u,h=>by
  simp only[AV.jj,ak] at h ⊢
  obtain⟨vs,h1,h2,h3,h4⟩:=h
  exact⟨vs,h1,h2,h3,ax.kA L avs vs h4⟩
 | .mp i,u,h=>by
  simp only[AV.jj,ak] at h ⊢
  intro blk' hk
  obtain⟨blk,h1,h2,_⟩:=L.names i blk' hk
  rw[h2]
  exact h blk h1
 | .pth i n off t',u,h=>by
  rcases aZ i id with⟨_,hb⟩ | ⟨hne,hb⟩
  ·simp[AV.jj,hb,ak]
  ·simp only[AV.jj,hb,cond_false,ak] at h ⊢
   intro blk' hk
   obtain⟨blk,h1,h2,h3,h4⟩:=L.names i blk' hk
   obtain⟨d,t,xs,b,cur,e,rfl,hφ,h0,hi,hg,hu⟩:=h blk h1
   obtain⟨d',xs',rfl,hl⟩:=h3 d t xs rfl
   exact⟨d',t,xs',b,cur,e,rfl,h2.trans hφ,h0,by rw[hl];exact hi,((h4 ⟨_,_,_,rfl⟩ b hφ).1 hne).trans hg,hu⟩
 | .fn f caps,u,h=>by
  simp only[AV.jj,ak] at h ⊢
  obtain⟨vs,h1,h2⟩:=h
  exact⟨vs,h1,ax.kA L caps vs h2⟩
 | .tup avs,u,h=>by
  simp only[AV.jj,ak] at h ⊢
  obtain⟨vs,h1,h2⟩:=h
  exact⟨vs,h1,ax.kA L avs vs h2⟩
 | .ref v,u,h=>by
  simp only[AV.jj,ak] at h ⊢
  obtain⟨b,o,uv,h1,h2,h3,h4,h5⟩:=h
  exact⟨b,o,uv,h1,L.imm _ h2,(L.immSame b h2 o).trans h3,h4,ak.kA L v uv h5⟩
theorem ax.kA (L:LaterS id w w' I I' S S' φ φ' hp hp'):∀(l:List AV) (vs:List Value),ax w I S φ hp l vs->ax w' I' S' φ' hp' (AV.fQ id l) vs
 | [],_,h=>by simpa [AV.fQ,ax] using h
 | a::l,vs,h=>by
  simp only[AV.fQ,ax] at h ⊢
  obtain⟨v,vs',e,h1,h2⟩:=h
  exact⟨v,vs',e,ak.kA L a v h1,ax.kA L l vs' h2⟩
end
mutual
theorem sy (hI:∀b,I b->I' b) (hIs:ki I w w') (hS:∀b,S b->S' b) (hSs:ki S w w'):∀(v:AV) (u:Value),v.free=true->ak w I S φ hp v u->ak w' I' S' φ' hp' v u
 | .data t x,u,_,h=>by
  simp only[ak] at h ⊢
  obtain⟨cs,h1,h2⟩:=h
  exact⟨cs,h1.mono hI hIs,h2⟩
 | .cst v,u,_,h=>by simpa [ak] using h
 | .adr t x,u,_,h=>by
  simp only[ak] at h ⊢
  obtain⟨b,o,cs,h1,h2,h3,h4⟩:=h
  exact⟨b,o,cs,h1,hI _ h2,h3.mono hI hIs,h4.same (hIs b h2)⟩
 | .brw t xs,u,_,h=>by
  simp only[ak] at h ⊢
  obtain⟨A,c,h1,h2,h3⟩:=h
  refine⟨A,c,h1,h2,?_⟩
  rcases h3 with h3 | ⟨b,o,l,hA,hb,hcs,hl⟩
  ·exact .inl h3
  ·exact .inr ⟨b,o,l,hA,hS b hb,hcs.same (hSs b hb),hl.mono' hI hIs⟩
 | .fn f caps,u,hf,h=>by
  simp only[ak] at h ⊢
  obtain⟨vs,h1,h2⟩:=h
  exact⟨vs,h1,DX hI hIs hS hSs caps vs (by simpa only[AV.free] using hf) h2⟩
 | .ref v,u,hf,h=>by
  simp only[ak] at h ⊢
  obtain⟨b,o,uv,h1,h2,h3,h4,h5⟩:=h
  exact⟨b,o,uv,h1,hI _ h2,(hIs b h2 o).trans h3,h4,sy hI hIs hS hSs v uv (by simpa only[AV.free] using hf) h5⟩
 | .top,_,hf,_=>by simp[AV.free] at hf
 | .badr _ _,_,hf,_=>by simp[AV.free] at hf
 | .ptr _ _,_,hf,_=>by simp[AV.free] at hf
 | .elt _ _ _,_,hf,_=>by simp[AV.free] at hf
 | .own _ _,_,hf,_=>by simp[AV.free] at hf
 | .clp _ _,_,hf,_=>by simp[AV.free] at hf
 | .agg _ _,_,hf,_=>by simp[AV.free] at hf
 | .pth _ _ _ _,_,hf,_=>by simp[AV.free] at hf
 | .mp _,_,hf,_=>by simp[AV.free] at hf
 | .tup _,_,hf,_=>by simp[AV.free] at hf
theorem DX (hI:∀b,I b->I' b) (hIs:ki I w w') (hS:∀b,S b->S' b) (hSs:ki S w w'):∀(l:List AV) (vs:List Value),AV.qm l=true->ax w I S φ hp l vs->ax w' I' S' φ' hp' l vs
 | [],vs,_,h=>by simpa [ax] using h
 | v::l,vs,hf,h=>by
  simp only[ax] at h ⊢
  obtain⟨u,us,e,h1,h2⟩:=h
  simp only[AV.qm,Bool.and_eq_true] at hf
  exact⟨u,us,e,sy hI hIs hS hSs v u hf.1 h1,DX hI hIs hS hSs l us hf.2 h2⟩
end
mutual
theorem nt (hI:∀b,I b->I' b) (hIs:ki I w w'):∀(v:AV) (u:Value),v.kept=true->ak w I S φ hp v u->ak w' I' S' φ' hp' v u
 | .data t x,u,_,h=>by
  simp only[ak] at h ⊢
  obtain⟨cs,h1,h2⟩:=h
  exact⟨cs,h1.mono hI hIs,h2⟩
 | .cst v,u,_,h=>by simpa [ak] using h
 | .adr t x,u,_,h=>by
  simp only[ak] at h ⊢
  obtain⟨b,o,cs,h1,h2,h3,h4⟩:=h
  exact⟨b,o,cs,h1,hI _ h2,h3.mono hI hIs,h4.same (hIs b h2)⟩
 | .fn f caps,u,hf,h=>by
  simp only[ak] at h ⊢
  obtain⟨vs,h1,h2⟩:=h
  exact⟨vs,h1,pN hI hIs caps vs (by simpa only[AV.kept] using hf) h2⟩
 | .ref v,u,hf,h=>by
  simp only[ak] at h ⊢
  obtain⟨b,o,uv,h1,h2,h3,h4,h5⟩:=h
  exact⟨b,o,uv,h1,hI _ h2,(hIs b h2 o).trans h3,h4,nt hI hIs v uv (by simpa only[AV.kept] using hf) h5⟩
 | .top,_,hf,_=>by simp[AV.kept] at hf
 | .brw _ _,_,hf,_=>by simp[AV.kept] at hf
 | .badr _ _,_,hf,_=>by simp[AV.kept] at hf
 | .mp _,_,hf,_=>by simp[AV.kept] at hf
 | .ptr _ _,_,hf,_=>by simp[AV.kept] at hf
 | .elt _ _ _,_,hf,_=>by simp[AV.kept] at hf
 | .own _ _,_,hf,_=>by simp[AV.kept] at hf
 | .tup _,_,hf,_=>by simp[AV.kept] at hf
theorem pN (hI:∀b,I b->I' b) (hIs:ki I w w'):∀(l:List AV) (vs:List Value),AV.iO l=true->ax w I S φ hp l vs->ax w' I' S' φ' hp' l vs
 | [],vs,_,h=>by simpa [ax] using h
 | v::l,vs,hf,h=>by
  simp only[ax] at h ⊢
  obtain⟨u,us,e,h1,h2⟩:=h
  simp only[AV.iO,Bool.and_eq_true] at hf
  exact⟨u,us,e,nt hI hIs v u hf.1 h1,pN hI hIs l us hf.2 h2⟩
end
end
theorem jH {w:World} {e:TypeId} {size n:Nat} {v:Value} {l:List Value} (h:w.rowOf 0 e size v n l) {b:Nat} (hb:v.ownBlock=some b):Cells w b 0 l:=by
 intro j u hj
 rcases h with⟨_,⟨rfl,_⟩ | ⟨g,cap,cur,rfl,_,hg,_,_,_,ht⟩⟩
 ·simp[Value.ownBlock] at hb
 ·simp only[Value.ownBlock,Option.some.injEq] at hb
  subst hb
  rw[<-ht,List.getElem?_take] at hj
  split at hj
  ·simpa [World.cell?,hg] using hj
  ·cases hj
theorem qg {w:World} {e e':TypeId} {size n m:Nat} {v u:Value} {l k:List Value} (h:w.rowOf 0 e size v n l) (h':w.rowOf 0 e' size u m k) (hb:u.ownBlock=v.ownBlock) (hm:m<=n):k=l.take (m * size):=by
 rcases h with⟨hl,⟨rfl,rfl⟩ | ⟨g,cap,cur,rfl,_,hg,hn,hc,hs,ht⟩⟩
 ·rcases h' with⟨hk,⟨rfl,rfl⟩ | ⟨g',cap',cur',rfl,_,hg',_⟩⟩
  ·simp at hk;simp[hk]
  ·simp[Value.ownBlock] at hb
 ·rcases h' with⟨hk,⟨rfl,rfl⟩ | ⟨g',cap',cur',rfl,_,hg',hn',hc',hs',ht'⟩⟩
  ·simp[Value.ownBlock] at hb
  ·simp[Value.ownBlock] at hb
   subst hb
   rw[hg] at hg'
   cases hg'
   rw[<-ht',<-ht,List.take_take]
   congr 1
   have:m * size<=n * size:=Nat.mul_le_mul_right _ hm
   omega
theorem uz {w:World} {I:Nat->Prop} {r:Option Nat} {t:Ty} {xs:List t.D} {v:Value} {e:TypeId} {l:List Value}
  (hv:w.rowOf 0 e t.size v xs.length l) (hr:v.ownBlock=r) (hl:cK (Rep w I t) xs l) {cut:Option (Int×Int)} {u:Value} (hu:iy w r t xs.length cut u) :
  ∃A c,u=.slice A (aj xs cut).length c/\(aj xs cut).length<=c ∧
   (aj xs cut=[]\/∃b o k,A=some ⟨b,o,none⟩/\r=some b/\Cells w b o k/\cK (Rep w I t) (aj xs cut) k):=by
 cases cut with
 | none=>
  obtain⟨e',k,hk,hb⟩:=hu
  have hkl:=qg hv hk (hb.trans hr.symm) (Nat.le_refl _)
  rw[List.take_of_length_le (by rw[hl.length];exact Nat.le_refl _)] at hkl
  subst hkl
  simp only[aj]
  rcases hk with⟨_,⟨rfl,h0⟩ | ⟨g,cap,cur,rfl,_,hg,hn,hc,hs,ht⟩⟩
  ·have:xs=[]:=List.eq_nil_of_length_eq_zero h0
   exact⟨none,0,by rw[h0],by omega,.inl this⟩
  ·exact⟨_,cap,rfl,hn,.inr ⟨g,0,k,rfl,by rw[<-hb];rfl,jH (e:=e) (size:=t.size) (n:=xs.length) (v:=v) hv (by rw[hr,<-hb];rfl),hl⟩⟩
 | some p=>
  obtain⟨lo,hi⟩:=p
  obtain⟨h1,h2,h3,A,c,rfl,hc,_,h5⟩:=hu
  have hlen:(aj xs (some (lo,hi))).length=(hi-lo).toNat:=by
   simp[aj];omega
  refine⟨A,c,by rw[hlen],by rw[hlen];exact hc,?_⟩
  by_cases hlt:lo<hi
  ·obtain⟨b,hb,hA⟩:=h5 hlt
   have hcs:=jH hv (hr.trans hb)
   refine .inr ⟨b,lo.toNat * t.size,_,hA,hb,?_,rj hl lo hi⟩
   have:=(hcs.drop (lo.toNat * t.size)).take ((hi-lo).toNat * t.size)
   rwa [Nat.zero_add] at this
  ·refine .inl (List.eq_nil_of_length_eq_zero ?_)
   rw[hlen]
   omega
end Go.AE
