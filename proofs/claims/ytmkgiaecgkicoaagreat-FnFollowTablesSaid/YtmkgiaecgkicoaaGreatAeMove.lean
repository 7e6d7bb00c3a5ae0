/- How knowledge of memory moves: arrays that become fixed, names that are given anew. -/
import Derived.Test.YtmkgiaecgkicoaaGreatAeRun
namespace Go.AE
open Go Go.RowKit
theorem rF {b:Bool} {P:Prop} (h:chk b P):b=true/\P:=by
 cases b
 ·exact h.elim
 ·exact⟨rfl,h⟩
theorem aZ {α:Type} (l:List (Nat×α)) (i j:Nat):lookup (erase l i) j=if j=i then none else lookup l j:=by
 induction l with
 | nil=>simp[erase,lookup]
 | cons p l ih=>
  obtain⟨k,x⟩:=p
  by_cases hk:k=i
  ·subst hk
   simp only[erase,Nat.beq_refl,cond_true,ih,lookup]
   by_cases hj:j=k
   ·simp[hj]
   ·have:Nat.beq k j=false:=by rw[<-Bool.not_eq_true,Nat.beq_eq];exact fun h=>hj h.symm
    simp[hj,this]
  ·have hb:Nat.beq k i=false:=by rw[<-Bool.not_eq_true,Nat.beq_eq];exact hk
   simp only[erase,hb,cond_false,lookup]
   by_cases hj:k=j
   ·subst hj
    simp[hk]
   ·have:Nat.beq k j=false:=by rw[<-Bool.not_eq_true,Nat.beq_eq];exact hj
    simp[this,ih]
theorem lookup_cons {α:Type} (l:List (Nat×α)) (i j:Nat) (x:α):lookup ((i,x)::l) j=if i=j then some x else lookup l j:=by
 by_cases h:i=j
 ·subst h;simp[lookup]
 ·have:Nat.beq i j=false:=by rw[<-Bool.not_eq_true,Nat.beq_eq];exact h
  simp[lookup,this,h]
theorem iS (f:AV->AV) (e:Env) (j:Nat):lookup (tL f e) j=(lookup e j).map f:=by
 induction e with
 | nil=>rfl
 | cons p l ih=>
  obtain⟨k,v⟩:=p
  simp only[tL,lookup]
  cases Nat.beq k j<;>simp[ih]
def mapBlock (f:List AV->List AV):Block->Block
 | .box cs=>.box (f cs)
 | .arr d t xs=>.arr d t xs
 | .map k u xs=>.map k u xs
theorem cP (f:List AV->List AV) (h:Hp) (j:Nat):lookup (ki f h) j=(lookup h j).map (mapBlock f):=by
 induction h with
 | nil=>rfl
 | cons p l ih=>
  obtain⟨k,v⟩:=p
  cases v<;>simp only[ki,lookup]<;>cases Nat.beq k j<;>simp[ih,mapBlock]
structure LaterX (id:Nat) (w w':World) (I I' S S':Nat->Prop) (φ φ':Names) (hp hp':Hp):Prop where
 imm:∀b,I b->I' b
 immSame:mS I w w'
 aM:∀b,S b->S' b
 stabSame:mS S w w'
 names:∀i blk',i≠id->lookup hp' i=some blk'->∃blk,lookup hp i=some blk/\φ' i=φ i ∧
  (∀d t xs,blk=.arr d t xs->∃d' xs',blk'=.arr d' t xs'/\xs'.length=xs.length) ∧
  ((∃d t xs,blk=.arr d t xs)->∀b,φ i=some b->w'.heap[b]? = w.heap[b]?)
section
variable {id:Nat} {w w':World} {I I' S S':Nat->Prop} {φ φ':Names} {hp hp':Hp}
theorem bg (i j:Nat):(i=j/\Nat.beq i j=true)\/(i≠j/\Nat.beq i j=false):=by
 by_cases h:i=j
 ·exact .inl ⟨h,by rw[h];simp⟩
 ·exact .inr ⟨h,by rw[<-Bool.not_eq_true,Nat.beq_eq];exact h⟩
mutual
theorem aj.ji (L:LaterX id w w' I I' S S' φ φ' hp hp'):∀(av:AV) (u:Value),aj w I S φ hp av u->aj w' I' S' φ' hp' (av.kill id) u
 | .top,_,_=>by simp[AV.kill,aj]
 | .cst v,u,h=>by simpa [AV.kill,aj] using h
 | .data t x,u,h=>by
  simp only[AV.kill,aj] at h ⊢
  obtain⟨cs,h1,h2⟩:=h
  exact⟨cs,h1.mono L.imm L.immSame,h2⟩
 | .adr t x,u,h=>by
  simp only[AV.kill,aj] at h ⊢
  obtain⟨b,o,cs,h1,h2,h3,h4⟩:=h
  exact⟨b,o,cs,h1,L.imm _ h2,h3.mono L.imm L.immSame,h4.same (L.immSame b h2)⟩
 | .brw t xs,u,h=>by
  simp only[AV.kill,aj] at h ⊢
  obtain⟨A,c,h1,h2,h3⟩:=h
  refine⟨A,c,h1,h2,?_⟩
  rcases h3 with h3 | ⟨b,o,l,hA,hb,hcs,hl⟩
  ·exact .inl h3
  ·exact .inr ⟨b,o,l,hA,L.aM b hb,hcs.same (L.stabSame b hb),hl.mono' L.imm L.immSame⟩
 | .badr t x,u,h=>by
  simp only[AV.kill,aj] at h ⊢
  obtain⟨b,o,cs,h1,h2,h3,h4⟩:=h
  exact⟨b,o,cs,h1,L.aM _ h2,h3.mono L.imm L.immSame,h4.same (L.stabSame b h2)⟩
 | .ptr i off,u,h=>by
  rcases bg i id with⟨_,hb⟩ | ⟨hne,hb⟩
  ·simp[AV.kill,hb,aj]
  ·simp only[AV.kill,hb,cond_false,aj] at h ⊢
   intro blk' hk
   obtain⟨blk,h1,h2,_⟩:=L.names i blk' hne hk
   rw[h2]
   exact h blk h1
 | .elt i n off,u,h=>by
  rcases bg i id with⟨_,hb⟩ | ⟨hne,hb⟩
  ·simp[AV.kill,hb,aj]
  ·simp only[AV.kill,hb,cond_false,aj] at h ⊢
   intro blk' hk
   obtain⟨blk,h1,h2,h3,_⟩:=L.names i blk' hne hk
   obtain⟨d,t,xs,b,rfl,hφ,h0,hi,hu⟩:=h blk h1
   obtain⟨d',xs',rfl,hl⟩:=h3 d t xs rfl
   exact⟨d',t,xs',b,rfl,h2.trans hφ,h0,by rw[hl];exact hi,hu⟩
 | .own i cut,u,h=>by
  rcases bg i id with⟨_,hb⟩ | ⟨hne,hb⟩
  ·simp[AV.kill,hb,aj]
  ·simp only[AV.kill,hb,cond_false,aj] at h ⊢
   intro blk' hk
   obtain⟨blk,h1,h2,h3,h4⟩:=L.names i blk' hne hk
   obtain⟨d,t,xs,rfl,ho⟩:=h blk h1
   obtain⟨d',xs',rfl,hl⟩:=h3 d t xs rfl
   exact⟨d',t,xs',rfl,by rw[h2,hl];exact ho.later (fun b hb cur e hg=>⟨cur,(h4 ⟨_,_,_,rfl⟩ b hb).trans hg,rfl⟩)⟩
 | .clp i hi,u,h=>by
  rcases bg i id with⟨_,hb⟩ | ⟨hne,hb⟩
  ·simp[AV.kill,hb,aj]
  ·simp only[AV.kill,hb,cond_false,aj] at h ⊢
   intro blk' hk
   obtain⟨blk,h1,h2,h3,h4⟩:=L.names i blk' hne hk
   obtain⟨d,t,xs,rfl,ho⟩:=h blk h1
   obtain⟨d',xs',rfl,hl⟩:=h3 d t xs rfl
   exact⟨d',t,xs',rfl,by rw[h2,hl];exact ho.later (fun b hb cur e hg=>⟨cur,(h4 ⟨_,_,_,rfl⟩ b hb).trans hg,rfl⟩)⟩
 | .agg t avs,u,h=>by
  simp only[AV.kill,aj] at h ⊢
  obtain⟨vs,h1,h2,h3,h4⟩:=h
  exact⟨vs,h1,h2,h3,aq.ji L avs vs h4⟩
 | .mp i,u,h=>by
  rcases bg i id with⟨_,hb⟩ | ⟨hne,hb⟩
  ·simp[AV.kill,hb,aj]
  ·simp only[AV.kill,hb,cond_false,aj] at h ⊢
   intro blk' hk
   obtain⟨blk,h1,h2,_⟩:=L.names i blk' hne hk
   obtain⟨b,e1,e2⟩:=h blk h1
   exact⟨b,h2.trans e1,e2⟩
 | .pth i n off t',u,h=>by
  rcases bg i id with⟨_,hb⟩ | ⟨hne,hb⟩
  ·simp[AV.kill,hb,aj]
  ·simp only[AV.kill,hb,cond_false,aj] at h ⊢
   intro blk' hk
   obtain⟨blk,h1,h2,h3,h4⟩:=L.names i blk' hne hk
   obtain⟨d,t,xs,b,cur,e,rfl,hφ,h0,hi,hg,hu⟩:=h blk h1
   obtain⟨d',xs',rfl,hl⟩:=h3 d t xs rfl
   exact⟨d',t,xs',b,cur,e,rfl,h2.trans hφ,h0,by rw[hl];exact hi,(h4 ⟨_,_,_,rfl⟩ b hφ).trans hg,hu⟩
 | .fn f caps,u,h=>by
  simp only[AV.kill,aj] at h ⊢
  obtain⟨vs,h1,h2⟩:=h
  exact⟨vs,h1,aq.ji L caps vs h2⟩
 | .tup avs,u,h=>by
  simp only[AV.kill,aj] at h ⊢
  obtain⟨vs,h1,h2⟩:=h
  exact⟨vs,h1,aq.ji L avs vs h2⟩
 | .ref v,u,h=>by
  simp only[AV.kill,aj] at h ⊢
  obtain⟨b,o,uv,h1,h2,h3,h4,h5⟩:=h
  exact⟨b,o,uv,h1,L.imm _ h2,(L.immSame b h2 o).trans h3,h4,aj.ji L v uv h5⟩
theorem aq.ji (L:LaterX id w w' I I' S S' φ φ' hp hp'):∀(l:List AV) (vs:List Value),aq w I S φ hp l vs->aq w' I' S' φ' hp' (AV.fI id l) vs
 | [],_,h=>by simpa [AV.fI,aq] using h
 | a::l,vs,h=>by
  simp only[AV.fI,aq] at h ⊢
  obtain⟨v,vs',e,h1,h2⟩:=h
  exact⟨v,vs',e,aj.ji L a v h1,aq.ji L l vs' h2⟩
end
variable {t:Ty} {xs:List t.D}
mutual
theorem aj.fixed (L:LaterX id w w' I I' S S' φ φ' hp hp') (hid:lookup hp' id=none) {d0:Dp} (hx:lookup hp id=some (.arr d0 t xs))
  (hd:∀cut u,gR w (φ id) t xs.length cut u->∃cs,Rep w' I' (.sl t) (aC xs cut) cs/\u=mkv (.sl t) cs)
  (hc:∀hi u,mY w (φ id) t xs.length hi u->∃cs,Rep w' I' (.sl t) (aC xs (some (0,hi))) cs/\u=mkv (.sl t) cs) :
  ∀(av:AV) (u:Value),aj w I S φ hp av u->aj w' I' S' φ' hp' (av.fix id t xs) u
 | .top,_,_=>by simp[AV.fix,aj]
 | .cst v,u,h=>by simpa [AV.fix,aj] using h
 | .data t x,u,h=>by
  simp only[AV.fix,aj] at h ⊢
  obtain⟨cs,h1,h2⟩:=h
  exact⟨cs,h1.mono L.imm L.immSame,h2⟩
 | .adr t x,u,h=>by
  simp only[AV.fix,aj] at h ⊢
  obtain⟨b,o,cs,h1,h2,h3,h4⟩:=h
  exact⟨b,o,cs,h1,L.imm _ h2,h3.mono L.imm L.immSame,h4.same (L.immSame b h2)⟩
 | .brw t xs,u,h=>by
  simp only[AV.fix,aj] at h ⊢
  obtain⟨A,c,h1,h2,h3⟩:=h
  refine⟨A,c,h1,h2,?_⟩
  rcases h3 with h3 | ⟨b,o,l,hA,hb,hcs,hl⟩
  ·exact .inl h3
  ·exact .inr ⟨b,o,l,hA,L.aM b hb,hcs.same (L.stabSame b hb),hl.mono' L.imm L.immSame⟩
 | .badr t x,u,h=>by
  simp only[AV.fix,aj] at h ⊢
  obtain⟨b,o,cs,h1,h2,h3,h4⟩:=h
  exact⟨b,o,cs,h1,L.aM _ h2,h3.mono L.imm L.immSame,h4.same (L.stabSame b h2)⟩
 | .ptr i off,u,h=>by
  simp only[AV.fix,aj] at h ⊢
  intro blk' hk
  have hne:i≠id:=fun e=>by rw[e,hid] at hk;cases hk
  obtain⟨blk,h1,h2,_⟩:=L.names i blk' hne hk
  rw[h2]
  exact h blk h1
 | .elt i n off,u,h=>by
  simp only[AV.fix,aj] at h ⊢
  intro blk' hk
  have hne:i≠id:=fun e=>by rw[e,hid] at hk;cases hk
  obtain⟨blk,h1,h2,h3,_⟩:=L.names i blk' hne hk
  obtain⟨d,t,xs,b,rfl,hφ,h0,hi,hu⟩:=h blk h1
  obtain⟨d',xs',rfl,hl⟩:=h3 d t xs rfl
  exact⟨d',t,xs',b,rfl,h2.trans hφ,h0,by rw[hl];exact hi,hu⟩
 | .own i cut,u,h=>by
  rcases bg i id with⟨he,hb⟩ | ⟨hne,hb⟩
  ·subst he
   simp only[AV.fix,hb,cond_true,aj] at h ⊢
   obtain⟨d',t',xs',he,ho⟩:=h _ hx
   cases he
   exact hd cut u ho
  ·simp only[AV.fix,hb,cond_false,aj] at h ⊢
   intro blk' hk
   obtain⟨blk,h1,h2,h3,h4⟩:=L.names i blk' hne hk
   obtain⟨d,t,xs,rfl,ho⟩:=h blk h1
   obtain⟨d',xs',rfl,hl⟩:=h3 d t xs rfl
   exact⟨d',t,xs',rfl,by rw[h2,hl];exact ho.later (fun b hb cur e hg=>⟨cur,(h4 ⟨_,_,_,rfl⟩ b hb).trans hg,rfl⟩)⟩
 | .clp i hi,u,h=>by
  rcases bg i id with⟨he,hb⟩ | ⟨hne,hb⟩
  ·subst he
   simp only[AV.fix,hb,cond_true,aj] at h ⊢
   obtain⟨d',t',xs',he,ho⟩:=h _ hx
   cases he
   exact hc hi u ho
  ·simp only[AV.fix,hb,cond_false,aj] at h ⊢
   intro blk' hk
   obtain⟨blk,h1,h2,h3,h4⟩:=L.names i blk' hne hk
   obtain⟨d,t,xs,rfl,ho⟩:=h blk h1
   obtain⟨d',xs',rfl,hl⟩:=h3 d t xs rfl
   exact⟨d',t,xs',rfl,by rw[h2,hl];exact ho.later (fun b hb cur e hg=>⟨cur,(h4 ⟨_,_,_,rfl⟩ b hb).trans hg,rfl⟩)⟩
 | .agg t' avs,u,h=>by
  simp only[AV.fix,aj] at h ⊢
  obtain⟨vs,h1,h2,h3,h4⟩:=h
  exact⟨vs,h1,h2,h3,aq.fixed L hid hx hd hc avs vs h4⟩
 | .mp i,u,h=>by
  simp only[AV.fix,aj] at h ⊢
  intro blk' hk
  have hne:i≠id:=fun e=>by rw[e,hid] at hk;cases hk
  obtain⟨blk,h1,h2,_⟩:=L.names i blk' hne hk
  rw[h2]
  exact h blk h1
 | .pth i n off t',u,h=>by
  rcases bg i id with⟨_,hb⟩ | ⟨hne,hb⟩
  ·simp[AV.fix,hb,aj]
  ·simp only[AV.fix,hb,cond_false,aj] at h ⊢
   intro blk' hk
   obtain⟨blk,h1,h2,h3,h4⟩:=L.names i blk' hne hk
   obtain⟨d,t,xs,b,cur,e,rfl,hφ,h0,hi,hg,hu⟩:=h blk h1
   obtain⟨d',xs',rfl,hl⟩:=h3 d t xs rfl
   exact⟨d',t,xs',b,cur,e,rfl,h2.trans hφ,h0,by rw[hl];exact hi,(h4 ⟨_,_,_,rfl⟩ b hφ).trans hg,hu⟩
 | .fn f caps,u,h=>by
  simp only[AV.fix,aj] at h ⊢
  obtain⟨vs,h1,h2⟩:=h
  exact⟨vs,h1,aq.fixed L hid hx hd hc caps vs h2⟩
 | .tup avs,u,h=>by
  simp only[AV.fix,aj] at h ⊢
  obtain⟨vs,h1,h2⟩:=h
  exact⟨vs,h1,aq.fixed L hid hx hd hc avs vs h2⟩
 | .ref v,u,h=>by
  simp only[AV.fix,aj] at h ⊢
  obtain⟨b,o,uv,h1,h2,h3,h4,h5⟩:=h
  exact⟨b,o,uv,h1,L.imm _ h2,(L.immSame b h2 o).trans h3,h4,aj.fixed L hid hx hd hc v uv h5⟩
theorem aq.fixed (L:LaterX id w w' I I' S S' φ φ' hp hp') (hid:lookup hp' id=none) {d0:Dp} (hx:lookup hp id=some (.arr d0 t xs))
  (hd:∀cut u,gR w (φ id) t xs.length cut u->∃cs,Rep w' I' (.sl t) (aC xs cut) cs/\u=mkv (.sl t) cs)
  (hc:∀hi u,mY w (φ id) t xs.length hi u->∃cs,Rep w' I' (.sl t) (aC xs (some (0,hi))) cs/\u=mkv (.sl t) cs) :
  ∀(l:List AV) (vs:List Value),aq w I S φ hp l vs->aq w' I' S' φ' hp' (AV.fS id t xs l) vs
 | [],_,h=>by simpa [AV.fS,aq] using h
 | a::l,vs,h=>by
  simp only[AV.fS,aq] at h ⊢
  obtain⟨v,vs',e,h1,h2⟩:=h
  exact⟨v,vs',e,aj.fixed L hid hx hd hc a v h1,aq.fixed L hid hx hd hc l vs' h2⟩
end
variable {W:AV}
mutual
theorem aj.qv (L:LaterX id w w' I I' S S' φ φ' hp hp') {blk0:Block} (hx:lookup hp id=some blk0) (hW:∀b,φ id=some b->aj w' I' S' φ' hp' W (.pointer (some ⟨b,0,none⟩))) :
  ∀(av:AV) (u:Value),aj w I S φ hp av u->aj w' I' S' φ' hp' (AV.sub id W av) u
 | .top,_,_=>by simp[AV.sub,aj]
 | .cst v,u,h=>by simpa [AV.sub,aj] using h
 | .data t x,u,h=>by
  simp only[AV.sub,aj] at h ⊢
  obtain⟨cs,h1,h2⟩:=h
  exact⟨cs,h1.mono L.imm L.immSame,h2⟩
 | .adr t x,u,h=>by
  simp only[AV.sub,aj] at h ⊢
  obtain⟨b,o,cs,h1,h2,h3,h4⟩:=h
  exact⟨b,o,cs,h1,L.imm _ h2,h3.mono L.imm L.immSame,h4.same (L.immSame b h2)⟩
 | .brw t xs,u,h=>by
  simp only[AV.sub,aj] at h ⊢
  obtain⟨A,c,h1,h2,h3⟩:=h
  refine⟨A,c,h1,h2,?_⟩
  rcases h3 with h3 | ⟨b,o,l,hA,hb,hcs,hl⟩
  ·exact .inl h3
  ·exact .inr ⟨b,o,l,hA,L.aM b hb,hcs.same (L.stabSame b hb),hl.mono' L.imm L.immSame⟩
 | .badr t x,u,h=>by
  simp only[AV.sub,aj] at h ⊢
  obtain⟨b,o,cs,h1,h2,h3,h4⟩:=h
  exact⟨b,o,cs,h1,L.aM _ h2,h3.mono L.imm L.immSame,h4.same (L.stabSame b h2)⟩
 | .ptr i off,u,h=>by
  rcases bg i id with⟨he,hb⟩ | ⟨hne,hb⟩
  ·subst he
   cases off with
   | zero=>
    simp only[AV.sub,hb,cond_true,Nat.beq_refl,aj] at h ⊢
    obtain⟨b,h1,rfl⟩:=h _ hx
    exact hW b h1
   | succ n=>
    have:AV.sub i W (.ptr i (n+1))=.top:=by simp only[AV.sub,hb,cond_true];rfl
    rw[this]
    simp[aj]
  ·simp only[AV.sub,hb,cond_false,aj] at h ⊢
   intro blk' hk
   obtain⟨blk,h1,h2,_⟩:=L.names i blk' hne hk
   rw[h2]
   exact h blk h1
 | .elt i n off,u,h=>by
  rcases bg i id with⟨_,hb⟩ | ⟨hne,hb⟩
  ·simp[AV.sub,hb,aj]
  ·simp only[AV.sub,hb,cond_false,aj] at h ⊢
   intro blk' hk
   obtain⟨blk,h1,h2,h3,_⟩:=L.names i blk' hne hk
   obtain⟨d,t,xs,b,rfl,hφ,h0,hi,hu⟩:=h blk h1
   obtain⟨d',xs',rfl,hl⟩:=h3 d t xs rfl
   exact⟨d',t,xs',b,rfl,h2.trans hφ,h0,by rw[hl];exact hi,hu⟩
 | .own i cut,u,h=>by
  rcases bg i id with⟨_,hb⟩ | ⟨hne,hb⟩
  ·simp[AV.sub,hb,aj]
  ·simp only[AV.sub,hb,cond_false,aj] at h ⊢
   intro blk' hk
   obtain⟨blk,h1,h2,h3,h4⟩:=L.names i blk' hne hk
   obtain⟨d,t,xs,rfl,ho⟩:=h blk h1
   obtain⟨d',xs',rfl,hl⟩:=h3 d t xs rfl
   exact⟨d',t,xs',rfl,by rw[h2,hl];exact ho.later (fun b hb cur e hg=>⟨cur,(h4 ⟨_,_,_,rfl⟩ b hb).trans hg,rfl⟩)⟩
 | .clp i hi,u,h=>by
  rcases bg i id with⟨_,hb⟩ | ⟨hne,hb⟩
  ·simp[AV.sub,hb,aj]
  ·simp only[AV.sub,hb,cond_false,aj] at h ⊢
   intro blk' hk
   obtain⟨blk,h1,h2,h3,h4⟩:=L.names i blk' hne hk
   obtain⟨d,t,xs,rfl,ho⟩:=h blk h1
   obtain⟨d',xs',rfl,hl⟩:=h3 d t xs rfl
   exact⟨d',t,xs',rfl,by rw[h2,hl];exact ho.later (fun b hb cur e hg=>⟨cur,(h4 ⟨_,_,_,rfl⟩ b hb).trans hg,rfl⟩)⟩
 | .agg t avs,u,h=>by
  simp only[AV.sub,aj] at h ⊢
  obtain⟨vs,h1,h2,h3,h4⟩:=h
  exact⟨vs,h1,h2,h3,aq.qv L hx hW avs vs h4⟩
 | .mp i,u,h=>by
  rcases bg i id with⟨_,hb⟩ | ⟨hne,hb⟩
  ·simp[AV.sub,hb,aj]
  ·simp only[AV.sub,hb,cond_false,aj] at h ⊢
   intro blk' hk
   obtain⟨blk,h1,h2,_⟩:=L.names i blk' hne hk
   rw[h2]
   exact h blk h1
 | .pth i n off t',u,h=>by
  rcases bg i id with⟨_,hb⟩ | ⟨hne,hb⟩
  ·simp[AV.sub,hb,aj]
  ·simp only[AV.sub,hb,cond_false,aj] at h ⊢
   intro blk' hk
   obtain⟨blk,h1,h2,h3,h4⟩:=L.names i blk' hne hk
   obtain⟨d,t,xs,b,cur,e,rfl,hφ,h0,hi,hg,hu⟩:=h blk h1
   obtain⟨d',xs',rfl,hl⟩:=h3 d t xs rfl
   exact⟨d',t,xs',b,cur,e,rfl,h2.trans hφ,h0,by rw[hl];exact hi,(h4 ⟨_,_,_,rfl⟩ b hφ).trans hg,hu⟩
 | .fn f caps,u,h=>by
  simp only[AV.sub,aj] at h ⊢
  obtain⟨vs,h1,h2⟩:=h
  exact⟨vs,h1,aq.qv L hx hW caps vs h2⟩
 | .tup avs,u,h=>by
  simp only[AV.sub,aj] at h ⊢
  obtain⟨vs,h1,h2⟩:=h
  exact⟨vs,h1,aq.qv L hx hW avs vs h2⟩
 | .ref v,u,h=>by
  simp only[AV.sub,aj] at h ⊢
  obtain⟨b,o,uv,h1,h2,h3,h4,h5⟩:=h
  exact⟨b,o,uv,h1,L.imm _ h2,(L.immSame b h2 o).trans h3,h4,aj.qv L hx hW v uv h5⟩
theorem aq.qv (L:LaterX id w w' I I' S S' φ φ' hp hp') {blk0:Block} (hx:lookup hp id=some blk0) (hW:∀b,φ id=some b->aj w' I' S' φ' hp' W (.pointer (some ⟨b,0,none⟩))) :
  ∀(l:List AV) (vs:List Value),aq w I S φ hp l vs->aq w' I' S' φ' hp' (AV.oJ id W l) vs
 | [],_,h=>by simpa [AV.oJ,aq] using h
 | a::l,vs,h=>by
  simp only[AV.oJ,aq] at h ⊢
  obtain⟨v,vs',e,h1,h2⟩:=h
  exact⟨v,vs',e,aj.qv L hx hW a v h1,aq.qv L hx hW l vs' h2⟩
end
structure LaterS (id:Nat) (w w':World) (I I' S S':Nat->Prop) (φ φ':Names) (hp hp':Hp):Prop where
 imm:∀b,I b->I' b
 immSame:mS I w w'
 aM:∀b,S b->S' b
 stabSame:mS S w w'
 names:∀i blk',lookup hp' i=some blk'->∃blk,lookup hp i=some blk/\φ' i=φ i ∧
  (∀d t xs,blk=.arr d t xs->∃d' xs',blk'=.arr d' t xs'/\xs'.length=xs.length) ∧
  ((∃d t xs,blk=.arr d t xs)->∀b,φ i=some b->(i≠id->w'.heap[b]? = w.heap[b]?)/\∀cur e,w.heap[b]? = some (.cells cur e (0,0))->∃cur',w'.heap[b]? = some (.cells cur' e (0,0))/\cur'.size=cur.size)
mutual
theorem aj.kP (L:LaterS id w w' I I' S S' φ φ' hp hp'):∀(av:AV) (u:Value),aj w I S φ hp av u->aj w' I' S' φ' hp' (av.iT id) u
 | .top,_,_=>by simp[AV.iT,aj]
 | .cst v,u,h=>by simpa [AV.iT,aj] using h
 | .data t x,u,h=>by
  simp only[AV.iT,aj] at h ⊢
  obtain⟨cs,h1,h2⟩:=h
  exact⟨cs,h1.mono L.imm L.immSame,h2⟩
 | .adr t x,u,h=>by
  simp only[AV.iT,aj] at h ⊢
  obtain⟨b,o,cs,h1,h2,h3,h4⟩:=h
  exact⟨b,o,cs,h1,L.imm _ h2,h3.mono L.imm L.immSame,h4.same (L.immSame b h2)⟩
 | .brw t xs,u,h=>by
  simp only[AV.iT,aj] at h ⊢
  obtain⟨A,c,h1,h2,h3⟩:=h
  refine⟨A,c,h1,h2,?_⟩
  rcases h3 with h3 | ⟨b,o,l,hA,hb,hcs,hl⟩
  ·exact .inl h3
  ·exact .inr ⟨b,o,l,hA,L.aM b hb,hcs.same (L.stabSame b hb),hl.mono' L.imm L.immSame⟩
 | .badr t x,u,h=>by
  simp only[AV.iT,aj] at h ⊢
  obtain⟨b,o,cs,h1,h2,h3,h4⟩:=h
  exact⟨b,o,cs,h1,L.aM _ h2,h3.mono L.imm L.immSame,h4.same (L.stabSame b h2)⟩
 | .ptr i off,u,h=>by
  simp only[AV.iT,aj] at h ⊢
  intro blk' hk
  obtain⟨blk,h1,h2,_⟩:=L.names i blk' hk
  rw[h2]
  exact h blk h1
 | .elt i n off,u,h=>by
  simp only[AV.iT,aj] at h ⊢
  intro blk' hk
  obtain⟨blk,h1,h2,h3,_⟩:=L.names i blk' hk
  obtain⟨d,t,xs,b,rfl,hφ,h0,hi,hu⟩:=h blk h1
  obtain⟨d',xs',rfl,hl⟩:=h3 d t xs rfl
  exact⟨d',t,xs',b,rfl,h2.trans hφ,h0,by rw[hl];exact hi,hu⟩
 | .own i cut,u,h=>by
  simp only[AV.iT,aj] at h ⊢
  intro blk' hk
  obtain⟨blk,h1,h2,h3,h4⟩:=L.names i blk' hk
  obtain⟨d,t,xs,rfl,ho⟩:=h blk h1
  obtain⟨d',xs',rfl,hl⟩:=h3 d t xs rfl
  exact⟨d',t,xs',rfl,by rw[h2,hl];exact ho.later (fun b hb=>(h4 ⟨_,_,_,rfl⟩ b hb).2)⟩
 | .clp i hi,u,h=>by
  simp only[AV.iT,aj] at h ⊢
  intro blk' hk
  obtain⟨blk,h1,h2,h3,h4⟩:=L.names i blk' hk
  obtain⟨d,t,xs,rfl,ho⟩:=h blk h1
  obtain⟨d',xs',rfl,hl⟩:=h3 d t xs rfl
  exact⟨d',t,xs',rfl,by rw[h2,hl];exact ho.later (fun b hb=>(h4 ⟨_,_,_,rfl⟩ b hb).2)⟩
 | .agg t avs,u,h=>by
  simp only[AV.iT,aj] at h ⊢
  obtain⟨vs,h1,h2,h3,h4⟩:=h
  exact⟨vs,h1,h2,h3,aq.kP L avs vs h4⟩
 | .mp i,u,h=>by
  simp only[AV.iT,aj] at h ⊢
  intro blk' hk
  obtain⟨blk,h1,h2,_⟩:=L.names i blk' hk
  rw[h2]
  exact h blk h1
 | .pth i n off t',u,h=>by
  rcases bg i id with⟨_,hb⟩ | ⟨hne,hb⟩
  ·simp[AV.iT,hb,aj]
  ·simp only[AV.iT,hb,cond_false,aj] at h ⊢
   intro blk' hk
   obtain⟨blk,h1,h2,h3,h4⟩:=L.names i blk' hk
   obtain⟨d,t,xs,b,cur,e,rfl,hφ,h0,hi,hg,hu⟩:=h blk h1
   obtain⟨d',xs',rfl,hl⟩:=h3 d t xs rfl
   exact⟨d',t,xs',b,cur,e,rfl,h2.trans hφ,h0,by rw[hl];exact hi,((h4 ⟨_,_,_,rfl⟩ b hφ).1 hne).trans hg,hu⟩
 | .fn f caps,u,h=>by
  simp only[AV.iT,aj] at h ⊢
  obtain⟨vs,h1,h2⟩:=h
  exact⟨vs,h1,aq.kP L caps vs h2⟩
 | .tup avs,u,h=>by
  simp only[AV.iT,aj] at h ⊢
  obtain⟨vs,h1,h2⟩:=h
  exact⟨vs,h1,aq.kP L avs vs h2⟩
 | .ref v,u,h=>by
  simp only[AV.iT,aj] at h ⊢
  obtain⟨b,o,uv,h1,h2,h3,h4,h5⟩:=h
  exact⟨b,o,uv,h1,L.imm _ h2,(L.immSame b h2 o).trans h3,h4,aj.kP L v uv h5⟩
theorem aq.kP (L:LaterS id w w' I I' S S' φ φ' hp hp'):∀(l:List AV) (vs:List Value),aq w I S φ hp l vs->aq w' I' S' φ' hp' (AV.fQ id l) vs
 | [],_,h=>by simpa [AV.fQ,aq] using h
 | a::l,vs,h=>by
  simp only[AV.fQ,aq] at h ⊢
  obtain⟨v,vs',e,h1,h2⟩:=h
  exact⟨v,vs',e,aj.kP L a v h1,aq.kP L l vs' h2⟩
end
mutual
theorem rT (hI:∀b,I b->I' b) (hIs:mS I w w') (hS:∀b,S b->S' b) (hSs:mS S w w'):∀(v:AV) (u:Value),v.free=true->aj w I S φ hp v u->aj w' I' S' φ' hp' v u
 | .data t x,u,_,h=>by
  simp only[aj] at h ⊢
  obtain⟨cs,h1,h2⟩:=h
  exact⟨cs,h1.mono hI hIs,h2⟩
 | .cst v,u,_,h=>by simpa [aj] using h
 | .adr t x,u,_,h=>by
  simp only[aj] at h ⊢
  obtain⟨b,o,cs,h1,h2,h3,h4⟩:=h
  exact⟨b,o,cs,h1,hI _ h2,h3.mono hI hIs,h4.same (hIs b h2)⟩
 | .brw t xs,u,_,h=>by
  simp only[aj] at h ⊢
  obtain⟨A,c,h1,h2,h3⟩:=h
  refine⟨A,c,h1,h2,?_⟩
  rcases h3 with h3 | ⟨b,o,l,hA,hb,hcs,hl⟩
  ·exact .inl h3
  ·exact .inr ⟨b,o,l,hA,hS b hb,hcs.same (hSs b hb),hl.mono' hI hIs⟩
 | .fn f caps,u,hf,h=>by
  simp only[aj] at h ⊢
  obtain⟨vs,h1,h2⟩:=h
  exact⟨vs,h1,Ds hI hIs hS hSs caps vs (by simpa only[AV.free] using hf) h2⟩
 | .ref v,u,hf,h=>by
  simp only[aj] at h ⊢
  obtain⟨b,o,uv,h1,h2,h3,h4,h5⟩:=h
  exact⟨b,o,uv,h1,hI _ h2,(hIs b h2 o).trans h3,h4,rT hI hIs hS hSs v uv (by simpa only[AV.free] using hf) h5⟩
 | .top,_,hf,_=>by simp[AV.free] at hf
 | .badr _ _,_,hf,_=>by simp[AV.free] at hf
 | .ptr _ _,_,hf,_=>by simp[AV.free] at hf
 | .elt _ _ _,_,hf,_=>by simp[AV.free] at hf
 | .own _ _,_,hf,_=>by simp[AV.free] at hf
 | .clp _ _,_,hf,_=>by simp[AV.free] at hf
 | .agg _ _,_,hf,_=>by simp[AV.free] at hf
 | .pth _ _ _ _,_,hf,_=>by simp[AV.free] at hf
 | .mp _,_,hf,_=>by simp[AV.free] at hf
 | .tup _,_,hf,_=>by simp[AV.free] at hf
theorem Ds (hI:∀b,I b->I' b) (hIs:mS I w w') (hS:∀b,S b->S' b) (hSs:mS S w w'):∀(l:List AV) (vs:List Value),AV.pN l=true->aq w I S φ hp l vs->aq w' I' S' φ' hp' l vs
 | [],vs,_,h=>by simpa [aq] using h
 | v::l,vs,hf,h=>by
  simp only[aq] at h ⊢
  obtain⟨u,us,e,h1,h2⟩:=h
  simp only[AV.pN,Bool.and_eq_true] at hf
  exact⟨u,us,e,rT hI hIs hS hSs v u hf.1 h1,Ds hI hIs hS hSs l us hf.2 h2⟩
end
mutual
theorem mN (hI:∀b,I b->I' b) (hIs:mS I w w'):∀(v:AV) (u:Value),v.kept=true->aj w I S φ hp v u->aj w' I' S' φ' hp' v u
 | .data t x,u,_,h=>by
  simp only[aj] at h ⊢
  obtain⟨cs,h1,h2⟩:=h
  exact⟨cs,h1.mono hI hIs,h2⟩
 | .cst v,u,_,h=>by simpa [aj] using h
 | .adr t x,u,_,h=>by
  simp only[aj] at h ⊢
  obtain⟨b,o,cs,h1,h2,h3,h4⟩:=h
  exact⟨b,o,cs,h1,hI _ h2,h3.mono hI hIs,h4.same (hIs b h2)⟩
 | .fn f caps,u,hf,h=>by
  simp only[aj] at h ⊢
  obtain⟨vs,h1,h2⟩:=h
  exact⟨vs,h1,pK hI hIs caps vs (by simpa only[AV.kept] using hf) h2⟩
 | .ref v,u,hf,h=>by
  simp only[aj] at h ⊢
  obtain⟨b,o,uv,h1,h2,h3,h4,h5⟩:=h
  exact⟨b,o,uv,h1,hI _ h2,(hIs b h2 o).trans h3,h4,mN hI hIs v uv (by simpa only[AV.kept] using hf) h5⟩
 | .top,_,hf,_=>by simp[AV.kept] at hf
 | .brw _ _,_,hf,_=>by simp[AV.kept] at hf
 | .badr _ _,_,hf,_=>by simp[AV.kept] at hf
 | .mp _,_,hf,_=>by simp[AV.kept] at hf
 | .ptr _ _,_,hf,_=>by simp[AV.kept] at hf
 | .elt _ _ _,_,hf,_=>by simp[AV.kept] at hf
 | .own _ _,_,hf,_=>by simp[AV.kept] at hf
 | .tup _,_,hf,_=>by simp[AV.kept] at hf
theorem pK (hI:∀b,I b->I' b) (hIs:mS I w w'):∀(l:List AV) (vs:List Value),AV.ia l=true->aq w I S φ hp l vs->aq w' I' S' φ' hp' l vs
 | [],vs,_,h=>by simpa [aq] using h
 | v::l,vs,hf,h=>by
  simp only[aq] at h ⊢
  obtain⟨u,us,e,h1,h2⟩:=h
  simp only[AV.ia,Bool.and_eq_true] at hf
  exact⟨u,us,e,mN hI hIs v u hf.1 h1,pK hI hIs l us hf.2 h2⟩
end
end
theorem js {w:World} {e:TypeId} {size n:Nat} {v:Value} {l:List Value} (h:w.rowOf 0 e size v n l) {b:Nat} (hb:v.ownBlock=some b):Cells w b 0 l:=by
 intro j u hj
 rcases h with⟨_,⟨rfl,_⟩ | ⟨g,cap,cur,rfl,_,hg,_,_,_,ht⟩⟩
 ·simp[Value.ownBlock] at hb
 ·simp only[Value.ownBlock,Option.some.injEq] at hb
  subst hb
  rw[<-ht,List.getElem?_take] at hj
  split at hj
  ·simpa [World.cell?,hg] using hj
  ·cases hj
theorem pP {w:World} {e e':TypeId} {size n m:Nat} {v u:Value} {l k:List Value} (h:w.rowOf 0 e size v n l) (h':w.rowOf 0 e' size u m k) (hb:u.ownBlock=v.ownBlock) (hm:m<=n):k=l.take (m * size):=by
 rcases h with⟨hl,⟨rfl,rfl⟩ | ⟨g,cap,cur,rfl,_,hg,hn,hc,hs,ht⟩⟩
 ·rcases h' with⟨hk,⟨rfl,rfl⟩ | ⟨g',cap',cur',rfl,_,hg',_⟩⟩
  ·simp at hk;simp[hk]
  ·simp[Value.ownBlock] at hb
 ·rcases h' with⟨hk,⟨rfl,rfl⟩ | ⟨g',cap',cur',rfl,_,hg',hn',hc',hs',ht'⟩⟩
  ·simp[Value.ownBlock] at hb
  ·simp[Value.ownBlock] at hb
   subst hb
   rw[hg] at hg'
   cases hg'
   rw[<-ht',<-ht,List.take_take]
   congr 1
   have:m * size<=n * size:=Nat.mul_le_mul_right _ hm
   omega
theorem uN {w:World} {I:Nat->Prop} {r:Option Nat} {t:Ty} {xs:List t.D} {v:Value} {e:TypeId} {l:List Value}
  (hv:w.rowOf 0 e t.size v xs.length l) (hr:v.ownBlock=r) (hl:cB (Rep w I t) xs l) {cut:Option (Int×Int)} {u:Value} (hu:gR w r t xs.length cut u) :
  ∃A c,u=.slice A (aC xs cut).length c/\(aC xs cut).length<=c ∧
   (aC xs cut=[]\/∃b o k,A=some ⟨b,o,none⟩/\r=some b/\Cells w b o k/\cB (Rep w I t) (aC xs cut) k):=by
 cases cut with
 | none=>
  obtain⟨e',k,hk,hb⟩:=hu
  have hkl:=pP hv hk (hb.trans hr.symm) (Nat.le_refl _)
  rw[List.take_of_length_le (by rw[hl.length];exact Nat.le_refl _)] at hkl
  subst hkl
  simp only[aC]
  rcases hk with⟨_,⟨rfl,h0⟩ | ⟨g,cap,cur,rfl,_,hg,hn,hc,hs,ht⟩⟩
  ·have:xs=[]:=List.eq_nil_of_length_eq_zero h0
   exact⟨none,0,by rw[h0],by omega,.inl this⟩
  ·exact⟨_,cap,rfl,hn,.inr ⟨g,0,k,rfl,by rw[<-hb];rfl,js (e:=e) (size:=t.size) (n:=xs.length) (v:=v) hv (by rw[hr,<-hb];rfl),hl⟩⟩
 | some p=>
  obtain⟨lo,hi⟩:=p
  obtain⟨h1,h2,h3,A,c,rfl,hc,_,h5⟩:=hu
  have hlen:(aC xs (some (lo,hi))).length=(hi-lo).toNat:=by
   simp[aC];omega
  refine⟨A,c,by rw[hlen],by rw[hlen];exact hc,?_⟩
  by_cases hlt:lo<hi
  ·obtain⟨b,hb,hA⟩:=h5 hlt
   have hcs:=js hv (hr.trans hb)
   refine .inr ⟨b,lo.toNat * t.size,_,hA,hb,?_,qY hl lo hi⟩
   have:=(hcs.drop (lo.toNat * t.size)).take ((hi-lo).toNat * t.size)
   rwa [Nat.zero_add] at this
  ·refine .inl (List.eq_nil_of_length_eq_zero ?_)
   rw[hlen]
   omega
end Go.AE
