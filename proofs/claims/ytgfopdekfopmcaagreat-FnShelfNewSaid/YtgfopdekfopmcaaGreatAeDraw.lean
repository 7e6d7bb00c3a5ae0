/- Regions whose operations may be done in several orders. -/
import Derived.Test.YtgfopdekfopmcaaGreatAeReg
namespace Go.AE
open Go Go.RowKit
section
variable {P:Program} {ops:Array Oper} {Q:Exit->Act->World->Prop} {md:Region.Mode} {nw:Nat->Bool} {Fz:Nat->Prop}
def Ev (nw:Nat->Bool) (Fz:Nat->Prop) (i:Nat) (w w':World):Prop:=(nw i=true->Turn w w' none)/\∀b,Fz b->w'.heap[b]? = w.heap[b]?
theorem Ev.refl {i:Nat} {w:World}:Ev nw Fz i w w:=⟨fun _=>Turn.refl _ _,fun _ _=>rfl⟩
def gO (P:Program) (md:Region.Mode) (ops:Array Oper) (Q:Exit->Act->World->Prop) (nw:Nat->Bool) (Fz:Nat->Prop):Nat->Array Bool->Act->World->Prop
 | 0,listed,a,w=>Region.ready md ops listed=[]/\Q .normal a w
 | fuel+1,listed,a,w=>
  (Region.ready md ops listed=[]->Q .normal a w) ∧
  ∀i∈Region.ready md ops listed,wpOp P ops Q i (fun a' w'=>Ev nw Fz i w w'/\gO P md ops Q nw Fz fuel (listed.setIfInBounds i true) a' w') a w
theorem si:∀(fuel:Nat) (listed:Array Bool) (a:Act) (w:World),gO P md ops Q nw Fz fuel listed a w->wpAny P md ops Q fuel listed a w
 | 0,_,_,_,h=>h
 | fuel+1,_,_,_,h=>⟨h.1,fun i hi=>wpOp_mono (fun a' w' h'=>si fuel _ a' w' h'.2) (h.2 i hi)⟩
theorem Turn.trans {w w' w'':World} (h:Turn w w' none) (k:Turn w' w'' none):Turn w w'' none:=
 ⟨k.os.trans h.os,k.tape.trans h.tape,k.output.trans h.output,Nat.le_trans h.size k.size,fun b hb _=>(k.block b (Nat.lt_of_lt_of_le hb h.size) (by simp)).trans (h.block b hb (by simp))⟩
theorem tW {i:Nat} {oi:Oper} {v:Value} (hi:ops[i]? = some oi) (hsel:∀(j:Nat) (o:Oper) cs b,ops[j]? = some o->o.op≠.select cs b)
  (hQ:∀c a w,Q (.panic c) (a.put oi.dst v) w->Q (.panic c) a w) {w0:World} {Blk:Nat->Prop}
  (hB:∀b,Blk b->∃o,ops[b]? = some o/\∃e∈o.after,Region.binds md e=true/\(e.on=i\/Blk e.on)) :
  ∀(fuel:Nat) (listed:Array Bool) (a:Act) (w:World),
   (∀j oj,ops[j]? = some oj->j≠i->listed.getD j true=false->(∀e∈oj.after,Region.binds md e=true->e.on≠i)->oi.apart ops oj=true) →
   i∈Region.ready md ops listed->YieldsIf P ops (fun w'=>Turn w0 w' none) oi v a->Turn w0 w none →
   (∀b,Blk b->listed.getD b false=false)->(∀j,j∈Region.ready md ops listed->j≠i->nw j=false->Blk j)->(∀j o,ops[j]? = some o->listed.getD j true=false->j≠i->nw j=false->Blk j) →
   gO P md ops Q nw Fz fuel (listed.setIfInBounds i true) (a.put oi.dst v) w->gO P md ops Q nw Fz (fuel+1) listed a w:=by
 intro fuel
 induction fuel with
 | zero=>
  intro listed a w _ hr hy hS _ _ _ H
  refine⟨fun h=>(by rw[h] at hr;cases hr),fun j hj=>?_⟩
  by_cases hji:j=i
  ·subst hji;exact hy.wpOp hi hS ⟨Ev.refl,H⟩
  ·have:=ready_mono hj hji
   rw[H.1] at this
   cases this
 | succ fuel ih=>
  intro listed a w hfree hr hy hS hbl hbr hbw H
  refine⟨fun h=>(by rw[h] at hr;cases hr),fun j hj=>?_⟩
  by_cases hji:j=i
  ·subst hji;exact hy.wpOp hi hS ⟨Ev.refl,H⟩
  ·have h1:=H.2 j (ready_mono hj hji)
   obtain⟨hjun,oj,hoj,hall⟩:=mem_ready.1 hj
   have hiun:listed.getD i false=false:=by
    have h0:=(mem_ready.1 hr).1
    rcases Nat.lt_or_ge i listed.size with h' | h'
    ·simp[h'] at h0 ⊢;exact h0
    ·simp[Array.getElem?_eq_none h'] at h0
   have hnb:¬Blk j:=by
    intro hb
    obtain⟨o,ho,e,he,hbd,hq⟩:=hB j hb
    rw[hoj] at ho
    cases ho
    have h2:=hall e he hbd
    rcases hq with hq | hq
    ·rw[hq,hiun] at h2;cases h2
    ·rw[hbl _ hq] at h2;cases h2
   have hnw:nw j=true:=by
    cases hq:nw j with
    | true=>rfl
    | false=>exact absurd (hbr j hj hji hq) hnb
   have hnot:∀e∈oj.after,Region.binds md e=true->e.on≠i:=fun e he hb heq=>by
    have h2:=hall e he hb
    rw[heq,hiun] at h2
    cases h2
   have h2:=wpOp_putIf hoj (hfree j oj hoj hji hjun hnot) (fun cs b=>hsel i oi cs b hi) (fun cs b=>hsel j oj cs b hoj) hQ hy h1
   have hfree':∀k ok,ops[k]? = some ok->k≠i->(listed.setIfInBounds j true).getD k true=false →
     (∀e∈ok.after,Region.binds md e=true->e.on≠i)->oi.apart ops ok=true:=fun k ok hk hki hun hno=>by
    refine hfree k ok hk hki ?_ hno
    by_cases hjk:j=k
    ·subst hjk;exact hjun
    ·rw[getD_set_ne true hjk] at hun;exact hun
   have hbl':∀b,Blk b->(listed.setIfInBounds j true).getD b false=false:=by
    intro b hb
    by_cases hjb:j=b
    ·subst hjb;exact absurd hb hnb
    ·rw[getD_set_ne false hjb];exact hbl b hb
   have hbw':∀k o,ops[k]? = some o->(listed.setIfInBounds j true).getD k true=false->k≠i->nw k=false->Blk k:=by
    intro k o hk hun hki hq
    refine hbw k o hk ?_ hki hq
    by_cases hjk:j=k
    ·subst hjk;exact hjun
    ·rw[getD_set_ne true hjk] at hun;exact hun
   have hbr':∀k,k∈Region.ready md ops (listed.setIfInBounds j true)->k≠i->nw k=false->Blk k:=by
    intro k hk hki hq
    obtain⟨h3,o,ho,_⟩:=mem_ready.1 hk
    exact hbw' k o ho h3 hki hq
   refine wpOp_mono (fun a' w' h3=>⟨h3.2.1,ih (listed.setIfInBounds j true) a' w' hfree' (ready_mono hr (Ne.symm hji)) h3.1 (hS.trans (h3.2.1.1 hnw)) hbl' hbr' hbw' ?_⟩) h2
   rw[Array.setIfInBounds_comm _ _ hji]
   exact h3.2.2
theorem sM {i:Nat} {oi:Oper} {v:Value} (hi:ops[i]? = some oi) (hsel:∀(j:Nat) (o:Oper) cs b,ops[j]? = some o->o.op≠.select cs b)
  (hQ:∀c a w,Q (.panic c) (a.put oi.dst v) w->Q (.panic c) a w) :
  ∀(fuel:Nat) (listed:Array Bool) (a:Act) (w:World),
   (∀j oj,ops[j]? = some oj->j≠i->listed.getD j true=false->(∀e∈oj.after,Region.binds md e=true->e.on≠i)->oi.apart ops oj=true) →
   i∈Region.ready md ops listed->YieldsIf P ops (fun _=>True) oi v a →
   gO P md ops Q nw Fz fuel (listed.setIfInBounds i true) (a.put oi.dst v) w->gO P md ops Q nw Fz (fuel+1) listed a w:=by
 intro fuel
 induction fuel with
 | zero=>
  intro listed a w _ hr hy H
  refine⟨fun h=>(by rw[h] at hr;cases hr),fun j hj=>?_⟩
  by_cases hji:j=i
  ·subst hji;exact hy.wpOp hi trivial ⟨Ev.refl,H⟩
  ·have:=ready_mono hj hji
   rw[H.1] at this
   cases this
 | succ fuel ih=>
  intro listed a w hfree hr hy H
  refine⟨fun h=>(by rw[h] at hr;cases hr),fun j hj=>?_⟩
  by_cases hji:j=i
  ·subst hji;exact hy.wpOp hi trivial ⟨Ev.refl,H⟩
  ·have h1:=H.2 j (ready_mono hj hji)
   obtain⟨hjun,oj,hoj,hall⟩:=mem_ready.1 hj
   have hiun:listed.getD i false=false:=by
    have h0:=(mem_ready.1 hr).1
    rcases Nat.lt_or_ge i listed.size with h' | h'
    ·simp[h'] at h0 ⊢;exact h0
    ·simp[Array.getElem?_eq_none h'] at h0
   have hnot:∀e∈oj.after,Region.binds md e=true->e.on≠i:=fun e he hb heq=>by
    have h2:=hall e he hb
    rw[heq,hiun] at h2
    cases h2
   have h2:=wpOp_putIf hoj (hfree j oj hoj hji hjun hnot) (fun cs b=>hsel i oi cs b hi) (fun cs b=>hsel j oj cs b hoj) hQ hy h1
   have hfree':∀k ok,ops[k]? = some ok->k≠i->(listed.setIfInBounds j true).getD k true=false →
     (∀e∈ok.after,Region.binds md e=true->e.on≠i)->oi.apart ops ok=true:=fun k ok hk hki hun hno=>by
    refine hfree k ok hk hki ?_ hno
    by_cases hjk:j=k
    ·subst hjk;exact hjun
    ·rw[getD_set_ne true hjk] at hun;exact hun
   refine wpOp_mono (fun a' w' h3=>⟨h3.2.1,ih (listed.setIfInBounds j true) a' w' hfree' (ready_mono hr (Ne.symm hji)) h3.1 ?_⟩) h2
   rw[Array.setIfInBounds_comm _ _ hji]
   exact h3.2.2
theorem sL {i:Nat} {oi:Oper} {v:Value} (hi:ops[i]? = some oi) (hsel:∀(j:Nat) (o:Oper) cs b,ops[j]? = some o->o.op≠.select cs b)
  (hQ:∀c a w,Q (.panic c) (a.put oi.dst v) w->Q (.panic c) a w) {w0:World} {bl:Nat} (hF:Fz bl) :
  ∀(fuel:Nat) (listed:Array Bool) (a:Act) (w:World),
   (∀j oj,ops[j]? = some oj->j≠i->listed.getD j true=false->(∀e∈oj.after,Region.binds md e=true->e.on≠i)->oi.apart ops oj=true) →
   i∈Region.ready md ops listed->YieldsIf P ops (fun w'=>w'.heap[bl]? = w0.heap[bl]?) oi v a->w.heap[bl]? = w0.heap[bl]? →
   gO P md ops Q nw Fz fuel (listed.setIfInBounds i true) (a.put oi.dst v) w->gO P md ops Q nw Fz (fuel+1) listed a w:=by
 intro fuel
 induction fuel with
 | zero=>
  intro listed a w _ hr hy hS H
  refine⟨fun h=>(by rw[h] at hr;cases hr),fun j hj=>?_⟩
  by_cases hji:j=i
  ·subst hji;exact hy.wpOp hi hS ⟨Ev.refl,H⟩
  ·have:=ready_mono hj hji
   rw[H.1] at this
   cases this
 | succ fuel ih=>
  intro listed a w hfree hr hy hS H
  refine⟨fun h=>(by rw[h] at hr;cases hr),fun j hj=>?_⟩
  by_cases hji:j=i
  ·subst hji;exact hy.wpOp hi hS ⟨Ev.refl,H⟩
  ·have h1:=H.2 j (ready_mono hj hji)
   obtain⟨hjun,oj,hoj,hall⟩:=mem_ready.1 hj
   have hiun:listed.getD i false=false:=by
    have h0:=(mem_ready.1 hr).1
    rcases Nat.lt_or_ge i listed.size with h' | h'
    ·simp[h'] at h0 ⊢;exact h0
    ·simp[Array.getElem?_eq_none h'] at h0
   have hnot:∀e∈oj.after,Region.binds md e=true->e.on≠i:=fun e he hb heq=>by
    have h2:=hall e he hb
    rw[heq,hiun] at h2
    cases h2
   have h2:=wpOp_putIf hoj (hfree j oj hoj hji hjun hnot) (fun cs b=>hsel i oi cs b hi) (fun cs b=>hsel j oj cs b hoj) hQ hy h1
   have hfree':∀k ok,ops[k]? = some ok->k≠i->(listed.setIfInBounds j true).getD k true=false →
     (∀e∈ok.after,Region.binds md e=true->e.on≠i)->oi.apart ops ok=true:=fun k ok hk hki hun hno=>by
    refine hfree k ok hk hki ?_ hno
    by_cases hjk:j=k
    ·subst hjk;exact hjun
    ·rw[getD_set_ne true hjk] at hun;exact hun
   refine wpOp_mono (fun a' w' h3=>⟨h3.2.1,ih (listed.setIfInBounds j true) a' w' hfree' (ready_mono hr (Ne.symm hji)) h3.1 ((h3.2.1.2 _ hF).trans hS) ?_⟩) h2
   rw[Array.setIfInBounds_comm _ _ hji]
   exact h3.2.2
theorem qi {Fz':Nat->Prop} (hF:∀b,Fz b->Fz' b):∀(fuel:Nat) (listed:Array Bool) (a:Act) (w:World),gO P md ops Q nw Fz' fuel listed a w->gO P md ops Q nw Fz fuel listed a w
 | 0,_,_,_,h=>h
 | fuel+1,_,_,_,h=>⟨h.1,fun i hi=>wpOp_mono (fun a' w' h'=>⟨⟨h'.1.1,fun b hb=>h'.1.2 b (hF b hb)⟩,qi hF fuel _ a' w' h'.2⟩) (h.2 i hi)⟩
theorem vz {id:Nat} {a:Act} {w:World} (hm:P.follows .mixedOrders=true)
  (h:gO P .any ops Q nw Fz ops.size (Array.replicate ops.size false) a { w with drawn:=w.drawn+1 }):(Code.region id ops true).wp P Q a w:=
 wp_region_any hm (si _ _ _ _ h)
theorem dP (m j:Nat):bit m j=m.testBit j:=by
 unfold bit Nat.testBit
 have:(m.shiftRight j).land 1=(m >>> j) &&& 1:=rfl
 rw[this,Nat.and_comm]
 have h:=Nat.and_one_is_mod (m >>> j)
 rw[Nat.and_comm] at h
 rw[h]
 rcases Nat.mod_two_eq_zero_or_one (m >>> j) with h | h<;>rw[h]<;>rfl
theorem lA {m n:Nat}:within m n=true ↔ ∀j,m.testBit j=true->n.testBit j=true:=by
 unfold within
 rw[Nat.beq_eq]
 have e:m.land n=m &&& n:=rfl
 rw[e]
 constructor
 ·intro h j hj
  have:=congrArg (·.testBit j) h
  simp only[Nat.testBit_and,hj,Bool.true_and] at this
  exact this
 ·intro h
  apply Nat.eq_of_testBit_eq
  intro j
  rw[Nat.testBit_and]
  cases hj:m.testBit j with
  | true=>simp[h j hj]
  | false=>simp
theorem jf (k j:Nat):(Nat.shiftLeft 1 k).testBit j=decide (k=j):=by
 have e:Nat.shiftLeft 1 k=1 <<< k:=rfl
 rw[e,Nat.one_shiftLeft,Nat.testBit_two_pow]
theorem oc (m n j:Nat):(Nat.lor m n).testBit j=(m.testBit j||n.testBit j):=Nat.testBit_or m n j
theorem ck:∀(l:List Edge) (j:Nat),(bn l).testBit j=true ↔ ∃e∈l,Region.binds .any e=true/\e.on=j
 | [],j=>by simp[bn]
 | e::l,j=>by
  unfold bn
  cases hb:Region.binds .any e with
  | true=>
   simp only[cond_true,oc,jf,Bool.or_eq_true,decide_eq_true_eq,ck l j,List.mem_cons,exists_eq_or_imp,hb,true_and]
  | false=>simp[hb,ck l j]
theorem kX (done:Nat):∀(l:List Oper) (j k:Nat),k∈gp done j l ↔ ∃o,j<=k/\l[k-j]? = some o/\bit done k=false/\within (bn o.after.toList) done=true
 | [],j,k=>by simp[gp]
 | o::l,j,k=>by
  have ih:=kX done l (j+1) k
  have key:(∃o',j<=k/\(o::l)[k-j]? = some o'/\bit done k=false/\within (bn o'.after.toList) done=true) ↔
    ((k=j/\bit done k=false/\within (bn o.after.toList) done=true)\/∃o',j+1<=k/\l[k-(j+1)]? = some o'/\bit done k=false/\within (bn o'.after.toList) done=true):=by
   constructor
   ·rintro ⟨o',h1,h2,h3,h4⟩
    by_cases hk:k=j
    ·subst hk
     simp at h2
     subst h2
     exact .inl ⟨rfl,h3,h4⟩
    ·right
     refine⟨o',by omega,?_,h3,h4⟩
     have:k-j=(k-(j+1))+1:=by omega
     rw[this] at h2
     simpa using h2
   ·rintro (⟨rfl,h3,h4⟩ | ⟨o',h1,h2,h3,h4⟩)
    ·exact⟨o,Nat.le_refl _,by simp,h3,h4⟩
    ·refine⟨o',by omega,?_,h3,h4⟩
     have:k-j=(k-(j+1))+1:=by omega
     rw[this]
     simpa using h2
  rw[key,<-ih]
  rw[show gp done j (o::l)=(bif !bit done j&&within (bn o.after.toList) done then j::gp done (j+1) l else gp done (j+1) l) from rfl]
  cases hb:(!bit done j&&within (bn o.after.toList) done) with
  | true=>
   obtain⟨h1,h2⟩:=Bool.and_eq_true_iff.1 hb
   have h1:bit done j=false:=by simpa using h1
   simp only[cond_true,List.mem_cons]
   constructor
   ·rintro (rfl | h)
    ·exact .inl ⟨rfl,h1,h2⟩
    ·exact .inr h
   ·rintro (⟨rfl,_⟩ | h)
    ·exact .inl rfl
    ·exact .inr h
  | false=>
   simp only[cond_false]
   constructor
   ·exact fun h=>.inr h
   ·rintro (⟨rfl,h1,h2⟩ | h)
    ·simp[h1,h2] at hb
    ·exact h
def Told (ops:Array Oper) (listed:Array Bool) (done:Nat):Prop:=listed.size=ops.size/\∀j,listed.getD j false=bit done j
theorem wB (ops:Array Oper):Told ops (Array.replicate ops.size false) 0:=by
 refine⟨by simp,fun j=>?_⟩
 rw[dP]
 simp only[Nat.zero_testBit,Array.getD_eq_getD_getElem?,Array.getElem?_replicate]
 split<;>rfl
theorem Told.set {listed:Array Bool} {done i:Nat} (h:Told ops listed done) (hi:i<ops.size):Told ops (listed.setIfInBounds i true) (Nat.lor done (Nat.shiftLeft 1 i)):=by
 refine⟨by simp[h.1],fun j=>?_⟩
 rw[dP,oc,jf,<-dP,<-h.2 j]
 by_cases hij:i=j
 ·subst hij
  simp[h.1,hi]
 ·rw[getD_set_ne false hij]
  simp[hij]
theorem Told.nK {listed:Array Bool} {done j:Nat} (h:Told ops listed done):listed.getD j true=false ↔ j<ops.size/\bit done j=false:=by
 rw[<-h.2 j]
 constructor
 ·intro hj
  rcases Nat.lt_or_ge j listed.size with h' | h'
  ·rw[h.1] at h'
   refine⟨h',?_⟩
   simp[h.1,h'] at hj ⊢
   exact hj
  ·simp[Array.getElem?_eq_none h'] at hj
 ·rintro ⟨h1,h2⟩
  have h':j<listed.size:=by rw[h.1];exact h1
  simp[h'] at h2 ⊢
  exact h2
theorem Told.ready {listed:Array Bool} {done j:Nat} (h:Told ops listed done):j∈Region.ready .any ops listed ↔ j∈gp done 0 ops.toList:=by
 rw[mem_ready,kX,h.nK]
 simp only[Nat.zero_le,true_and,Nat.sub_zero,Array.getElem?_toList]
 constructor
 ·rintro ⟨⟨h1,h2⟩,o,ho,hall⟩
  refine⟨o,ho,h2,lA.2 fun k hk=>?_⟩
  obtain⟨e,he,hb,rfl⟩:=(ck _ _).1 hk
  rw[<-dP,<-h.2]
  exact hall e (by simpa using he) hb
 ·rintro ⟨o,ho,h2,hw⟩
  refine⟨⟨(Array.getElem?_eq_some_iff.1 ho).1,h2⟩,o,ho,fun e he hb=>?_⟩
  rw[h.2,dP]
  exact lA.1 hw _ ((ck _ _).2 ⟨e,by simpa using he,hb,rfl⟩)
end
end Go.AE
