/- Regions. -/
import Derived.Test.YtmkgiaecgkicoaaGreatAeOps
import Derived.Test.YtmkgiaecgkicoaaGreatAeSim
section
namespace Go.AE
open Go Go.RowKit
section
variable {P:Program} {C:Ctx} {g:Gl} {N:Nat} {s:St} {a:Act} {w:World} {φ:Names}
theorem Cv {α:Type}:∀(l:List α) (i:Nat),pq l i=l[i]?
 | [],i=>by simp[pq]
 | x::l,0=>by simp[pq]
 | x::l,i+1=>by simp[pq,Cv l i]
theorem uX (ops:Array Oper) (j:Nat):DV ops.toList j=(ops[j]?).bind (·.dst):=by
 unfold DV
 rw[Cv]
 cases h:ops[j]? with
 | none=>rw[show ops.toList[j]? = none by simpa using h];rfl
 | some o=>rw[show ops.toList[j]? = some o by simpa using h];rfl
theorem sH (h:Sim g N s a w φ) {d:Nat} {b:Bool} (hs:slot s.env d=.data .bool b):a.tmps[d]? = some (.bool b):=by
 have:=h.slot d
 rw[hs] at this
 have:=pH this
 simp only[Array.getD_eq_getD_getElem?] at this
 cases hq:a.tmps[d]? with
 | none=>rw[hq] at this;simp[undef] at this
 | some v=>rw[hq] at this;simp at this;rw[this]
theorem Iu (a:Act) (d:Nat) (v:Value) (h:a.tmps[d]? = some v):a.put (some d) v=a:=by
 obtain⟨tmps,defers⟩:=a
 simp only[Act.put]
 congr 1
 apply Array.ext
 ·simp
 ·intro i h1 h2
  by_cases hi:d=i
  ·subst hi
   simp only[Array.getElem_setIfInBounds_self]
   have:=Array.getElem?_eq_some_iff.1 h
   exact this.2.symm
  ·rw[Array.getElem_setIfInBounds_ne _ hi]
theorem mK (h:Sim g N s a w φ) {d:Nat} {b:Bool} (hs:slot s.env d=.data .bool b):Sim g N (s.put N (some d) (.data .bool b)) a w φ:=by
 have:=h.put (some d) (v:=.data .bool b) (u:=.bool b) (eg ..)
 rwa [Iu a d (.bool b) (sH h hs)] at this
theorem mI (w:World) (I S:Nat->Prop) (φ:Names) (hp:Hp):ak w I S φ hp (.cst (.tuple #[])) undef:=by simp[ak,undef]
theorem tP (h:Sim g N s a w φ) {d:Nat} {x:Array Value} (hs:slot s.env d=.cst (.tuple x)) {ops:Array Oper} {j:Nat} (hdst:(ops[j]?).bind (·.dst)=some d):yielded ops a.tmps j=none:=by
 have:=h.slot d
 rw[hs] at this
 simp only[ak] at this
 unfold yielded
 rw[hdst]
 simp only[Option.bind_some]
 simp only[Array.getD_eq_getD_getElem?] at this
 cases hq:a.tmps[d]? with
 | none=>rfl
 | some v=>rw[hq] at this;simp at this;rw[this]
theorem CX {n:Nat} (h:Nat.beq n base=false):n≠base:=fun e=>by rw[e,Nat.beq_refl] at h;cases h
theorem Gf (hT:TabOk P C) (hC:eL P C) (hN:C.n=N) {ops:Array Oper} {Q:Exit->Act->World->Prop}:∀(l:List Oper) (i:Nat) (K:St->Prop) {s:St} {a:Act} {w:World} {φ:Names},
  (∀a' w' s' φ',K s'->Sim g N s' a' w' φ'->Q .normal a' w')->ops.toList.drop i=l->Sim g N s a w φ->Er C ops.toList l s K->wpOps P ops Q (List.range' i l.length) a w
 | [],i,K,s,a,w,φ,hQ,_,h,hr=>hQ a w s φ hr h
 | o::l,i,K,s,a,w,φ,hQ,hd,h,hr=>by
  have hi:ops[i]? = some o:=by
   have:(ops.toList.drop i)[0]? = some o:=by rw[hd];rfl
   rw[List.getElem?_drop] at this
   simpa using this
  have hd':ops.toList.drop (i+1)=l:=by
   rw[<-List.drop_drop,hd]
   rfl
  simp only[List.length_cons,List.range'_succ,wpOps,hi]
  have ih:=fun s' a' w' φ'=>Gf hT hC hN l (i+1) K (s:=s') (a:=a') (w:=w') (φ:=φ') hQ hd'
  unfold Er at hr
  cases hb:Nat.beq (Nat.add (o.dst.getD 0) C.off) base with
  | true=>rw[hb] at hr;exact hr.elim
  | false=>
  simp only[hb,cond_false] at hr
  have hdn:=CX hb
  split at hr
  ·rename_i hg
   have hw:Region.wanted o (yielded ops a.tmps)=true:=by simp[Region.wanted,hg]
   rw[if_pos hw]
   refine .inl (HY hT hC h hdn hr fun u w' v s' φ' hk hs hv _=>?_)
   have:=hs.put o.dst hv
   rw[hN] at hk
   exact ih _ _ _ _ this hk
  ·rename_i j want hg
   split at hr
   ·rename_i d hdst
    rw[uX] at hdst
    split at hr
    ·rename_i b hs
     have ht:=sH h hs
     have hy:yielded ops a.tmps j=some b:=by
      unfold yielded
      rw[hdst]
      simp[ht]
     cases hbw:(b==want) with
     | true=>
      rw[hbw] at hr
      have hbe:b=want:=by simpa using hbw
      subst hbe
      have hw:Region.wanted o (yielded ops a.tmps)=true:=by simp[Region.wanted,hg,hy]
      rw[if_pos hw]
      rw[hN,cond_true] at hr
      refine .inl (HY hT hC (mK h hs) hdn hr fun u w' v s' φ' hk hs hv _=>?_)
      exact ih _ _ _ _ (hs.put o.dst hv) hk
     | false=>
      rw[hbw] at hr
      have hbe:b=!want:=by
       clear hr
       revert hbw
       cases b<;>cases want<;>decide
      have hw:¬Region.wanted o (yielded ops a.tmps)=true:=by
       intro hw
       simp only[Region.wanted,hg,hy] at hw
       have:b=want:=by simpa using hw
       rw[this] at hbw
       simp at hbw
      rw[if_neg hw]
      rw[hN] at hr
      refine ih _ _ _ _ ((mK h (by rw[hs,hbe])).put o.dst (v:=.cst (.tuple #[])) (u:=undef) (mI ..)) hr
    ·rename_i x hs
     have hy:=tP h hs hdst
     have hw:¬Region.wanted o (yielded ops a.tmps)=true:=by
      simp[Region.wanted,hg,hy]
     rw[if_neg hw]
     rw[hN] at hr
     exact ih _ _ _ _ (h.put o.dst (v:=.cst (.tuple #[])) (u:=undef) (mI ..)) hr
    ·exact hr.elim
   ·exact hr.elim
theorem Hy (hT:TabOk P C) (hC:eL P C) (hN:C.n=N) {ops:Array Oper} {Q:Exit->Act->World->Prop} {id:Nat} {K:St->Prop}
  (hQ:∀a' w' s' φ',K s'->Sim g N s' a' w' φ'->Q .normal a' w') (h:Sim g N s a w φ) (hr:Er C ops.toList ops.toList s K):(Code.region id ops false).wp P Q a w:=by
 refine wp_region ?_
 have:=Gf (Q:=Q) hT hC hN ops.toList 0 K hQ rfl h hr
 rwa [<-List.range_eq_range',Array.length_toList] at this
end
end Go.AE
end
section
namespace Go.AE
open Go Go.RowKit
section
variable {P:Program} {ops:Array Oper} {Q:Exit->Act->World->Prop} {md:Region.Mode} {nw:Nat->Bool} {Fz:Nat->Prop}
def Ev (nw:Nat->Bool) (Fz:Nat->Prop) (i:Nat) (w w':World):Prop:=(nw i=true->Turn w w' none)/\∀b,Fz b->w'.heap[b]? = w.heap[b]?
theorem Ev.refl {i:Nat} {w:World}:Ev nw Fz i w w:=⟨fun _=>Turn.refl _ _,fun _ _=>rfl⟩
def lZ (P:Program) (md:Region.Mode) (ops:Array Oper) (Q:Exit->Act->World->Prop) (nw:Nat->Bool) (Fz:Nat->Prop):Nat->Array Bool->Act->World->Prop
 | 0,listed,a,w=>Region.ready md ops listed=[]/\Q .normal a w
 | fuel+1,listed,a,w=>
  (Region.ready md ops listed=[]->Q .normal a w) ∧
  ∀i∈Region.ready md ops listed,wpOp P ops Q i (fun a' w'=>Ev nw Fz i w w'/\lZ P md ops Q nw Fz fuel (listed.setIfInBounds i true) a' w') a w
theorem Ap:∀(fuel:Nat) (listed:Array Bool) (a:Act) (w:World),lZ P md ops Q nw Fz fuel listed a w->wpAny P md ops Q fuel listed a w
 | 0,_,_,_,h=>h
 | fuel+1,_,_,_,h=>⟨h.1,fun i hi=>wpOp_mono (fun a' w' h'=>Ap fuel _ a' w' h'.2) (h.2 i hi)⟩
theorem Turn.trans {w w' w'':World} (h:Turn w w' none) (k:Turn w' w'' none):Turn w w'' none:=
 ⟨k.os.trans h.os,k.tape.trans h.tape,k.output.trans h.output,Nat.le_trans h.size k.size,fun b hb _=>(k.block b (Nat.lt_of_lt_of_le hb h.size) (by simp)).trans (h.block b hb (by simp))⟩
theorem Cj {i:Nat} {oi:Oper} {v:Value} (hi:ops[i]? = some oi) (hsel:∀(j:Nat) (o:Oper) cs b,ops[j]? = some o->o.op≠.select cs b)
  (hQ:∀c a w,Q (.panic c) (a.put oi.dst v) w->Q (.panic c) a w) {w0:World} {Blk:Nat->Prop}
  (hB:∀b,Blk b->∃o,ops[b]? = some o/\∃e∈o.after,Region.binds md e=true/\(e.on=i\/Blk e.on)) :
  ∀(fuel:Nat) (listed:Array Bool) (a:Act) (w:World),
   (∀j oj,ops[j]? = some oj->j≠i->listed.getD j true=false->(∀e∈oj.after,Region.binds md e=true->e.on≠i)->oi.apart ops oj=true) →
   i∈Region.ready md ops listed->YieldsIf P ops (fun w'=>Turn w0 w' none) oi v a->Turn w0 w none →
   (∀b,Blk b->listed.getD b false=false)->(∀j,j∈Region.ready md ops listed->j≠i->nw j=false->Blk j)->(∀j o,ops[j]? = some o->listed.getD j true=false->j≠i->nw j=false->Blk j) →
   lZ P md ops Q nw Fz fuel (listed.setIfInBounds i true) (a.put oi.dst v) w->lZ P md ops Q nw Fz (fuel+1) listed a w:=by
 intro fuel
 induction fuel with
 | zero=>
  intro listed a w _ hr hy hS _ _ _ H
  refine⟨fun h=>(by rw[h] at hr;cases hr),fun j hj=>?_⟩
  by_cases hji:j=i
  ·subst hji;exact hy.wpOp hi hS ⟨Ev.refl,H⟩
  ·have:=ready_mono hj hji
   rw[H.1] at this
   cases this
 | succ fuel ih=>
  intro listed a w hfree hr hy hS hbl hbr hbw H
  refine⟨fun h=>(by rw[h] at hr;cases hr),fun j hj=>?_⟩
  by_cases hji:j=i
  ·subst hji;exact hy.wpOp hi hS ⟨Ev.refl,H⟩
  ·have h1:=H.2 j (ready_mono hj hji)
   obtain⟨hjun,oj,hoj,hall⟩:=mem_ready.1 hj
   have hiun:listed.getD i false=false:=by
    have h0:=(mem_ready.1 hr).1
    rcases Nat.lt_or_ge i listed.size with h' | h'
    ·simp[h'] at h0 ⊢;exact h0
    ·simp[Array.getElem?_eq_none h'] at h0
   have hnb:¬Blk j:=by
    intro hb
    obtain⟨o,ho,e,he,hbd,hq⟩:=hB j hb
    rw[hoj] at ho
    cases ho
    have h2:=hall e he hbd
    rcases hq with hq | hq
    ·rw[hq,hiun] at h2;cases h2
    ·rw[hbl _ hq] at h2;cases h2
   have hnw:nw j=true:=by
    cases hq:nw j with
    | true=>rfl
    | false=>exact absurd (hbr j hj hji hq) hnb
   have hnot:∀e∈oj.after,Region.binds md e=true->e.on≠i:=fun e he hb heq=>by
    have h2:=hall e he hb
    rw[heq,hiun] at h2
    cases h2
   have h2:=wpOp_putIf hoj (hfree j oj hoj hji hjun hnot) (fun cs b=>hsel i oi cs b hi) (fun cs b=>hsel j oj cs b hoj) hQ hy h1
   have hfree':∀k ok,ops[k]? = some ok->k≠i->(listed.setIfInBounds j true).getD k true=false →
     (∀e∈ok.after,Region.binds md e=true->e.on≠i)->oi.apart ops ok=true:=fun k ok hk hki hun hno=>by
    refine hfree k ok hk hki ?_ hno
    by_cases hjk:j=k
    ·subst hjk;exact hjun
    ·rw[getD_set_ne true hjk] at hun;exact hun
   have hbl':∀b,Blk b->(listed.setIfInBounds j true).getD b false=false:=by
    intro b hb
    by_cases hjb:j=b
    ·subst hjb;exact absurd hb hnb
    ·rw[getD_set_ne false hjb];exact hbl b hb
   have hbw':∀k o,ops[k]? = some o->(listed.setIfInBounds j true).getD k true=false->k≠i->nw k=false->Blk k:=by
    intro k o hk hun hki hq
    refine hbw k o hk ?_ hki hq
    by_cases hjk:j=k
    ·subst hjk;exact hjun
    ·rw[getD_set_ne true hjk] at hun;exact hun
   have hbr':∀k,k∈Region.ready md ops (listed.setIfInBounds j true)->k≠i->nw k=false->Blk k:=by
    intro k hk hki hq
    obtain⟨h3,o,ho,_⟩:=mem_ready.1 hk
    exact hbw' k o ho h3 hki hq
   refine wpOp_mono (fun a' w' h3=>⟨h3.2.1,ih (listed.setIfInBounds j true) a' w' hfree' (ready_mono hr (Ne.symm hji)) h3.1 (hS.trans (h3.2.1.1 hnw)) hbl' hbr' hbw' ?_⟩) h2
   rw[Array.setIfInBounds_comm _ _ hji]
   exact h3.2.2
theorem AO {i:Nat} {oi:Oper} {v:Value} (hi:ops[i]? = some oi) (hsel:∀(j:Nat) (o:Oper) cs b,ops[j]? = some o->o.op≠.select cs b)
  (hQ:∀c a w,Q (.panic c) (a.put oi.dst v) w->Q (.panic c) a w) :
  ∀(fuel:Nat) (listed:Array Bool) (a:Act) (w:World),
   (∀j oj,ops[j]? = some oj->j≠i->listed.getD j true=false->(∀e∈oj.after,Region.binds md e=true->e.on≠i)->oi.apart ops oj=true) →
   i∈Region.ready md ops listed->YieldsIf P ops (fun _=>True) oi v a →
   lZ P md ops Q nw Fz fuel (listed.setIfInBounds i true) (a.put oi.dst v) w->lZ P md ops Q nw Fz (fuel+1) listed a w:=by
 intro fuel
 induction fuel with
 | zero=>
  intro listed a w _ hr hy H
  refine⟨fun h=>(by rw[h] at hr;cases hr),fun j hj=>?_⟩
  by_cases hji:j=i
  ·subst hji;exact hy.wpOp hi trivial ⟨Ev.refl,H⟩
  ·have:=ready_mono hj hji
   rw[H.1] at this
   cases this
 | succ fuel ih=>
  intro listed a w hfree hr hy H
  refine⟨fun h=>(by rw[h] at hr;cases hr),fun j hj=>?_⟩
  by_cases hji:j=i
  ·subst hji;exact hy.wpOp hi trivial ⟨Ev.refl,H⟩
  ·have h1:=H.2 j (ready_mono hj hji)
   obtain⟨hjun,oj,hoj,hall⟩:=mem_ready.1 hj
   have hiun:listed.getD i false=false:=by
    have h0:=(mem_ready.1 hr).1
    rcases Nat.lt_or_ge i listed.size with h' | h'
    ·simp[h'] at h0 ⊢;exact h0
    ·simp[Array.getElem?_eq_none h'] at h0
   have hnot:∀e∈oj.after,Region.binds md e=true->e.on≠i:=fun e he hb heq=>by
    have h2:=hall e he hb
    rw[heq,hiun] at h2
    cases h2
   have h2:=wpOp_putIf hoj (hfree j oj hoj hji hjun hnot) (fun cs b=>hsel i oi cs b hi) (fun cs b=>hsel j oj cs b hoj) hQ hy h1
   have hfree':∀k ok,ops[k]? = some ok->k≠i->(listed.setIfInBounds j true).getD k true=false →
     (∀e∈ok.after,Region.binds md e=true->e.on≠i)->oi.apart ops ok=true:=fun k ok hk hki hun hno=>by
    refine hfree k ok hk hki ?_ hno
    by_cases hjk:j=k
    ·subst hjk;exact hjun
    ·rw[getD_set_ne true hjk] at hun;exact hun
   refine wpOp_mono (fun a' w' h3=>⟨h3.2.1,ih (listed.setIfInBounds j true) a' w' hfree' (ready_mono hr (Ne.symm hji)) h3.1 ?_⟩) h2
   rw[Array.setIfInBounds_comm _ _ hji]
   exact h3.2.2
theorem Bb {i:Nat} {oi:Oper} {v:Value} (hi:ops[i]? = some oi) (hsel:∀(j:Nat) (o:Oper) cs b,ops[j]? = some o->o.op≠.select cs b)
  (hQ:∀c a w,Q (.panic c) (a.put oi.dst v) w->Q (.panic c) a w) {w0:World} {bl:Nat} (hF:Fz bl) :
  ∀(fuel:Nat) (listed:Array Bool) (a:Act) (w:World),
   (∀j oj,ops[j]? = some oj->j≠i->listed.getD j true=false->(∀e∈oj.after,Region.binds md e=true->e.on≠i)->oi.apart ops oj=true) →
   i∈Region.ready md ops listed->YieldsIf P ops (fun w'=>w'.heap[bl]? = w0.heap[bl]?) oi v a->w.heap[bl]? = w0.heap[bl]? →
   lZ P md ops Q nw Fz fuel (listed.setIfInBounds i true) (a.put oi.dst v) w->lZ P md ops Q nw Fz (fuel+1) listed a w:=by
 intro fuel
 induction fuel with
 | zero=>
  intro listed a w _ hr hy hS H
  refine⟨fun h=>(by rw[h] at hr;cases hr),fun j hj=>?_⟩
  by_cases hji:j=i
  ·subst hji;exact hy.wpOp hi hS ⟨Ev.refl,H⟩
  ·have:=ready_mono hj hji
   rw[H.1] at this
   cases this
 | succ fuel ih=>
  intro listed a w hfree hr hy hS H
  refine⟨fun h=>(by rw[h] at hr;cases hr),fun j hj=>?_⟩
  by_cases hji:j=i
  ·subst hji;exact hy.wpOp hi hS ⟨Ev.refl,H⟩
  ·have h1:=H.2 j (ready_mono hj hji)
   obtain⟨hjun,oj,hoj,hall⟩:=mem_ready.1 hj
   have hiun:listed.getD i false=false:=by
    have h0:=(mem_ready.1 hr).1
    rcases Nat.lt_or_ge i listed.size with h' | h'
    ·simp[h'] at h0 ⊢;exact h0
    ·simp[Array.getElem?_eq_none h'] at h0
   have hnot:∀e∈oj.after,Region.binds md e=true->e.on≠i:=fun e he hb heq=>by
    have h2:=hall e he hb
    rw[heq,hiun] at h2
    cases h2
   have h2:=wpOp_putIf hoj (hfree j oj hoj hji hjun hnot) (fun cs b=>hsel i oi cs b hi) (fun cs b=>hsel j oj cs b hoj) hQ hy h1
   have hfree':∀k ok,ops[k]? = some ok->k≠i->(listed.setIfInBounds j true).getD k true=false →
     (∀e∈ok.after,Region.binds md e=true->e.on≠i)->oi.apart ops ok=true:=fun k ok hk hki hun hno=>by
    refine hfree k ok hk hki ?_ hno
    by_cases hjk:j=k
    ·subst hjk;exact hjun
    ·rw[getD_set_ne true hjk] at hun;exact hun
   refine wpOp_mono (fun a' w' h3=>⟨h3.2.1,ih (listed.setIfInBounds j true) a' w' hfree' (ready_mono hr (Ne.symm hji)) h3.1 ((h3.2.1.2 _ hF).trans hS) ?_⟩) h2
   rw[Array.setIfInBounds_comm _ _ hji]
   exact h3.2.2
theorem xA {Fz':Nat->Prop} (hF:∀b,Fz b->Fz' b):∀(fuel:Nat) (listed:Array Bool) (a:Act) (w:World),lZ P md ops Q nw Fz' fuel listed a w->lZ P md ops Q nw Fz fuel listed a w
 | 0,_,_,_,h=>h
 | fuel+1,_,_,_,h=>⟨h.1,fun i hi=>wpOp_mono (fun a' w' h'=>⟨⟨h'.1.1,fun b hb=>h'.1.2 b (hF b hb)⟩,xA hF fuel _ a' w' h'.2⟩) (h.2 i hi)⟩
theorem DD {id:Nat} {a:Act} {w:World} (hm:P.follows .mixedOrders=true)
  (h:lZ P .any ops Q nw Fz ops.size (Array.replicate ops.size false) a { w with drawn:=w.drawn+1 }):(Code.region id ops true).wp P Q a w:=
 wp_region_any hm (Ap _ _ _ _ h)
theorem gL (m j:Nat):bit m j=m.testBit j:=by
 unfold bit Nat.testBit
 have:(m.shiftRight j).land 1=(m >>> j) &&& 1:=rfl
 rw[this,Nat.and_comm]
 have h:=Nat.and_one_is_mod (m >>> j)
 rw[Nat.and_comm] at h
 rw[h]
 rcases Nat.mod_two_eq_zero_or_one (m >>> j) with h | h<;>rw[h]<;>rfl
theorem rz {m n:Nat}:within m n=true ↔ ∀j,m.testBit j=true->n.testBit j=true:=by
 unfold within
 rw[Nat.beq_eq]
 have e:m.land n=m &&& n:=rfl
 rw[e]
 constructor
 ·intro h j hj
  have:=congrArg (·.testBit j) h
  simp only[Nat.testBit_and,hj,Bool.true_and] at this
  exact this
 ·intro h
  apply Nat.eq_of_testBit_eq
  intro j
  rw[Nat.testBit_and]
  cases hj:m.testBit j with
  | true=>simp[h j hj]
  | false=>simp
theorem nW (k j:Nat):(Nat.shiftLeft 1 k).testBit j=decide (k=j):=by
 have e:Nat.shiftLeft 1 k=1 <<< k:=rfl
 rw[e,Nat.one_shiftLeft,Nat.testBit_two_pow]
theorem uJ (m n j:Nat):(Nat.lor m n).testBit j=(m.testBit j||n.testBit j):=Nat.testBit_or m n j
theorem eH:∀(l:List Edge) (j:Nat),(cM l).testBit j=true ↔ ∃e∈l,Region.binds .any e=true/\e.on=j
 | [],j=>by simp[cM]
 | e::l,j=>by
  unfold cM
  cases hb:Region.binds .any e with
  | true=>
   simp only[cond_true,uJ,nW,Bool.or_eq_true,decide_eq_true_eq,eH l j,List.mem_cons,exists_eq_or_imp,hb,true_and]
  | false=>simp[hb,eH l j]
theorem si (done:Nat):∀(l:List Oper) (j k:Nat),k∈kF done j l ↔ ∃o,j<=k/\l[k-j]? = some o/\bit done k=false/\within (cM o.after.toList) done=true
 | [],j,k=>by simp[kF]
 | o::l,j,k=>by
  have ih:=si done l (j+1) k
  have key:(∃o',j<=k/\(o::l)[k-j]? = some o'/\bit done k=false/\within (cM o'.after.toList) done=true) ↔
    ((k=j/\bit done k=false/\within (cM o.after.toList) done=true)\/∃o',j+1<=k/\l[k-(j+1)]? = some o'/\bit done k=false/\within (cM o'.after.toList) done=true):=by
   constructor
   ·rintro ⟨o',h1,h2,h3,h4⟩
    by_cases hk:k=j
    ·subst hk
     simp at h2
     subst h2
     exact .inl ⟨rfl,h3,h4⟩
    ·right
     refine⟨o',by omega,?_,h3,h4⟩
     have:k-j=(k-(j+1))+1:=by omega
     rw[this] at h2
     simpa using h2
   ·rintro (⟨rfl,h3,h4⟩ | ⟨o',h1,h2,h3,h4⟩)
    ·exact⟨o,Nat.le_refl _,by simp,h3,h4⟩
    ·refine⟨o',by omega,?_,h3,h4⟩
     have:k-j=(k-(j+1))+1:=by omega
     rw[this]
     simpa using h2
  rw[key,<-ih]
  rw[show kF done j (o::l)=(bif !bit done j&&within (cM o.after.toList) done then j::kF done (j+1) l else kF done (j+1) l) from rfl]
  cases hb:(!bit done j&&within (cM o.after.toList) done) with
  | true=>
   obtain⟨h1,h2⟩:=Bool.and_eq_true_iff.1 hb
   have h1:bit done j=false:=by simpa using h1
   simp only[cond_true,List.mem_cons]
   constructor
   ·rintro (rfl | h)
    ·exact .inl ⟨rfl,h1,h2⟩
    ·exact .inr h
   ·rintro (⟨rfl,_⟩ | h)
    ·exact .inl rfl
    ·exact .inr h
  | false=>
   simp only[cond_false]
   constructor
   ·exact fun h=>.inr h
   ·rintro (⟨rfl,h1,h2⟩ | h)
    ·simp[h1,h2] at hb
    ·exact h
def Told (ops:Array Oper) (listed:Array Bool) (done:Nat):Prop:=listed.size=ops.size/\∀j,listed.getD j false=bit done j
theorem Fb (ops:Array Oper):Told ops (Array.replicate ops.size false) 0:=by
 refine⟨by simp,fun j=>?_⟩
 rw[gL]
 simp only[Nat.zero_testBit,Array.getD_eq_getD_getElem?,Array.getElem?_replicate]
 split<;>rfl
theorem Told.set {listed:Array Bool} {done i:Nat} (h:Told ops listed done) (hi:i<ops.size):Told ops (listed.setIfInBounds i true) (Nat.lor done (Nat.shiftLeft 1 i)):=by
 refine⟨by simp[h.1],fun j=>?_⟩
 rw[gL,uJ,nW,<-gL,<-h.2 j]
 by_cases hij:i=j
 ·subst hij
  simp[h.1,hi]
 ·rw[getD_set_ne false hij]
  simp[hij]
theorem Told.uB {listed:Array Bool} {done j:Nat} (h:Told ops listed done):listed.getD j true=false ↔ j<ops.size/\bit done j=false:=by
 rw[<-h.2 j]
 constructor
 ·intro hj
  rcases Nat.lt_or_ge j listed.size with h' | h'
  ·rw[h.1] at h'
   refine⟨h',?_⟩
   simp[h.1,h'] at hj ⊢
   exact hj
  ·simp[Array.getElem?_eq_none h'] at hj
 ·rintro ⟨h1,h2⟩
  have h':j<listed.size:=by rw[h.1];exact h1
  simp[h'] at h2 ⊢
  exact h2
theorem Told.ready {listed:Array Bool} {done j:Nat} (h:Told ops listed done):j∈Region.ready .any ops listed ↔ j∈kF done 0 ops.toList:=by
 rw[mem_ready,si,h.uB]
 simp only[Nat.zero_le,true_and,Nat.sub_zero,Array.getElem?_toList]
 constructor
 ·rintro ⟨⟨h1,h2⟩,o,ho,hall⟩
  refine⟨o,ho,h2,rz.2 fun k hk=>?_⟩
  obtain⟨e,he,hb,rfl⟩:=(eH _ _).1 hk
  rw[<-gL,<-h.2]
  exact hall e (by simpa using he) hb
 ·rintro ⟨o,ho,h2,hw⟩
  refine⟨⟨(Array.getElem?_eq_some_iff.1 ho).1,h2⟩,o,ho,fun e he hb=>?_⟩
  rw[h.2,gL]
  exact rz.1 hw _ ((eH _ _).2 ⟨e,by simpa using he,hb,rfl⟩)
end
end Go.AE
end
section
namespace Go.AE
open Go Go.RowKit
section
variable {g:Gl} {N:Nat} {s s':St} {a a':Act} {w w':World} {φ φ':Names}
def yT (φ:Names) (hp:Hp) (b:Nat):Prop:=∃id blk,lookup hp id=some blk/\φ.eI id b
def nR (g:Gl) (s:St) (w:World):Option Nat:=match lookup s.hp base with
 | some _=>g.pin
 | none=>some w.heap.size
theorem Sim.Ak (h:Sim g N s a w φ) {b:Nat} (ho:yT φ s.hp b) (hb:b<g.w0.heap.size):g.io b:=by
 obtain⟨id,blk,hl,ho⟩:=ho
 rcases(h.place id blk b hl ho).2 with q | q
 ·rcases g.oe q with r | r
  ·omega
  ·exact r
 ·exact q.1
def lU (h:Sim g N s a w φ):Gl where
 w0:=w
 ok:=fun b=>(g.ok b\/g.w0.heap.size<=b)/\b<w.heap.size
 io:=yT φ s.hp
 okLt:=fun _ hb=>hb.2
 gh:=g.gh
 pin:=nR g s w
 mv:=fun b=>g.mine b/\yT φ s.hp b
 mvOk:=fun b hb=>by
  obtain⟨hm,ho⟩:=hb
  have hlt:b<w.heap.size:=by
   obtain⟨id,blk,hl,ho⟩:=ho
   exact(h.place id blk b hl ho).1
  refine⟨ho,⟨g.lH hm,hlt⟩,fun e=>?_⟩
  unfold nR at e
  cases hbs:lookup s.hp base with
  | none=>
   rw[hbs] at e
   cases e
   omega
  | some blk=>
   rw[hbs] at e
   exact g.Eh hm ((h.pinned blk hbs).2 b e).1 e
 st:=aM g
 stOk:=fun b hb=>⟨h.mu hb,fun ho=>(g.stOk b hb).2 (h.Ak ho (g.stOk b hb).1)⟩
theorem Sim.here (h:Sim g N s a w φ):Sim (lU h) N s a w φ:=by
 have L:Later w w (imm g φ s.hp w.heap.size) (imm (lU h) φ s.hp w.heap.size) (aM g) (aM (lU h)) φ φ s.hp s.hp:=
  ⟨fun b ⟨h1,h2,h3⟩=>⟨.inl ⟨h1,h2⟩,h2,h3⟩,fun _ _ _=>rfl,fun _ h=>h,fun _ _ _=>rfl,fun i blk' hi=>⟨blk',hi,rfl,fun d t xs e=>⟨d,xs,e,rfl⟩,fun _ _ _=>rfl⟩⟩
 refine⟨h.defers,h.size,rfl,rfl,rfl,Nat.le_refl _,fun _ _ _=>rfl,h.inj,h.apart,?_,?_,?_,?_⟩
 ·intro i blk b hi ho
  obtain⟨p1,p2⟩:=h.place i blk b hi ho
  exact⟨p1,p2.elim (fun m=>.inl (.inr ⟨m,i,blk,hi,ho⟩)) (fun q=>.inr ⟨⟨i,blk,hi,ho⟩,q.2⟩)⟩
 ·intro i blk hi
  exact(h.blocks i blk hi).later L (fun _ _=>rfl) (fun _ _=>rfl)
 ·intro j av hj
  exact ak.later L av _ (h.env j av hj)
 ·intro blk hb
  obtain⟨p1,p2⟩:=h.pinned blk hb
  have e:(lU h).pin=g.pin:=by
   show nR g s w=g.pin
   unfold nR
   rw[hb]
  rw[e]
  exact⟨p1,fun b hpb=>⟨Nat.lt_of_lt_of_le (p2 b hpb).1 h.hsize,fun cur _ hg=>⟨cur,hg,rfl⟩⟩⟩
theorem Sim.back (h:Sim g N s a w φ) (k:Sim (lU h) N s' a' w' φ'):Sim g N s' a' w' φ':=by
 have L:Later w' w' (imm (lU h) φ' s'.hp w'.heap.size) (imm g φ' s'.hp w'.heap.size) (aM (lU h)) (aM g) φ' φ' s'.hp s'.hp:=
  ⟨fun b ⟨h1,h2,h3⟩=>⟨h1.elim (fun q=>q.1) (fun q=>.inr (Nat.le_trans h.hsize q)),h2,h3⟩,fun _ _ _=>rfl,fun _ h=>h,fun _ _ _=>rfl,fun i blk' hi=>⟨blk',hi,rfl,fun d t xs e=>⟨d,xs,e,rfl⟩,fun _ _ _=>rfl⟩⟩
 refine⟨k.defers,k.size,k.os.trans h.os,k.tape.trans h.tape,k.output.trans h.output,Nat.le_trans h.hsize k.hsize,?_,k.inj,k.apart,?_,?_,?_,?_⟩
 ·intro b hb hio
  exact(k.frame b (Nat.lt_of_lt_of_le hb h.hsize) (fun ho=>hio (h.Ak ho hb))).trans (h.frame b hb hio)
 ·intro i blk b hi ho
  obtain⟨p1,p2⟩:=k.place i blk b hi ho
  refine⟨p1,?_⟩
  rcases p2 with(q | q) | ⟨⟨id,blk0,hl,ho'⟩,q⟩
  ·exact .inl (.inl (Nat.le_trans h.hsize q))
  ·exact .inl q.1
  ·rcases(h.place id blk0 b hl ho').2 with r | r
   ·exact .inl r
   ·exact .inr ⟨r.1,q⟩
 ·intro i blk hi
  exact(k.blocks i blk hi).later L (fun _ _=>rfl) (fun _ _=>rfl)
 ·intro j av hj
  exact ak.later L av _ (k.env j av hj)
 ·intro blk hb
  obtain⟨p1,p2⟩:=k.pinned blk hb
  cases hbs:lookup s.hp base with
  | none=>
   have e:(lU h).pin=some w.heap.size:=by
    show nR g s w=_
    unfold nR
    rw[hbs]
   exact absurd (p2 _ e).1 (Nat.lt_irrefl _)
  | some blk0=>
   have e:(lU h).pin=g.pin:=by
    show nR g s w=g.pin
    unfold nR
    rw[hbs]
   rw[e] at p1 p2
   refine⟨p1,fun b hpb=>?_⟩
   obtain⟨q1,q2⟩:=(h.pinned blk0 hbs).2 b hpb
   refine⟨q1,fun cur e' hg=>?_⟩
   obtain⟨cur1,r1,r2⟩:=q2 cur e' hg
   obtain⟨cur2,t1,t2⟩:=(p2 b hpb).2 cur1 e' r1
   exact⟨cur2,t1,t2.trans r2⟩
end
end Go.AE
end
