/- Regions whose operations may be done in several orders: the abstract steps are enough. -/
import Derived.Test.YtmkgiaecgkicoaaGreatAeReg
import Derived.Test.YtmkgiaecgkicoaaGreatAeReg
namespace Go.AE
open Go Go.RowKit
section
variable {P:Program} {C:Ctx} {g:Gl} {N:Nat} {s:St} {a:Act} {w:World} {φ:Names} {ops:Array Oper} {Q:Exit->Act->World->Prop}
theorem BW (i:Nat):∀l:List Nat,jJ i l=true ↔ i∈l
 | []=>by simp[jJ]
 | j::l=>by
  unfold jJ
  rcases aZ i j with⟨e,hb⟩ | ⟨e,hb⟩
  ·simp[hb,e]
  ·simp[hb,e,BW i l]
theorem qC (d:Nat):∀l:List Operand,d∈tmpsOf l ↔ Operand.tmp d∈l
 | []=>by simp[tmpsOf]
 | x::l=>by
  cases x<;>simp[tmpsOf,qC d l]
theorem Dj (o:Oper) (d:Nat):d∈o.looksAt ops ↔ Operand.tmp d∈o.op.operands.toList\/∃j b,o.guard=some (j,b)/\(ops[j]?).bind (·.dst)=some d:=by
 unfold Oper.looksAt
 rw[List.mem_append,List.mem_filterMap]
 refine or_congr ?_ ?_
 ·constructor
  ·rintro ⟨x,hx,e⟩
   cases x with
   | tmp t=>
    simp only[Option.some.injEq] at e
    subst e
    exact hx
   | _=>cases e
  ·exact fun h=>⟨_,h,rfl⟩
 ·cases hg:o.guard with
  | none=>simp
  | some p=>
   obtain⟨j,b⟩:=p
   simp only[Option.mem_toList,Option.mem_def,Option.some.injEq,Prod.mk.injEq]
   constructor
   ·exact fun h=>⟨j,b,⟨rfl,rfl⟩,h⟩
   ·rintro ⟨j',b',⟨rfl,rfl⟩,h⟩
    exact h
theorem xp (o:Oper) (d:Nat):d∈Cz ops.toList o ↔ d∈o.looksAt ops:=by
 rw[Dj]
 unfold Cz
 cases hg:o.guard with
 | none=>simp[qC]
 | some p=>
  obtain⟨j,b⟩:=p
  simp only[uX]
  cases hd:(ops[j]?).bind (·.dst) with
  | none=>
   simp only[qC]
   constructor
   ·exact .inl
   ·rintro (h | ⟨j',b',e,h⟩)
    ·exact h
    ·cases e
     rw[hd] at h
     cases h
  | some e=>
   simp only[List.mem_cons,qC]
   constructor
   ·rintro (rfl | h)
    ·exact .inr ⟨j,b,rfl,hd⟩
    ·exact .inl h
   ·rintro (h | ⟨j',b',e',h⟩)
    ·exact .inr h
    ·cases e'
     rw[hd] at h
     cases h
     exact .inl rfl
theorem zQ {l:List Oper} (h:Gz l=true):∀o∈l,∀cs b,o.op≠.select cs b:=by
 induction l with
 | nil=>intro o ho;cases ho
 | cons o l ih=>
  unfold Gz at h
  obtain⟨h1,h2⟩:=Bool.and_eq_true_iff.1 h
  intro x hx cs b
  rcases List.mem_cons.1 hx with hx | hx
  ·subst hx
   intro e
   rw[e] at h1
   exact Bool.noConfusion h1
  ·exact ih h2 x hx cs b
theorem rQ {L:List Oper} {j:Nat} {oj:Oper}:∀{l:List Oper} {i:Nat},zc L j oj i l=true->∀k oi,l[k]? = some oi->i+k≠j->∀d,oi.dst=some d →
  (d∈Cz L oj\/oj.dst=some d)->bit (cM oj.after.toList) (i+k)=true\/bit (cM oi.after.toList) j=true
 | [],_,_,k,oi,hk,_,_,_,_=>by simp at hk
 | o::l,i,h,k,oi,hk,hne,d,hd,hq=>by
  unfold zc at h
  obtain⟨h1,h2⟩:=Bool.and_eq_true_iff.1 h
  cases k with
  | zero=>
   simp at hk
   subst hk
   have hb:Nat.beq i j=false:=by
    rcases aZ i j with⟨e,_⟩ | ⟨_,hb⟩
    ·exact absurd e hne
    ·exact hb
   rw[hb,hd] at h1
   simp only[Bool.false_or] at h1
   rcases hq with hq | hq
   ·rw[(BW _ _).2 hq] at h1
    simpa using h1
   ·rw[hq] at h1
    simp only[Nat.beq_refl,Bool.or_true,cond_true] at h1
    simpa using h1
  | succ k=>
   have:=rQ h2 k oi (by simpa using hk) (by omega) d hd hq
   rw[show i+(k+1)=i+1+k by omega]
   exact this
theorem oT {L:List Oper}:∀{l:List Oper} {j:Nat},vp L j l=true->∀k oj,l[k]? = some oj->zc L (j+k) oj 0 L=true
 | [],_,_,k,oj,hk=>by simp at hk
 | o::l,j,h,k,oj,hk=>by
  unfold vp at h
  obtain⟨h1,h2⟩:=Bool.and_eq_true_iff.1 h
  cases k with
  | zero=>simp at hk;subst hk;exact h1
  | succ k=>
   have:=oT h2 k oj (by simpa using hk)
   rw[show j+(k+1)=j+1+k by omega]
   exact this
theorem zN {T:List (Nat×Nat)} {i:Nat}:∀{l:List Oper} {j:Nat},loneD C T i j l=true->∀k oj,l[k]? = some oj->i≠j+k->ID C oj=true->bit (rX T (j+k)) i=true\/bit (rX T i) (j+k)=true
 | [],_,_,k,oj,hk,_,_=>by simp at hk
 | o::l,j,h,k,oj,hk,hne,hq=>by
  unfold loneD at h
  obtain⟨h1,h2⟩:=Bool.and_eq_true_iff.1 h
  cases k with
  | zero=>
   simp at hk
   subst hk
   have hb:Nat.beq i j=false:=by
    rcases aZ i j with⟨e,_⟩ | ⟨_,hb⟩
    ·exact absurd e hne
    ·exact hb
   rw[hb,hq] at h1
   simpa using h1
  | succ k=>
   have:=zN h2 k oj (by simpa using hk) (by omega) hq
   rw[show j+(k+1)=j+1+k by omega]
   exact this
theorem tI {T:List (Nat×Nat)} {i:Nat}:∀{l:List Edge},bit (xJ T l) i=true->∃e∈l,Region.binds .any e=true/\(e.on=i\/∃m,lookup T e.on=some m/\bit m i=true)
 | [],h=>by rw[gL] at h;simp[xJ] at h
 | e::l,h=>by
  unfold xJ at h
  cases hb:Region.binds .any e with
  | true=>
   rw[hb] at h
   simp only[cond_true] at h
   rw[gL,uJ,uJ,nW] at h
   simp only[Bool.or_eq_true,decide_eq_true_eq] at h
   rcases h with h | h | h
   ·exact⟨e,by simp,hb,.inl h⟩
   ·refine⟨e,by simp,hb,.inr ?_⟩
    cases hl:lookup T e.on with
    | none=>rw[hl] at h;simp at h
    | some m=>rw[hl] at h;exact⟨m,rfl,by rw[gL];exact h⟩
   ·obtain⟨e',h1,h2⟩:=tI (by rw[gL];exact h)
    exact⟨e',by simp[h1],h2⟩
  | false=>
   rw[hb] at h
   obtain⟨e',h1,h2⟩:=tI h
   exact⟨e',by simp[h1],h2⟩
theorem wP:∀{l:List Oper} {T:List (Nat×Nat)} {j:Nat},(∀k m,lookup T k=some m->k<j)->∀k m,lookup T k=some m->lookup (ya T j l) k=some m
 | [],_,_,_,k,m,h=>h
 | o::l,T,j,hT,k,m,h=>by
  unfold ya
  refine wP (fun k' m' h'=>?_) k m ?_
  ·rw[lookup_cons] at h'
   split at h'
   ·omega
   ·have:=hT k' m' h';omega
  ·rw[lookup_cons,if_neg (by have:=hT k m h;omega)]
   exact h
theorem FP:∀{l:List Oper} {T:List (Nat×Nat)} {j:Nat},(∀k m,lookup T k=some m->k<j)->∀n o,l[n]? = some o →
  ∃T',(∀k m,lookup T' k=some m->k<j+n/\lookup (ya T j l) k=some m)/\lookup (ya T j l) (j+n)=some (xJ T' o.after.toList)
 | [],_,_,_,n,o,h=>by simp at h
 | x::l,T,j,hT,n,o,h=>by
  have hT':∀k m,lookup ((j,xJ T x.after.toList)::T) k=some m->k<j+1:=by
   intro k' m' h'
   rw[lookup_cons] at h'
   split at h'
   ·omega
   ·have:=hT k' m' h';omega
  unfold ya
  cases n with
  | zero=>
   simp at h
   subst h
   refine⟨T,fun k m hk=>⟨hT k m hk,wP hT' k m ?_⟩,wP hT' j _ ?_⟩
   ·rw[lookup_cons,if_neg (by have:=hT k m hk;omega)]
    exact hk
   ·rw[lookup_cons,if_pos rfl]
  | succ n=>
   obtain⟨T',h1,h2⟩:=FP hT' n o (by simpa using h)
   rw[show j+(n+1)=j+1+n by omega]
   exact⟨T',h1,h2⟩
theorem Dt {b i:Nat} (h:bit (rX (ya [] 0 ops.toList) b) i=true) (hb:b<ops.size) :
  ∃o,ops[b]? = some o/\∃e∈o.after,Region.binds .any e=true/\(e.on=i\/(e.on<b/\bit (rX (ya [] 0 ops.toList) e.on) i=true)):=by
 have ho:ops.toList[b]? = some ops[b]:=by simp[hb]
 obtain⟨T',h1,h2⟩:=FP (T:=[]) (j:=0) (fun k m hk=>by simp[lookup] at hk) b _ ho
 rw[Nat.zero_add] at h2
 unfold rX at h
 rw[h2] at h
 obtain⟨e,he,hbd,hq⟩:=tI h
 refine⟨ops[b],by simp[hb],e,by simpa using he,hbd,?_⟩
 rcases hq with hq | ⟨m,hm,hbm⟩
 ·exact .inl hq
 ·obtain⟨h3,h4⟩:=h1 _ _ hm
  refine .inr ⟨by omega,?_⟩
  unfold rX
  rw[h4]
  exact hbm
def tN (ops:Array Oper) (done:Nat):Prop:=∀b o,bit done b=true->ops[b]? = some o->∀e∈o.after,Region.binds .any e=true->bit done e.on=true
theorem Ds (ops:Array Oper):tN ops 0:=fun b o h=>by rw[gL] at h;simp at h
theorem tN.add {done i:Nat} (h:tN ops done) {o:Oper} (hi:ops[i]? = some o) (hr:∀e∈o.after,Region.binds .any e=true->bit done e.on=true):tN ops (Nat.lor done (Nat.shiftLeft 1 i)):=by
 intro b ob hb hob e he hbd
 rw[gL,uJ,nW,Bool.or_eq_true] at hb ⊢
 rw[<-gL]
 left
 rcases hb with hb | hb
 ·exact h b ob (by rw[gL];exact hb) hob e he hbd
 ·have:i=b:=by simpa using hb
  subst this
  rw[hi] at hob
  cases hob
  exact hr e he hbd
theorem tN.anc {done:Nat} (h:tN ops done) {i:Nat}:∀b,b<ops.size->(∀o,ops[b]? = some o->∀e∈o.after,Region.binds .any e=true->bit done e.on=true)->bit (rX (ya [] 0 ops.toList) b) i=true->bit done i=true:=by
 intro b
 induction b using Nat.strongRecOn with
 | _ b ih=>
  intro hb hall hbi
  obtain⟨o,ho,e,he,hbd,hq⟩:=Dt hbi hb
  have h1:=hall o ho e he hbd
  rcases hq with hq | ⟨hlt,hq⟩
  ·rw[<-hq];exact h1
  ·exact ih e.on hlt (by omega) (fun o' ho'=>h e.on o' h1 ho') hq
theorem sx (i:Nat):pq ops.toList i=ops[i]?:=by rw[Cv];simp
theorem lO:∀{l:List Nat} {i:Nat},kG C ops.toList l=some i->i∈l/\∃o,ops[i]? = some o/\quietAt C ops.toList i o=true
 | [],i,h=>by simp[kG] at h
 | k::l,i,h=>by
  unfold kG at h
  rw[sx] at h
  split at h
  ·rename_i o ho
   cases hq:quietAt C ops.toList k o with
   | true=>
    rw[hq] at h
    simp only[cond_true,Option.some.injEq] at h
    subst h
    exact⟨by simp,o,ho,hq⟩
   | false=>
    rw[hq] at h
    obtain⟨h1,h2⟩:=lO (by simpa using h)
    exact⟨by simp[h1],h2⟩
  ·obtain⟨h1,h2⟩:=lO h
   exact⟨by simp[h1],h2⟩
theorem xy {f:Nat->Prop}:∀{l:List Nat},EV f l->∀i∈l,f i
 | [],_,i,hi=>by simp at hi
 | [x],h,i,hi=>by simp at hi;subst hi;exact h
 | x::y::l,h,i,hi=>by
  obtain⟨h1,h2⟩:=h
  rcases List.mem_cons.1 hi with rfl | hi
  ·exact h1
  ·exact xy h2 i hi
theorem Iz (hT:TabOk P C) (hC:eL P C) (hN:C.n=N) {i:Nat} {o:Oper} (hi:ops[i]? = some o) {K:St->Prop} (h:Sim g N s a w φ) (hs:iD C ops.toList o s K) {next:Act->World->Prop}
  (hn:∀a' w' s' φ',K s'->Sim g N s' a' w' φ'->(ID C o=false->Turn w w' none)->next a' w'):wpOp P ops Q i next a w:=by
 unfold wpOp
 simp only[hi]
 unfold iD at hs
 cases hb:Nat.beq (Nat.add (o.dst.getD 0) C.off) base with
 | true=>rw[hb] at hs;exact hs.elim
 | false=>
 simp only[hb,cond_false] at hs
 have hdn:=CX hb
 have run:∀{s:St} {φ:Names},Sim g N s a w φ->(bif jO C o s then opW C o s fun v s1=>K (s1.put C.n o.dst v) else False)->o.wp P a w next Q:=by
  intro s φ h hs
  cases hl:jO C o s with
  | false=>rw[hl] at hs;exact hs.elim
  | true=>
   rw[hl] at hs
   simp only[cond_true] at hs
   refine HY hT hC h hdn hs fun u w' v s' φ' hk hs' hv ht=>?_
   rw[hN] at hk
   refine hn _ _ _ _ hk (hs'.put o.dst hv) (fun hw=>?_)
   obtain⟨hw1,hw2⟩:=Bool.or_eq_false_iff.1 hw
   refine ht hw1 ?_
   unfold jO at hl
   rw[hw2,Bool.false_or] at hl
   exact hl
 split at hs
 ·rename_i hg
  have hw:Region.wanted o (yielded ops a.tmps)=true:=by simp[Region.wanted,hg]
  rw[if_pos hw]
  exact .inl (run h hs)
 ·rename_i j want hg
  split at hs
  ·rename_i d hdst
   rw[uX] at hdst
   split at hs
   ·rename_i b hsl
    have ht:=sH h hsl
    have hy:yielded ops a.tmps j=some b:=by
     unfold yielded
     rw[hdst]
     simp[ht]
    cases hbw:(b==want) with
    | true=>
     rw[hbw] at hs
     have hbe:b=want:=by simpa using hbw
     subst hbe
     have hw:Region.wanted o (yielded ops a.tmps)=true:=by simp[Region.wanted,hg,hy]
     rw[if_pos hw]
     rw[hN] at hs
     exact .inl (run (mK h hsl) (by rw[hN];exact hs))
    | false=>
     rw[hbw] at hs
     have hbe:b=!want:=by
      clear hs
      revert hbw
      cases b<;>cases want<;>decide
     have hw:¬Region.wanted o (yielded ops a.tmps)=true:=by
      intro hw
      simp only[Region.wanted,hg,hy] at hw
      have:b=want:=by simpa using hw
      rw[this] at hbw
      simp at hbw
     rw[if_neg hw]
     rw[hN] at hs
     exact hn _ _ _ _ hs ((mK h (by rw[hsl,hbe])).put o.dst (v:=.cst (.tuple #[])) (u:=undef) (mI ..)) (fun _=>Turn.refl _ _)
   ·rename_i x hsl
    have hy:=tP h hsl hdst
    have hw:¬Region.wanted o (yielded ops a.tmps)=true:=by simp[Region.wanted,hg,hy]
    rw[if_neg hw]
    rw[hN] at hs
    exact hn _ _ _ _ hs (h.put o.dst (v:=.cst (.tuple #[])) (u:=undef) (mI ..)) (fun _=>Turn.refl _ _)
   ·exact hs.elim
  ·exact hs.elim
theorem xK {S:World->Prop} (hT:TabOk P C) (hN:C.n=N) {o:Oper} (hq:∀{s:St} {φ:Names} {K:AV->St->Prop},Sim g N s a w φ->Nat.add (o.dst.getD 0) C.off≠base->opW C o s K->eY S P g N o a w K) {K:St->Prop} (h:Sim g N s a w φ) (hs:iD C ops.toList o s K) :
  ∃v s' φ',YieldsIf P ops S o v a/\K s'/\Sim g N s' (a.put o.dst v) w φ':=by
 unfold iD at hs
 cases hb:Nat.beq (Nat.add (o.dst.getD 0) C.off) base with
 | true=>rw[hb] at hs;exact hs.elim
 | false=>
 simp only[hb,cond_false] at hs
 have hdn:=CX hb
 have run:∀{s:St} {φ:Names},Sim g N s a w φ->Region.wanted o (yielded ops a.tmps)=true->(bif jO C o s then opW C o s fun v s1=>K (s1.put C.n o.dst v) else False) →
   ∃v s' φ',YieldsIf P ops S o v a/\K s'/\Sim g N s' (a.put o.dst v) w φ':=by
  intro s φ h hw hs
  cases hl:jO C o s with
  | false=>rw[hl] at hs;exact hs.elim
  | true=>
   rw[hl] at hs
   simp only[cond_true] at hs
   obtain⟨u,v,s',φ',h1,h2,h3,h4⟩:=hq h hdn hs
   rw[hN] at h2
   exact⟨u,_,φ',.inl ⟨hw,h1⟩,h2,h3.put o.dst h4⟩
 split at hs
 ·rename_i hg
  exact run h (by simp[Region.wanted,hg]) hs
 ·rename_i j want hg
  split at hs
  ·rename_i d hdst
   rw[uX] at hdst
   split at hs
   ·rename_i b hsl
    have ht:=sH h hsl
    have hy:yielded ops a.tmps j=some b:=by
     unfold yielded
     rw[hdst]
     simp[ht]
    cases hbw:(b==want) with
    | true=>
     rw[hbw] at hs
     have hbe:b=want:=by simpa using hbw
     subst hbe
     rw[hN] at hs
     exact run (mK h hsl) (by simp[Region.wanted,hg,hy]) (by rw[hN];exact hs)
    | false=>
     rw[hbw] at hs
     have hbe:b=!want:=by
      clear hs
      revert hbw
      cases b<;>cases want<;>decide
     have hw:Region.wanted o (yielded ops a.tmps)=false:=by
      cases hq:Region.wanted o (yielded ops a.tmps) with
      | false=>rfl
      | true=>
       simp only[Region.wanted,hg,hy] at hq
       have:b=want:=by simpa using hq
       rw[this] at hbw
       simp at hbw
     rw[hN] at hs
     exact⟨undef,_,φ,.inr ⟨hw,rfl⟩,hs,(mK h (by rw[hsl,hbe])).put o.dst (v:=.cst (.tuple #[])) (u:=undef) (mI ..)⟩
   ·rename_i x hsl
    have hy:=tP h hsl hdst
    have hw:Region.wanted o (yielded ops a.tmps)=false:=by simp[Region.wanted,hg,hy]
    rw[hN] at hs
    exact⟨undef,_,φ,.inr ⟨hw,rfl⟩,hs,h.put o.dst (v:=.cst (.tuple #[])) (u:=undef) (mI ..)⟩
   ·exact hs.elim
  ·exact hs.elim
theorem oB {s:St}:∀{l:List Nat} {i:Nat},rU ops.toList s l=some i->i∈l/\∃o,ops[i]? = some o/\vQ o s=true
 | [],_,h=>by cases h
 | k::l,i,h=>by
  unfold rU at h
  rw[sx] at h
  cases ho:ops[k]? with
  | none=>
   rw[ho] at h
   obtain⟨h1,h2⟩:=oB h
   exact⟨List.mem_cons_of_mem _ h1,h2⟩
  | some o=>
   rw[ho] at h
   simp only at h
   cases hq:vQ o s with
   | true=>
    rw[hq] at h
    simp only[cond_true,Option.some.injEq] at h
    subst h
    exact⟨List.mem_cons_self,o,ho,hq⟩
   | false=>
    rw[hq] at h
    obtain⟨h1,h2⟩:=oB h
    exact⟨List.mem_cons_of_mem _ h1,h2⟩
theorem Hl (hT:TabOk P C) (hN:C.n=N) {o:Oper} {K:St->Prop} (h:Sim g N s a w φ) (ha:vQ o s=true) (hs:iD C ops.toList o s K) :
  ∃b v s' φ',imm g φ s.hp w.heap.size b/\YieldsIf P ops (fun w'=>w'.heap[b]? = w.heap[b]?) o v a/\K s'/\Sim g N s' (a.put o.dst v) w φ':=by
 unfold vQ at ha
 split at ha
 ·cases ha
 rename_i hg
 split at ha
 ·rename_i ty x ho
  split at ha
  ·rename_i t y e1
   unfold iD at hs
   cases hb:Nat.beq (Nat.add (o.dst.getD 0) C.off) base with
   | true=>rw[hb] at hs;exact hs.elim
   | false=>
   simp only[hb,cond_false,hg] at hs
   cases hl:jO C o s with
   | false=>rw[hl] at hs;exact hs.elim
   | true=>
   rw[hl] at hs
   simp only[cond_true] at hs
   obtain⟨b,hI,u,v,s',φ',h1,h2,h3,h4⟩:=IB hT h ho e1 hs
   rw[hN] at h2
   exact⟨b,u,_,φ',hI,.inl ⟨by simp[Region.wanted,hg],h1⟩,h2,h3.put o.dst h4⟩
  ·rename_i v0 e1
   unfold iD at hs
   cases hb:Nat.beq (Nat.add (o.dst.getD 0) C.off) base with
   | true=>rw[hb] at hs;exact hs.elim
   | false=>
   simp only[hb,cond_false,hg] at hs
   cases hl:jO C o s with
   | false=>rw[hl] at hs;exact hs.elim
   | true=>
   rw[hl] at hs
   simp only[cond_true] at hs
   obtain⟨b,hI,u,v,s',φ',h1,h2,h3,h4⟩:=It hT h ho e1 hs
   rw[hN] at h2
   exact⟨b,u,_,φ',hI,.inl ⟨by simp[Region.wanted,hg],h1⟩,h2,h3.put o.dst h4⟩
  ·cases ha
 ·cases ha
def HX (C:Ctx) (ops:Array Oper) (i:Nat):Bool:=match ops[i]? with
 | some o=>!ID C o
 | none=>true
theorem Jj (hT:TabOk P C) (hC:eL P C) (hN:C.n=N) (hreg:rE ops.toList=true) {K:St->Prop} (hQ:∀a' w' s' φ',K s'->Sim g N s' a' w' φ'->Q .normal a' w') (hQp:∀c a w,¬Q (.panic c) a w) :
  ∀(f done:Nat) (listed:Array Bool) {gx:Gl} {Fz:Nat->Prop} {s:St} {a:Act} {w:World} {φ:Names},(∀s a w φ,Sim gx N s a w φ->Sim g N s a w φ)->(∀b,Fz b->b<gx.w0.heap.size/\¬gx.io b) →
   Told ops listed done->tN ops done->Sim gx N s a w φ->xF C ops.toList f done s K->lZ P .any ops Q (HX C ops) Fz f listed a w:=by
 unfold rE at hreg
 obtain⟨hr1,hr2⟩:=Bool.and_eq_true_iff.1 hreg
 have nil:∀{done:Nat} {listed:Array Bool},Told ops listed done->kF done 0 ops.toList=[]->Region.ready .any ops listed=[]:=by
  intro done listed ht he
  refine List.eq_nil_iff_forall_not_mem.2 fun j hj=>?_
  rw[ht.ready,he] at hj
  cases hj
 intro f
 induction f with
 | zero=>
  intro done listed gx Fz s a w φ hgx hFz ht _ h hd
  unfold xF at hd
  split at hd
  ·rename_i he
   exact⟨nil ht he,hQ _ _ _ _ hd (hgx _ _ _ _ h)⟩
  ·exact hd.elim
 | succ f ih=>
  intro done listed gx Fz s a w φ hgx hFz ht hcl h hd
  unfold xF at hd
  split at hd
  ·rename_i he
   have:=nil ht he
   exact⟨fun _=>hQ _ _ _ _ hd (hgx _ _ _ _ h),fun i hi=>by rw[this] at hi;cases hi⟩
  ·rename_i l he
   have hinfo:∀i,i∈kF done 0 ops.toList->∃o,ops[i]? = some o/\i<ops.size/\bit done i=false/\∀e∈o.after,Region.binds .any e=true->bit done e.on=true:=by
    intro i hi
    obtain⟨o,_,h1,h2,h3⟩:=(si _ _ _ _).1 hi
    have h1:ops[i]? = some o:=by simpa using h1
    refine⟨o,h1,(Array.getElem?_eq_some_iff.1 h1).1,h2,fun e he hb=>?_⟩
    rw[gL]
    exact rz.1 h3 _ ((eH _ _).2 ⟨e,by simpa using he,hb,rfl⟩)
   split at hd
   ·rename_i i hfq
    obtain⟨hil,o,hio,hq⟩:=lO hfq
    obtain⟨o',ho',hlt,hun,hall⟩:=hinfo i hil
    rw[hio] at ho'
    cases ho'
    unfold wQ at hd
    rw[sx,hio] at hd
    have hap:∀j oj,ops[j]? = some oj->j≠i->listed.getD j true=false->(∀e∈oj.after,Region.binds .any e=true->e.on≠i)->o.apart ops oj=true:=by
     intro j oj hj hji hjun hnot
     have hju:=(ht.uB.1 hjun).2
     have hA:=oT hr2
     have key:∀{p q:Nat} {op oq:Oper},ops[p]? = some op->ops[q]? = some oq->p≠q->∀d,op.dst=some d->(d∈oq.looksAt ops\/oq.dst=some d)->bit (cM oq.after.toList) p=true\/bit (cM op.after.toList) q=true:=by
      intro p q op oq hp hq' hne d hd' hl
      have:=rQ (hA q oq (by simpa using hq')) p op (by simpa using hp) (by omega) d hd' (hl.imp (fun x=>(xp oq d).2 x) id)
      simpa using this
     have no1:¬bit (cM oj.after.toList) i=true:=by
      intro hb
      rw[gL] at hb
      obtain⟨e,he',hb',hon⟩:=(eH _ _).1 hb
      exact hnot e (by simpa using he') hb' hon
     have no2:¬bit (cM o.after.toList) j=true:=by
      intro hb
      rw[gL] at hb
      obtain⟨e,he',hb',hon⟩:=(eH _ _).1 hb
      have:=hall e (by simpa using he') hb'
      rw[hon,hju] at this
      cases this
     have cl:∀d,o.dst=some d->¬(d∈oj.looksAt ops\/oj.dst=some d):=by
      intro d hd' hl
      rcases key hio hj (Ne.symm hji) d hd' hl with h1 | h1
      ·exact no1 h1
      ·exact no2 h1
     have cl2:∀d,oj.dst=some d->¬d∈o.looksAt ops:=by
      intro d hd' hl
      rcases key hj hio hji d hd' (.inl hl) with h1 | h1
      ·exact no2 h1
      ·exact no1 h1
     unfold Oper.apart
     cases hdo:o.dst with
     | none=>
      cases hdj:oj.dst with
      | none=>rfl
      | some e=>simp;exact cl2 e hdj
     | some d=>
      have h1:=cl d hdo
      have h2:d∉oj.looksAt ops:=fun x=>h1 (.inl x)
      have h3:oj.dst≠some d:=fun x=>h1 (.inr x)
      cases hdj:oj.dst with
      | none=>simp;exact h2
      | some e=>
       rw[hdj] at h3
       simp only[Bool.and_eq_true,Bool.not_eq_true',List.contains_eq_mem,decide_eq_false_iff_not,bne_iff_ne]
       exact⟨⟨h2,h3⟩,cl2 e hdj⟩
    have hns:∀(j:Nat) (oj:Oper) cs b,ops[j]? = some oj->oj.op≠.select cs b:=by
     intro j oj cs b hj
     exact zQ hr1 oj (Array.mem_toList_iff.2 (Array.mem_of_getElem? hj)) cs b
    unfold quietAt at hq
    obtain⟨hq,hpl⟩:=Bool.and_eq_true_iff.1 hq
    cases hpu:CL o with
    | true=>
     obtain⟨v,s',φ',hy,hk,hs'⟩:=xK (P:=P) (ops:=ops) (S:=fun _=>True) hT hN (fun h hd hop=>JI hT h hd hpu hop) h hd
     have hrest:=ih _ _ hgx hFz (ht.set hlt) (hcl.add hio hall) hs' hk
     exact AO hio hns (fun c a w hc=>absurd hc (hQp c _ w)) f listed a w hap (ht.ready.2 hil) hy hrest
    | false=>
    rw[hpu,Bool.false_or] at hpl
    obtain⟨v,s',φ',hy,hk,hs'⟩:=xK (P:=P) (ops:=ops) (S:=fun w'=>Turn w w' none) hT hN (fun h hd hop=>Eg hT h hd hq hop) h hd
    have hrest:=ih _ _ hgx hFz (ht.set hlt) (hcl.add hio hall) hs' hk
    refine Cj (w0:=w) (Blk:=fun b=>b<ops.size/\bit (rX (ya [] 0 ops.toList) b) i=true) hio hns (fun c a w hc=>absurd hc (hQp c _ w)) ?_ f listed a w hap (ht.ready.2 hil) hy (Turn.refl w none) ?_ ?_ ?_ hrest
    ·rintro b ⟨hb1,hb2⟩
     obtain⟨ob,h1,e,h2,h3,h4⟩:=Dt hb2 hb1
     refine⟨ob,h1,e,h2,h3,h4.imp id fun h5=>⟨by omega,h5.2⟩⟩
    ·rintro b ⟨hb1,hb2⟩
     rw[ht.2]
     cases hbd:bit done b with
     | false=>rfl
     | true=>
      have:=hcl.anc b hb1 (fun ob hob=>hcl b ob hbd hob) hb2
      rw[hun] at this
      cases this
    all_goals
     have hwr:∀j oj,ops[j]? = some oj->bit done j=false->j≠i->HX C ops j=false->j<ops.size/\bit (rX (ya [] 0 ops.toList) j) i=true:=by
      intro j oj hj hju hji hnw
      have hjl:=(Array.getElem?_eq_some_iff.1 hj).1
      refine⟨hjl,?_⟩
      have hw:ID C oj=true:=by simpa [HX,hj] using hnw
      have h2:=zN hpl j oj (by simpa using hj) (by omega) hw
      rw[Nat.zero_add] at h2
      rcases h2 with h2 | h2
      ·exact h2
      ·have:=hcl.anc i hlt (fun o' ho'=>by rw[hio] at ho';cases ho';exact hall) h2
       rw[hju] at this
       cases this
    ·intro j hj hji hnw
     obtain⟨oj,hoj,_,h2,_⟩:=hinfo j (ht.ready.1 hj)
     exact hwr j oj hoj h2 hji hnw
    ·intro j oj hoj hun' hji hnw
     exact hwr j oj hoj (ht.uB.1 hun').2 hji hnw
   ·split at hd
    ·rename_i i hfq
     obtain⟨hil,o,hio,hq⟩:=oB hfq
     obtain⟨o',ho',hlt,hun,hall⟩:=hinfo i hil
     rw[hio] at ho'
     cases ho'
     unfold wQ at hd
     rw[sx,hio] at hd
     have hap:∀j oj,ops[j]? = some oj->j≠i->listed.getD j true=false->(∀e∈oj.after,Region.binds .any e=true->e.on≠i)->o.apart ops oj=true:=by
      intro j oj hj hji hjun hnot
      have hju:=(ht.uB.1 hjun).2
      have hA:=oT hr2
      have key:∀{p q:Nat} {op oq:Oper},ops[p]? = some op->ops[q]? = some oq->p≠q->∀d,op.dst=some d->(d∈oq.looksAt ops\/oq.dst=some d)->bit (cM oq.after.toList) p=true\/bit (cM op.after.toList) q=true:=by
       intro p q op oq hp hq' hne d hd' hl
       have:=rQ (hA q oq (by simpa using hq')) p op (by simpa using hp) (by omega) d hd' (hl.imp (fun x=>(xp oq d).2 x) id)
       simpa using this
      have no1:¬bit (cM oj.after.toList) i=true:=by
       intro hb
       rw[gL] at hb
       obtain⟨e,he',hb',hon⟩:=(eH _ _).1 hb
       exact hnot e (by simpa using he') hb' hon
      have no2:¬bit (cM o.after.toList) j=true:=by
       intro hb
       rw[gL] at hb
       obtain⟨e,he',hb',hon⟩:=(eH _ _).1 hb
       have:=hall e (by simpa using he') hb'
       rw[hon,hju] at this
       cases this
      have cl:∀d,o.dst=some d->¬(d∈oj.looksAt ops\/oj.dst=some d):=by
       intro d hd' hl
       rcases key hio hj (Ne.symm hji) d hd' hl with h1 | h1
       ·exact no1 h1
       ·exact no2 h1
      have cl2:∀d,oj.dst=some d->¬d∈o.looksAt ops:=by
       intro d hd' hl
       rcases key hj hio hji d hd' (.inl hl) with h1 | h1
       ·exact no2 h1
       ·exact no1 h1
      unfold Oper.apart
      cases hdo:o.dst with
      | none=>
       cases hdj:oj.dst with
       | none=>rfl
       | some e=>simp;exact cl2 e hdj
      | some d=>
       have h1:=cl d hdo
       have h2:d∉oj.looksAt ops:=fun x=>h1 (.inl x)
       have h3:oj.dst≠some d:=fun x=>h1 (.inr x)
       cases hdj:oj.dst with
       | none=>simp;exact h2
       | some e=>
        rw[hdj] at h3
        simp only[Bool.and_eq_true,Bool.not_eq_true',List.contains_eq_mem,decide_eq_false_iff_not,bne_iff_ne]
        exact⟨⟨h2,h3⟩,cl2 e hdj⟩
     have hns:∀(j:Nat) (oj:Oper) cs b,ops[j]? = some oj->oj.op≠.select cs b:=by
      intro j oj cs b hj
      exact zQ hr1 oj (Array.mem_toList_iff.2 (Array.mem_of_getElem? hj)) cs b
     obtain⟨bl,v,s',φ',hI,hy,hk,hs'⟩:=Hl (P:=P) (ops:=ops) hT hN h.here hq hd
     have hno:¬yT φ s.hp bl:=fun⟨id,blk,hl,ho⟩=>hI.2.2 id blk hl ho
     have hFz':∀b,(Fz b\/b=bl)->b<(lU h).w0.heap.size/\¬(lU h).io b:=fun b hb=>by
      rcases hb with q | q
      ·exact⟨Nat.lt_of_lt_of_le (hFz b q).1 h.hsize,fun ho=>(hFz b q).2 (h.Ak ho (hFz b q).1)⟩
      ·subst q
       exact⟨hI.2.1,hno⟩
     have hrest:=ih _ _ (gx:=lU h) (Fz:=fun b=>Fz b\/b=bl) (fun _ _ _ _ k=>hgx _ _ _ _ (h.back k)) hFz' (ht.set hlt) (hcl.add hio hall) hs' hk
     refine xA (Fz':=fun b=>Fz b\/b=bl) (fun b hb=>.inl hb) _ _ _ _ ?_
     exact Bb hio hns (fun c a w hc=>absurd hc (hQp c _ w)) (w0:=w) (bl:=bl) (.inr rfl) f listed a w hap (ht.ready.2 hil) hy rfl hrest
    ·refine⟨fun h0=>?_,fun i hi=>?_⟩
     ·cases hl:kF done 0 ops.toList with
      | nil=>exact absurd hl he
      | cons x xs=>
       have:x∈Region.ready .any ops listed:=ht.ready.2 (by rw[hl];simp)
       rw[h0] at this
       cases this
     ·have hil:=ht.ready.1 hi
      obtain⟨o,hio,hlt,hun,hall⟩:=hinfo i hil
      have hst:=xy hd i hil
      unfold wQ at hst
      rw[sx,hio] at hst
      refine Iz hT hC hN hio h hst fun a' w' s' φ' hk hs' hw=>⟨⟨fun hnw=>hw ?_,fun b hb=>(hs'.frame b (hFz b hb).1 (hFz b hb).2).trans (h.frame b (hFz b hb).1 (hFz b hb).2).symm⟩,ih _ _ hgx hFz (ht.set hlt) (hcl.add hio hall) hs' hk⟩
      simpa [HX,hio] using hnw
theorem zw (hT:TabOk P C) (hC:eL P C) (hN:C.n=N) (hm:P.follows .mixedOrders=true) {id:Nat} {K:St->Prop} (hreg:rE ops.toList=true)
  (hQ:∀a' w' s' φ',K s'->Sim g N s' a' w' φ'->Q .normal a' w') (hQp:∀c a w,¬Q (.panic c) a w) (h:Sim g N s a w φ) (hr:xF C ops.toList ops.toList.length 0 s K):(Code.region id ops true).wp P Q a w:=by
 refine DD (nw:=HX C ops) (Fz:=fun _=>False) hm ?_
 have h':Sim g N s a { w with drawn:=w.drawn+1 } φ:=h.grow ⟨rfl,rfl,rfl,Nat.le_refl _,fun _ _ _=>rfl⟩
 rw[Array.length_toList] at hr
 exact Jj hT hC hN hreg hQ hQp ops.size 0 _ (fun _ _ _ _ h=>h) (fun _ h=>h.elim) (Fb ops) (Ds ops) h' hr
end
end Go.AE
