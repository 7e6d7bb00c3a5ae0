/- Regions. -/
import Derived.Test.YtgfopdekfopmcaaGreatAeOps
namespace Go.AE
open Go Go.RowKit
section
variable {P:Program} {C:Ctx} {g:Gl} {N:Nat} {s:St} {a:Act} {w:World} {φ:Names}
theorem tU {α:Type}:∀(l:List α) (i:Nat),kf l i=l[i]?
 | [],i=>by simp[kf]
 | x::l,0=>by simp[kf]
 | x::l,i+1=>by simp[kf,tU l i]
theorem nL (ops:Array Oper) (j:Nat):uC ops.toList j=(ops[j]?).bind (·.dst):=by
 unfold uC
 rw[tU]
 cases h:ops[j]? with
 | none=>rw[show ops.toList[j]? = none by simpa using h];rfl
 | some o=>rw[show ops.toList[j]? = some o by simpa using h];rfl
theorem mc (h:Sim g N s a w φ) {d:Nat} {b:Bool} (hs:slot s.env d=.data .bool b):a.tmps[d]? = some (.bool b):=by
 have:=h.slot d
 rw[hs] at this
 have:=jM this
 simp only[Array.getD_eq_getD_getElem?] at this
 cases hq:a.tmps[d]? with
 | none=>rw[hq] at this;simp[undef] at this
 | some v=>rw[hq] at this;simp at this;rw[this]
theorem yU (a:Act) (d:Nat) (v:Value) (h:a.tmps[d]? = some v):a.put (some d) v=a:=by
 obtain⟨tmps,defers⟩:=a
 simp only[Act.put]
 congr 1
 apply Array.ext
 ·simp
 ·intro i h1 h2
  by_cases hi:d=i
  ·subst hi
   simp only[Array.getElem_setIfInBounds_self]
   have:=Array.getElem?_eq_some_iff.1 h
   exact this.2.symm
  ·rw[Array.getElem_setIfInBounds_ne _ hi]
theorem iB (h:Sim g N s a w φ) {d:Nat} {b:Bool} (hs:slot s.env d=.data .bool b):Sim g N (s.put N (some d) (.data .bool b)) a w φ:=by
 have:=h.put (some d) (v:=.data .bool b) (u:=.bool b) (bZ ..)
 rwa [yU a d (.bool b) (mc h hs)] at this
theorem iw (w:World) (I S:Nat->Prop) (φ:Names) (hp:Hp):aa w I S φ hp (.cst (.tuple #[])) undef:=by simp[aa,undef]
theorem ng (h:Sim g N s a w φ) {d:Nat} {x:Array Value} (hs:slot s.env d=.cst (.tuple x)) {ops:Array Oper} {j:Nat} (hdst:(ops[j]?).bind (·.dst)=some d):yielded ops a.tmps j=none:=by
 have:=h.slot d
 rw[hs] at this
 simp only[aa] at this
 unfold yielded
 rw[hdst]
 simp only[Option.bind_some]
 simp only[Array.getD_eq_getD_getElem?] at this
 cases hq:a.tmps[d]? with
 | none=>rfl
 | some v=>rw[hq] at this;simp at this;rw[this]
theorem tY {n:Nat} (h:Nat.beq n base=false):n≠base:=fun e=>by rw[e,Nat.beq_refl] at h;cases h
theorem wU (hT:TabOk P C) (hC:cr P C) (hN:C.n=N) {ops:Array Oper} {Q:Exit->Act->World->Prop}:∀(l:List Oper) (i:Nat) (K:St->Prop) {s:St} {a:Act} {w:World} {φ:Names},
  (∀a' w' s' φ',K s'->Sim g N s' a' w' φ'->Q .normal a' w')->ops.toList.drop i=l->Sim g N s a w φ->uX C ops.toList l s K->wpOps P ops Q (List.range' i l.length) a w
 | [],i,K,s,a,w,φ,hQ,_,h,hr=>hQ a w s φ hr h
 | o::l,i,K,s,a,w,φ,hQ,hd,h,hr=>by
  have hi:ops[i]? = some o:=by
   have:(ops.toList.drop i)[0]? = some o:=by rw[hd];rfl
   rw[List.getElem?_drop] at this
   simpa using this
  have hd':ops.toList.drop (i+1)=l:=by
   rw[<-List.drop_drop,hd]
   rfl
  simp only[List.length_cons,List.range'_succ,wpOps,hi]
  have ih:=fun s' a' w' φ'=>wU hT hC hN l (i+1) K (s:=s') (a:=a') (w:=w') (φ:=φ') hQ hd'
  unfold uX at hr
  cases hb:Nat.beq (Nat.add (o.dst.getD 0) C.off) base with
  | true=>rw[hb] at hr;exact hr.elim
  | false=>
  simp only[hb,cond_false] at hr
  have hdn:=tY hb
  split at hr
  ·rename_i hg
   have hw:Region.wanted o (yielded ops a.tmps)=true:=by simp[Region.wanted,hg]
   rw[if_pos hw]
   refine .inl (yZ hT hC h hdn hr fun u w' v s' φ' hk hs hv _=>?_)
   have:=hs.put o.dst hv
   rw[hN] at hk
   exact ih _ _ _ _ this hk
  ·rename_i j want hg
   split at hr
   ·rename_i d hdst
    rw[nL] at hdst
    split at hr
    ·rename_i b hs
     have ht:=mc h hs
     have hy:yielded ops a.tmps j=some b:=by
      unfold yielded
      rw[hdst]
      simp[ht]
     cases hbw:(b==want) with
     | true=>
      rw[hbw] at hr
      have hbe:b=want:=by simpa using hbw
      subst hbe
      have hw:Region.wanted o (yielded ops a.tmps)=true:=by simp[Region.wanted,hg,hy]
      rw[if_pos hw]
      rw[hN,cond_true] at hr
      refine .inl (yZ hT hC (iB h hs) hdn hr fun u w' v s' φ' hk hs hv _=>?_)
      exact ih _ _ _ _ (hs.put o.dst hv) hk
     | false=>
      rw[hbw] at hr
      have hbe:b=!want:=by
       clear hr
       revert hbw
       cases b<;>cases want<;>decide
      have hw:¬Region.wanted o (yielded ops a.tmps)=true:=by
       intro hw
       simp only[Region.wanted,hg,hy] at hw
       have:b=want:=by simpa using hw
       rw[this] at hbw
       simp at hbw
      rw[if_neg hw]
      rw[hN] at hr
      refine ih _ _ _ _ ((iB h (by rw[hs,hbe])).put o.dst (v:=.cst (.tuple #[])) (u:=undef) (iw ..)) hr
    ·rename_i x hs
     have hy:=ng h hs hdst
     have hw:¬Region.wanted o (yielded ops a.tmps)=true:=by
      simp[Region.wanted,hg,hy]
     rw[if_neg hw]
     rw[hN] at hr
     exact ih _ _ _ _ (h.put o.dst (v:=.cst (.tuple #[])) (u:=undef) (iw ..)) hr
    ·exact hr.elim
   ·exact hr.elim
theorem xE (hT:TabOk P C) (hC:cr P C) (hN:C.n=N) {ops:Array Oper} {Q:Exit->Act->World->Prop} {id:Nat} {K:St->Prop}
  (hQ:∀a' w' s' φ',K s'->Sim g N s' a' w' φ'->Q .normal a' w') (h:Sim g N s a w φ) (hr:uX C ops.toList ops.toList s K):(Code.region id ops false).wp P Q a w:=by
 refine wp_region ?_
 have:=wU (Q:=Q) hT hC hN ops.toList 0 K hQ rfl h hr
 rwa [<-List.range_eq_range',Array.length_toList] at this
end
end Go.AE
