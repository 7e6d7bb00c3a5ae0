/- Operations on maps from whole numbers to data. -/
import Derived.Test.YtmkgiaecgkicoaaGreatAeOpG
import Derived.MapKept
namespace Go.AE
open Go Go.RowKit
section
variable {P:Program} {C:Ctx} {g:Gl} {N:Nat} {o:Oper} {s:St} {a:Act} {w:World} {φ:Names} {K:AV->St->Prop}
theorem HM {I S:Nat->Prop} {hp:Hp} {t:Ty} {v:AV} {x:t.D} {u:Value} (hv:aj w I S φ hp v u) (hx:vb t v=some x):∃cs,Rep w I t x cs/\u=mkv t cs:=by
 unfold vb at hx
 split at hx
 ·split at hx
  ·rename_i hh _
   cases hh
   cases hx
   simp only[aj] at hv
   exact hv
  ·cases hx
 ·cases ha:t.agg with
  | true=>rw[ha] at hx;cases hx
  | false=>
   rw[ha] at hx
   simp only[cond_false] at hx
   simp only[aj] at hv
   obtain⟨cs,hr,e⟩:=gY w I hx
   exact⟨cs,hr,hv.trans e⟩
 ·cases hx
def nN {α:Type}:List (Int×α)->Int->Nat->Option (Nat×α)
 | [],_,_=>none
 | p::l,n,i=>bif decide (n=p.1) then some (i,p.2) else nN l n (i+1)
theorem Bt {α:Type}:∀(l:List (Int×α)) (n:Int) (i:Nat),(nN l n i).map (·.2)=HD l n
 | [],_,_=>rfl
 | p::l,n,i=>by
  unfold nN HD
  cases decide (n=p.1) with
  | true=>rfl
  | false=>exact Bt l n (i+1)
theorem DM {I:Nat->Prop} {k:IntKind} {u:Ty} {n:Int}:∀{xs:List (Int×u.D)} {es:List MapEntry} (i:Nat),gU w I k u xs es →
  ∃r,Instr.findNow (.int k) (.int k n) es i=some r/\((nN xs n i=none/\r=none)\/∃j x v cs,nN xs n i=some (j,x)/\r=some (j,v)/\Rep w I u x cs/\v=mkv u cs)
 | [],[],i,_=>⟨none,rfl,.inl ⟨rfl,rfl⟩⟩
 | p::xs,e::es,i,⟨h1,⟨cs,h2,h3⟩,h4⟩=>by
  unfold Instr.findNow nN
  rw[h1]
  by_cases hn:n=p.1
  ·subst hn
   refine⟨some (i,e.val),by simp[Instr.sameNow],.inr ⟨i,p.2,e.val,cs,by simp,rfl,h2,h3⟩⟩
  ·obtain⟨r,q1,q2⟩:=DM (i+1) h4
   refine⟨r,?_,?_⟩
   ·have hb:(n==p.1)=false:=by simpa using hn
    simp only[Instr.sameNow,if_true,hb]
    exact q1
   ·rw[decide_eq_false hn]
    exact q2
theorem Fs {I:Nat->Prop} {k:IntKind} {u:Ty} {n:Int} {x:u.D} {cs:List Value} (hx:Rep w I u x cs) {clock:Nat}:∀{xs:List (Int×u.D)} {es:List MapEntry} (i:Nat),gU w I k u xs es →
  (nN xs n i=none->gU w I k u (Gb xs n x) (es++[⟨.int k n,mkv u cs,clock⟩])) ∧
  ∀j y,nN xs n i=some (j,y)->i<=j/\(es[j-i]?).map (·.key)=some (.int k n)/\gU w I k u (Gb xs n x) (es.modify (j-i) fun e=>{ e with key:=.int k n,val:=mkv u cs })
 | [],[],i,_=>⟨fun _=>⟨rfl,⟨cs,hx,rfl⟩,trivial⟩,fun j y h=>by cases h⟩
 | p::xs,e::es,i,⟨h1,h2,h4⟩=>by
  obtain⟨q1,q2⟩:=Fs (n:=n) hx (clock:=clock) (i+1) h4
  unfold nN Gb
  by_cases hn:n=p.1
  ·subst hn
   refine⟨fun h=>by simp at h,fun j y h=>?_⟩
   simp only[decide_true,cond_true,Option.some.injEq,Prod.mk.injEq] at h
   obtain⟨rfl,rfl⟩:=h
   refine⟨Nat.le_refl _,by simp[h1],?_⟩
   simp only[decide_true,cond_true,Nat.sub_self,List.modify_zero_cons]
   exact⟨rfl,⟨cs,hx,rfl⟩,h4⟩
  ·rw[decide_eq_false hn]
   simp only[cond_false]
   refine⟨fun h=>⟨h1,h2,q1 h⟩,fun j y h=>?_⟩
   obtain⟨r1,r2,r3⟩:=q2 j y h
   have e1:j-i=(j-(i+1))+1:=by omega
   rw[e1]
   refine⟨by omega,by simpa using r2,?_⟩
   rw[List.modify_succ_cons]
   exact⟨h1,h2,r3⟩
theorem FH {I:Nat->Prop} {k:IntKind} {u:Ty} {n:Int}:∀{xs:List (Int×u.D)} {es:List MapEntry} (i:Nat),gU w I k u xs es →
  (nN xs n i=none->Gx xs n=xs)/\∀j y,nN xs n i=some (j,y)->i<=j/\gU w I k u (Gx xs n) (es.eraseIdx (j-i))
 | [],[],i,_=>⟨fun _=>rfl,fun j y h=>by cases h⟩
 | p::xs,e::es,i,⟨h1,h2,h4⟩=>by
  obtain⟨q1,q2⟩:=FH (n:=n) (i+1) h4
  unfold nN Gx
  by_cases hn:n=p.1
  ·subst hn
   refine⟨fun h=>by simp at h,fun j y h=>?_⟩
   simp only[decide_true,cond_true,Option.some.injEq,Prod.mk.injEq] at h
   obtain⟨rfl,rfl⟩:=h
   refine⟨Nat.le_refl _,?_⟩
   simp only[decide_true,cond_true,Nat.sub_self,List.eraseIdx_zero,List.tail_cons]
   exact h4
  ·rw[decide_eq_false hn]
   simp only[cond_false]
   refine⟨fun h=>by rw[q1 h],fun j y h=>?_⟩
   obtain⟨r1,r3⟩:=q2 j y h
   have e1:j-i=(j-(i+1))+1:=by omega
   rw[e1]
   refine⟨by omega,?_⟩
   rw[List.eraseIdx_cons_succ]
   exact⟨h1,h2,r3⟩
theorem EO (hT:TabOk P C) (h:Sim g N s a w φ) (hd:Nat.add (o.dst.getD 0) C.off≠base) {ty:TypeId} (ho:o.op=.makeMap ty none) (hop:opW C o s K):nL P g N o a w K:=by
 simp only[opW,ho] at hop
 unfold Fy at hop
 split at hop
 case h_2=>exact hop.elim
 rename_i k e u sz by_ hl
 have hS:=h.create hd (dP w (.map #[] 0)) (c:=none) (r:=some w.heap.size) (blk:=.map k u []) (by simp) (fun b hb=>by cases hb;exact⟨by simp,.inl (Nat.le_refl _)⟩) (fun L=>⟨⟨w.heap.size,#[],0,rfl,heap_alloc_new w _,trivial⟩,rfl⟩)
 refine⟨.map (some w.heap.size),_,_,_,_,.inl ?_,hop,hS,?_,dP w _⟩
 ·simp[execOp,ho,Instr.makeMap]
 ·simp only[aj]
  exact fun _ _=>⟨w.heap.size,by simp[lN,bf],rfl⟩
theorem wK (hT:TabOk P C) (h:Sim g N s a w φ) {ty:TypeId} {m k:Operand} {K:(u:Ty)->List (Int×u.D)->Int->(List (Int×u.D)->St)->Prop} (hop:Ij C ty (eval s.env m) (eval s.env k) s K) :
  ∃kk e u kt id xs n b es clock,P.underlying ty=some (.map kt e)/\P.underlying kt=some (.int kk)/\(∀w,(zeroValue e).run P w=.ok (mkv u (bn u)) w)/\lookup s.hp id=some (.map kk u xs)/\id≠base/\a.eval m=.map (some b)/\a.eval k=.int kk n/\φ id=some b ∧
   w.heap[b]? = some (.map es clock)/\gU w (imm g φ s.hp w.heap.size) kk u xs es.toList/\K u xs n (fun ys=>s.setBlock id (.map kk u ys)):=by
 have hm:=h.eval m
 have hk:=h.eval k
 unfold Ij at hop
 split at hop
 case h_2=>exact hop.elim
 rename_i kk e u sz by_ hl
 obtain⟨kt,t1,t2,t3⟩:=hT.mp _ _ _ _ _ _ hl
 split at hop
 case h_2=>exact hop.elim
 rename_i id em
 split at hop
 case h_2=>exact hop.elim
 rename_i k' u' xs hx
 split at hop
 case h_2=>exact hop.elim
 rename_i hu _
 cases hu
 split at hop
 case h_2=>exact hop.elim
 rename_i k2 n ek
 cases hb:(decide (k2=kk)&&(decide (k'=kk)&&!Nat.beq id base)) with
 | false=>rw[hb] at hop;exact hop.elim
 | true=>
  rw[hb] at hop
  simp only[Bool.and_eq_true,decide_eq_true_eq,Bool.not_eq_true'] at hb
  obtain⟨rfl,rfl,hib⟩:=hb
  rw[em] at hm
  rw[ek] at hk
  simp only[aj] at hm hk
  obtain⟨b,hφ,hmv⟩:=hm _ hx
  obtain⟨cs,hr,hkv⟩:=hk
  cases hr
  obtain⟨⟨b',es,clock,hφ',hg,hrep⟩,hsub⟩:=h.blocks _ _ hx
  rw[hφ] at hφ'
  cases hφ'
  exact⟨_,e,u,kt,id,xs,n,b,es,clock,t1,t2,t3,hx,fun e=>by rw[e] at hib;simp at hib,hmv,by simpa [mkv,Ty.agg] using hkv,hφ,hg,hrep,hop⟩
theorem run_findKey {I:Nat->Prop} {kt:TypeId} {k:IntKind} {u:Ty} {xs:List (Int×u.D)} {es:Array MapEntry} {n:Int} (hk:P.underlying kt=some (.int k)) (hrep:gU w I k u xs es.toList) :
  ∃r,(Instr.findKey kt (.int k n) es.toList).run P w=.ok r w/\((nN xs n 0=none/\r=none)\/∃j x v cs,nN xs n 0=some (j,x)/\r=some (j,v)/\Rep w I u x cs/\v=mkv u cs):=by
 obtain⟨r,h1,h2⟩:=DM (n:=n) 0 hrep
 exact⟨r,by simp[Instr.findKey,run_underlying hk,h1],h2⟩
theorem run_checkKey {kt:TypeId} {k:IntKind} {n:Int} {e:Bool} (hk:P.underlying kt=some (.int k)):(Instr.checkKey e 10000 kt (.int k n)).run P w=.ok () w:=by
 unfold Instr.checkKey
 simp[run_underlying hk]
theorem Gt (hT:TabOk P C) (h:Sim g N s a w φ) {ty:TypeId} {m k:Operand} {c:Bool} (ho:o.op=.lookup ty m k c) (hop:opW C o s K):nL P g N o a w K:=by
 simp only[opW,ho] at hop
 unfold Fp at hop
 obtain⟨kk,e,u,kt,id,xs,n,b,es,clock,t1,t2,t3,hx,_,em,ek,hφ,hg,hrep,hK⟩:=wK hT h hop
 obtain⟨r,hf,hr⟩:=run_findKey (n:=n) t2 hrep
 have hval:∃cs,Rep w (imm g φ s.hp w.heap.size) u (FD u xs n) cs/\(Instr.lookup ty (.map (some b)) (.int kk n) c).run P w=.ok (if c then .tuple #[mkv u cs,.bool (IS xs n)] else mkv u cs) w:=by
  have hmf:=Bt xs n 0
  unfold FD IS
  rcases hr with⟨h1,rfl⟩ | ⟨j,x,v,cs,h1,rfl,h2,rfl⟩
  ·rw[h1] at hmf
   rw[<-hmf]
   refine⟨_,ni w _ u,?_⟩
   simp[Instr.lookup,run_underlying t1,MapKept.run_getObj_map hg,run_checkKey t2,hf,t3 w]
  ·rw[h1] at hmf
   rw[<-hmf]
   refine⟨cs,h2,?_⟩
   simp[Instr.lookup,run_underlying t1,MapKept.run_getObj_map hg,run_checkKey t2,hf]
 obtain⟨cs,hrp,hrun⟩:=hval
 have hex:(execOp a.eval o).run P w=.ok (.value (if c then .tuple #[mkv u cs,.bool (IS xs n)] else mkv u cs)) w:=by
  simp[execOp,ho,em,ek,hrun]
 cases c with
 | true=>
  refine⟨_,w,_,_,_,.inl hex,hK,h,?_,Turn.refl w none⟩
  simp only[aj,aq]
  exact⟨[_,_],rfl,_,_,rfl,⟨cs,hrp,rfl⟩,_,_,rfl,⟨[_],rfl,rfl⟩,rfl⟩
 | false=>
  refine⟨_,w,_,_,_,.inl hex,hK,h,?_,Turn.refl w none⟩
  simp only[aj]
  exact⟨cs,hrp,rfl⟩
theorem Bm (w:World) (b:Nat) (o:Obj):Turn w { w with heap:=w.heap.setIfInBounds b o } (some b):=
 ⟨rfl,rfl,rfl,by simp,fun x _ hx=>by
  simp only[Array.getElem?_setIfInBounds]
  rw[if_neg (fun e=>hx (by rw[e]))]⟩
theorem Di {w:World} {b:Nat} {o o':Obj} (h:w.heap[b]? = some o):({ w with heap:=w.heap.setIfInBounds b o' }:World).heap[b]? = some o':=by
 have hlt:=(Array.getElem?_eq_some_iff.1 h).1
 simp[hlt]
theorem Sim.Ig (h:Sim g N s a w φ) {id b:Nat} {k:IntKind} {u:Ty} {xs ys:List (Int×u.D)} {es es':Array MapEntry} {clock clock':Nat} (hx:lookup s.hp id=some (.map k u xs)) (hφ:φ id=some b) (hg:w.heap[b]? = some (.map es clock))
  (hr:gU w (imm g φ s.hp w.heap.size) k u ys es'.toList):Sim g N (s.setBlock id (.map k u ys)) a { w with heap:=w.heap.setIfInBounds b (.map es' clock') } φ:=
 h.Hw (Bm w b _) hx (fun _ _ _ e=>by cases e) (h.blocks id _ hx).2 hφ (fun cur e q=>by rw[hg] at q;cases q) (fun L=>⟨⟨b,es',clock',rfl,Di hg,hr.mono L.imm L.immSame⟩,rfl⟩)
theorem Gw {k:IntKind} {n:Int} (w:World):(Instr.keyThatStays (.int k n) (.int k n)).run P w=.ok (.int k n) w:=by
 simp[Instr.keyThatStays,Instr.sameBits]
theorem Br (hT:TabOk P C) (h:Sim g N s a w φ) {ty:TypeId} {m k v:Operand} (ho:o.op=.insert ty m k v\/o.op=.mapUpdate ty m k v) (hop:opW C o s K):ya P g N o a w K:=by
 have hop:yJ C ty (eval s.env m) (eval s.env k) (eval s.env v) s K:=by rcases ho with ho | ho<;>simpa only[opW,ho] using hop
 unfold yJ at hop
 obtain⟨kk,e,u,kt,id,xs,n,b,es,clock,t1,t2,t3,hx,_,em,ek,hφ,hg,hrep,hK⟩:=wK hT h hop
 obtain⟨x,hc,hK⟩:=aK hK
 obtain⟨cs,hxr,hv⟩:=HM (h.eval v) hc
 obtain⟨r,hf,hr⟩:=run_findKey (n:=n) t2 hrep
 obtain⟨p1,p2⟩:=Fs (n:=n) hxr (clock:=clock) 0 hrep
 have hval:∃es' clock',(Instr.mapUpdate ty (.map (some b)) (.int kk n) (mkv u cs)).run P w=.ok () { w with heap:=w.heap.setIfInBounds b (.map es' clock') }/\gU w (imm g φ s.hp w.heap.size) kk u (Gb xs n x) es'.toList:=by
  rcases hr with⟨h1,rfl⟩ | ⟨j,y,v',cs',h1,rfl,h2,rfl⟩
  ·refine⟨es.push ⟨.int kk n,mkv u cs,clock⟩,clock+1,?_,by simpa using p1 h1⟩
   simp[Instr.mapUpdate,run_underlying t1,MapKept.run_getObj_map hg,run_checkKey t2,hf,MapKept.run_setObj_map _ hg]
  ·obtain⟨_,q1,q2⟩:=p2 j y h1
   simp only[Nat.sub_zero] at q1 q2
   refine⟨es.modify j fun e=>{ e with key:=.int kk n,val:=mkv u cs },clock,?_,by simpa using q2⟩
   have hkey:((es[j]?).map (·.key)).getD (.int kk n)=.int kk n:=by
    have:(es[j]?).map (·.key)=some (.int kk n):=by simpa using q1
    rw[this];rfl
   simp[Instr.mapUpdate,run_underlying t1,MapKept.run_getObj_map hg,run_checkKey t2,hf,hkey,Gw,MapKept.run_setObj_map _ hg]
 obtain⟨es',clock',hrun,hm⟩:=hval
 refine⟨undef,_,_,_,φ,.inr ⟨?_,rfl⟩,hK,h.Ig (clock':=clock') hx hφ hg hm,by simp[aj]⟩
 rcases ho with ho | ho<;>simp[execOp,ho,em,ek,hv,hrun]
theorem GI (hT:TabOk P C) (h:Sim g N s a w φ) {c:Call} (ho:o.op=.call c) (hc:c.callee=.builtin .delete) {m k:Operand} {ty kty:TypeId} (e1:c.args.toList=[m,k]) (e2:c.argTypes.toList=[ty,kty])
  (hop:CG C ty (eval s.env m) (eval s.env k) s K):ya P g N o a w K:=by
 unfold CG at hop
 obtain⟨kk,e,u,kt,id,xs,n,b,es,clock,t1,t2,t3,hx,_,em,ek,hφ,hg,hrep,hK⟩:=wK hT h hop
 obtain⟨r,hf,hr⟩:=run_findKey (n:=n) t2 hrep
 obtain⟨p1,p2⟩:=FH (n:=n) 0 hrep
 have ha:c.args=#[m,k]:=by apply Array.ext';simpa using e1
 have ht:c.argTypes=#[ty,kty]:=by apply Array.ext';simpa using e2
 have hval:∃es',(Builtin.delete_ #[ty,kty] o.type #[.map (some b),.int kk n]).run P w=.ok (.tuple #[]) { w with heap:=w.heap.setIfInBounds b (.map es' clock) }/\gU w (imm g φ s.hp w.heap.size) kk u (Gx xs n) es'.toList:=by
  rcases hr with⟨h1,rfl⟩ | ⟨j,y,v',cs',h1,rfl,h2,rfl⟩
  ·refine⟨es,?_,by rw[p1 h1];exact hrep⟩
   simp[Builtin.delete_,run_underlying t1,MapKept.run_getObj_map hg,run_checkKey t2,hf,MapKept.run_setObj_map _ hg]
  ·obtain⟨_,q2⟩:=p2 j y h1
   simp only[Nat.sub_zero] at q2
   refine⟨es.eraseIdxIfInBounds j,?_,?_⟩
   ·simp[Builtin.delete_,run_underlying t1,MapKept.run_getObj_map hg,run_checkKey t2,hf,MapKept.run_setObj_map _ hg]
   ·have:(es.eraseIdxIfInBounds j).toList=es.toList.eraseIdx j:=by
     unfold Array.eraseIdxIfInBounds
     split
     ·simp
     ·rename_i hj
      rw[List.eraseIdx_of_length_le (by simpa using hj)]
    rw[this]
    exact q2
 obtain⟨es',hrun,hm⟩:=hval
 refine⟨.tuple #[],_,_,_,φ,.inl ?_,hK,h.Ig (clock':=clock) hx hφ hg hm,by simp[aj]⟩
 simp[execOp,ho,resolve,hc,invoke,builtin,ha,ht,em,ek,hrun]
end
end Go.AE
