/- The operations, one by one: cuts, new blocks, stores. Third part. -/
import Derived.Test.YtmkgiaecgkicoaaGreatAeOpB
section
namespace Go.AE
open Go Go.RowKit
section
variable {P:Program} {C:Ctx} {g:Gl} {N:Nat} {o:Oper} {s:St} {a:Act} {w:World} {φ:Names} {K:AV->St->Prop}
theorem Ty.kU {t t':Ty} (h:Ty.same t t'=true):t=t':=by
 unfold Ty.same at h
 split at h
 ·rename_i hh _;exact hh.down
 ·cases h
theorem rA {w:World} {I S:Nat->Prop} {φ:Names} {hp:Hp} {v:AV} {u:Value} {n:Int} (hv:ak w I S φ hp v u) (h:jP v=some n):∃k,u=.int k n:=by
 unfold jP at h
 split at h
 ·cases h;exact⟨_,jh hv⟩
 ·cases h
theorem ia {isSlice:Bool} {len cap:Nat} {lo hi mx:Option AV} {vlo vhi vmx:Option Value} {Q:Int->Int->Prop} {w:World} {I S:Nat->Prop} {φ:Names} {hp:Hp}
  (hlo:∀v,lo=some v->∃u,vlo=some u/\ak w I S φ hp v u) (nlo:lo=none->vlo=none)
  (hhi:∀v,hi=some v->∃u,vhi=some u/\ak w I S φ hp v u) (nhi:hi=none->vhi=none)
  (hmx:∀v,mx=some v->∃u,vmx=some u/\ak w I S φ hp v u) (nmx:mx=none->vmx=none)
  (hmh:mx≠none->hi≠none)
  (hc:len<=cap) (h:Be (len:Int) lo hi mx Q) :
  ∃l r m:Nat,(∀w:World,(Instr.sliceBounds isSlice len cap vlo vhi vmx).run P w=.ok (l,r,m) w)/\Q l r/\l<=r/\r<=len/\r<=m/\m<=cap/\(mx=none->m=cap):=by
 unfold Be at h
 obtain⟨l,el,h⟩:=aJ h
 obtain⟨r,er,h⟩:=aJ h
 obtain⟨m,em,h0,h1,h2,h3,hQ⟩:=aJ h
 rw[h3] at em
 have hr0:0<=r:=by omega
 have e1:((l.toNat:Nat):Int)=l:=by omega
 have e2:((r.toNat:Nat):Int)=r:=by omega
 have bnd:∀{k:IntKind} {n:Int} {y:Nat} {c:BoundsCode},0<=n->n<=y->(∀w:World,(Instr.sliceBound (.int k n) y c).run P w=.ok n.toNat w):=by
  intro k n y c h0 h1 w
  simp[Instr.sliceBound,asIntOf,h0,h1]
 cases mx with
 | none=>
  have emx:=nmx rfl
  cases hi with
  | none=>
   have ehi:=nhi rfl
   simp only[Option.some.injEq] at er
   cases lo with
   | none=>
    have elo:=nlo rfl
    simp only[Option.some.injEq] at el
    refine⟨0,len,cap,?_,?_,by omega,Nat.le_refl _,hc,Nat.le_refl _,fun _=>rfl⟩
    ·intro w
     simp[Instr.sliceBounds,emx,ehi,elo]
    ·have:(((0:Nat):Int))=l:=by omega
     rw[this,er];exact hQ
   | some v=>
    obtain⟨u,eu,hu⟩:=hlo v rfl
    obtain⟨k,rfl⟩:=rA hu el
    refine⟨l.toNat,len,cap,?_,?_,by omega,Nat.le_refl _,hc,Nat.le_refl _,fun _=>rfl⟩
    ·have:=bnd (k:=k) (n:=l) (y:=len) (c:=.sliceB) h0 (by omega)
     intro w
     simp[Instr.sliceBounds,emx,ehi,eu,this w]
    ·rw[e1,er];exact hQ
  | some vh=>
   obtain⟨uh,euh,huh⟩:=hhi vh rfl
   obtain⟨kh,rfl⟩:=rA huh er
   have bh:∀c,∀w:World,(Instr.sliceBound (.int kh r) cap c).run P w=.ok r.toNat w:=fun c=>bnd hr0 (by omega)
   cases lo with
   | none=>
    have elo:=nlo rfl
    simp only[Option.some.injEq] at el
    refine⟨0,r.toNat,cap,?_,?_,by omega,by omega,by omega,Nat.le_refl _,fun _=>rfl⟩
    ·intro w
     simp[Instr.sliceBounds,emx,euh,elo,bh]
    ·have:(((0:Nat):Int))=l:=by omega
     rw[this,e2];exact hQ
   | some v=>
    obtain⟨u,eu,hu⟩:=hlo v rfl
    obtain⟨k,rfl⟩:=rA hu el
    refine⟨l.toNat,r.toNat,cap,?_,?_,by omega,by omega,by omega,Nat.le_refl _,fun _=>rfl⟩
    ·have:=bnd (k:=k) (n:=l) (y:=r.toNat) (c:=.sliceB) h0 (by omega)
     intro w
     simp[Instr.sliceBounds,emx,euh,eu,bh,this w]
    ·rw[e1,e2];exact hQ
 | some vm=>
  obtain⟨um,eum,hum⟩:=hmx vm rfl
  obtain⟨km,rfl⟩:=rA hum em
  have bm:∀c,∀w:World,(Instr.sliceBound (.int km r) cap c).run P w=.ok r.toNat w:=fun c=>bnd hr0 (by omega)
  cases hi with
  | none=>exact absurd rfl (hmh (by simp))
  | some vh=>
   obtain⟨uh,euh,huh⟩:=hhi vh rfl
   obtain⟨kh,rfl⟩:=rA huh er
   have bh:∀c,∀w:World,(Instr.sliceBound (.int kh r) r.toNat c).run P w=.ok r.toNat w:=fun c=>bnd hr0 (by omega)
   cases lo with
   | none=>
    have elo:=nlo rfl
    simp only[Option.some.injEq] at el
    refine⟨0,r.toNat,r.toNat,?_,?_,by omega,by omega,by omega,by omega,by simp⟩
    ·intro w
     simp[Instr.sliceBounds,eum,euh,elo,bh,bm]
    ·have:(((0:Nat):Int))=l:=by omega
     rw[this,e2];exact hQ
   | some v=>
    obtain⟨u,eu,hu⟩:=hlo v rfl
    obtain⟨k,rfl⟩:=rA hu el
    refine⟨l.toNat,r.toNat,r.toNat,?_,?_,by omega,by omega,by omega,by omega,by simp⟩
    ·have:=bnd (k:=k) (n:=l) (y:=r.toNat) (c:=.slice3C) h0 (by omega)
     intro w
     simp[Instr.sliceBounds,eum,euh,eu,bh,bm,this w]
    ·rw[e1,e2];exact hQ
theorem xx {α:Type} (xs:List α) {l r:Nat} (h:l<=r) (h2:r<=xs.length):(aj xs (some ((l:Int),(r:Int)))).length=r-l:=by
 simp[aj];omega
theorem Eb {α:Type} {xs:List α} {l r:Nat} (h:xs=[]):aj xs (some ((l:Int),(r:Int)))=[]:=by
 subst h;simp[aj]
theorem dj.cut {w:World} {I T:Nat->Prop} {t:Ty} {xs:List t.D} {A:Option Addr} {c l r m:Nat} (_:xs.length<=c)
  (hz:xs=[]\/∃b o k,A=some ⟨b,o,none⟩/\T b/\Cells w b o k/\cK (Rep w I t) xs k) (h1:l<=r) (h2:r<=xs.length) (h3:r<=m) (_:m<=c) :
  dj w I T t (aj xs (some ((l:Int),(r:Int)))) (.slice (if m=l then A else A.map (·.add (l * t.size))) (r-l) (m-l)):=by
 refine⟨_,m-l,by rw[xx xs h1 h2],by rw[xx xs h1 h2];omega,?_⟩
 rcases hz with hz | ⟨b,o,k,rfl,hT,hc,hl⟩
 ·exact .inl (Eb hz)
 ·by_cases hml:m=l
  ·left
   have:r=l:=by omega
   subst this
   simp[aj]
  ·rw[if_neg hml]
   refine .inr ⟨b,o+l * t.size,_,by simp[iq],hT,?_,rj hl (l:Int) (r:Int)⟩
   have:=(hc.drop (l * t.size)).take (((r:Int)-(l:Int)).toNat * t.size)
   simpa using this
theorem xh (h:Sim g N s a w φ) (x:Option Operand):(∀v,me s.env x=some v->∃u,x.map a.eval=some u/\ak w (imm g φ s.hp w.heap.size) (aM g) φ s.hp v u)/\(me s.env x=none->x.map a.eval=none):=by
 cases x with
 | none=>exact⟨fun v hv=>by simp[me] at hv,fun _=>rfl⟩
 | some y=>exact⟨fun v hv=>by simp[me] at hv;subst hv;exact⟨_,rfl,h.eval y⟩,fun hv=>by simp[me] at hv⟩
theorem BG {w:World} {e:TypeId} {size n r c:Nat} {A:Option Addr} {l:List Value} (h:w.rowOf 0 e size (.slice A n c) n l) (hr:r<=n) :
  w.rowOf 0 e size (.slice A r c) r (l.take (r * size)):=by
 rcases h with⟨hl,⟨e1,h0⟩ | ⟨g,cap,cur,e1,hb,hg,hn,hc,hs,ht⟩⟩
 ·cases e1
  have:r=0:=by omega
  subst this
  exact⟨by simp,.inl ⟨rfl,rfl⟩⟩
 ·cases e1
  have hle:r * size<=n * size:=Nat.mul_le_mul_right _ hr
  refine⟨by rw[List.length_take,hl];omega,.inr ⟨g,c,cur,rfl,hb,hg,by omega,hc,hs,?_⟩⟩
  rw[<-ht,List.take_take]
  congr 1
  omega
theorem iy.shape {w:World} {r:Option Nat} {t:Ty} {n:Nat} {u:Value} (h:iy w r t n none u) :
  ∃A c,u=.slice A n c/\n<=c/\((A=none/\n=0)\/∃b,A=some ⟨b,0,none⟩/\r=some b)/\∃e l,w.rowOf 0 e t.size (.slice A n c) n l/\(Value.slice A n c).ownBlock=r:=by
 obtain⟨e,l,hr,hb⟩:=h
 have hr':=hr
 rcases hr with⟨_,⟨e1,h0⟩ | ⟨g,cap,cur,e1,_,_,hn,_⟩⟩
 ·subst e1
  subst h0
  exact⟨none,0,rfl,Nat.le_refl _,.inl ⟨rfl,rfl⟩,e,l,hr',hb⟩
 ·subst e1
  exact⟨_,cap,rfl,hn,.inr ⟨g,rfl,hb.symm⟩,e,l,hr',hb⟩
theorem iy.cut {w:World} {rb:Option Nat} {t:Ty} {n:Nat} {A:Option Addr} {c l r:Nat} (h:iy w rb t n none (.slice A n c)) (h1:l<=r) (h2:r<=n) :
  iy w rb t n (some ((l:Int),(r:Int))) (.slice (if c=l then A else A.map (·.add (l * t.size))) (r-l) (c-l)):=by
 obtain⟨A',c',e1,hc,hA,e,k,ho,hb⟩:=h.shape
 cases e1
 refine⟨by omega,by omega,by omega,_,c-l,by congr 1;omega,by omega,fun h0=>?_,fun hlt=>?_⟩
 ·have:l=0:=by omega
  subst this
  have hA2:(if c=0 then A else A.map (·.add (0 * t.size)))=A:=by
   split
   ·rfl
   ·cases A<;>simp[Addr.add]
  rw[hA2]
  have hr:((r:Int)).toNat=r:=by omega
  rw[hr]
  refine⟨e,_,BG ho h2,?_⟩
  rw[<-hb]
  cases A<;>rfl
 ·rcases hA with⟨_,h0⟩ | ⟨b,hA,hrb⟩
  ·omega
  ·refine⟨b,hrb,?_⟩
   rw[if_neg (by omega),hA]
   simp[iq]
theorem iy.Lz {w:World} {rb:Option Nat} {t:Ty} {n:Nat} {A:Option Addr} {p q:Int} {m c l r:Nat} (h:iy w rb t n (some (p,q)) (.slice A m c)) (h1:l<=r) (h2:(r:Int)<=q-p) :
  iy w rb t n (some (p+l,p+r)) (.slice (if c=l then A else A.map (·.add (l * t.size))) (r-l) (c-l)):=by
 obtain⟨g1,g2,g3,A',c',e1,hc,g4,g5⟩:=h
 cases e1
 refine⟨by omega,by omega,by omega,_,c-l,by congr 1;omega,by omega,fun h0=>?_,fun hlt=>?_⟩
 ·have hp:p=0:=by omega
  have hl:l=0:=by omega
  subst hl
  obtain⟨e,k,ho,hb⟩:=g4 hp
  have hA2:(if c=0 then A else A.map (·.add (0 * t.size)))=A:=by
   split
   ·rfl
   ·cases A<;>simp[Addr.add]
  rw[hA2]
  have hr:((p+r:Int)).toNat=r:=by omega
  have hq:(q-p).toNat=q.toNat:=by omega
  rw[hr]
  rw[hq] at ho hb
  refine⟨e,_,BG ho (by omega),?_⟩
  rw[<-hb]
  cases A<;>rfl
 ·obtain⟨b,hrb,hA⟩:=g5 (by omega)
  refine⟨b,hrb,?_⟩
  rw[if_neg (by omega),hA]
  have:(p+(l:Int)).toNat=p.toNat+l:=by omega
  simp[iq,this,Nat.add_mul]
theorem Ia (hT:TabOk P C) (h:Sim g N s a w φ) {ty:TypeId} {x:Operand} {lo hi mx:Option Operand} (ho:o.op=.slice ty x lo hi mx) (hop:opW C o s K) :
  cq P g N o a w K:=by
 have hx:=h.eval x
 obtain⟨hlo,nlo⟩:=xh h lo
 obtain⟨hhi,nhi⟩:=xh h hi
 obtain⟨hmx,nmx⟩:=xh h mx
 simp only[opW,ho] at hop
 have hmh:mx≠none->hi≠none:=by
  rintro h1 rfl
  cases mx with
  | none=>exact h1 rfl
  | some y=>exact hop
 have hop:Fe C ty (eval s.env x) (me s.env lo) (me s.env hi) (me s.env mx) s K:=by
  cases hq:Kd hi mx with
  | true=>rw[hq] at hop;exact hop
  | false=>rw[hq] at hop;exact hop.elim
 have hmh':me s.env mx≠none->me s.env hi≠none:=by
  intro h1 h2
  refine hmh (fun e=>h1 (by rw[e];rfl)) ?_
  cases hi with
  | none=>rfl
  | some v=>simp[me] at h2
 unfold Fe at hop
 split at hop
 ·rename_i e1
  have h1:=hT.str _ _ _ e1
  split at hop
  ·rename_i b e2 e3
   rw[e2] at hx
   have hx:=pP hx
   obtain⟨l,r,m,hb,hQ,q1,q2,q3,q4,q5⟩:=ia (P:=P) (isSlice:=false) (vmx:=none) (mx:=none) (w:=w) (I:=imm g φ s.hp w.heap.size) (S:=aM g) (φ:=φ) (hp:=s.hp) hlo nlo hhi nhi (by simp) (by simp) (by simp) (Nat.le_refl _) hop
   have emx:mx=none:=by
    cases mx with
    | none=>rfl
    | some y=>simp[me] at e3
   subst emx
   have hl:((l:Int)).toNat=l:=by omega
   have hr:((r:Int)).toNat=r:=by omega
   rw[hl,hr] at hQ
   refine cq.same h (u:=.string (b.extract l r)) ?_ hQ (uS ..)
   intro w' _
   simp only[execOp,ho,Instr.sliceAt,Instr.slice,hx,Sem.run_bind,run_underlying h1,Result.andThen_ok]
   simp[hb w']
  ·exact hop.elim
 ·rename_i e t' _ _ e1
  obtain⟨h1,h2⟩:=hT.sl _ _ _ _ _ e1
  have hf:=hT.ty _ _ h2
  have hexec:∀{A:Option Addr} {n c l r m:Nat},a.eval x=.slice A n c->(∀w:World,(Instr.sliceBounds true n c (lo.map a.eval) (hi.map a.eval) (mx.map a.eval)).run P w=.ok (l,r,m) w) →
    ∀w',Turn w w' none->(execOp a.eval o).run P w'=.ok (.value (.slice (if m=l then A else A.map (·.add (l * t'.size))) (r-l) (m-l))) w':=by
   intro A n c l r m hx hb w' _
   simp only[execOp,ho,Instr.sliceAt,Instr.slice,hx,Sem.run_bind,run_underlying h1,Result.andThen_ok,hb w',pL hf]
   rfl
  split at hop
  ·rename_i t xs e2
   rw[e2] at hx
   cases hs:Ty.same t t' with
   | false=>simp[hs] at hop
   | true=>
    simp only[hs,cond_true] at hop
    have:=Ty.kU hs
    subst this
    simp only[ak] at hx
    obtain⟨A,c,e3,hc,hz⟩:=dj.sN hx
    obtain⟨l,r,m,hb,hQ,q1,q2,q3,q4,q5⟩:=ia (P:=P) (isSlice:=true) hlo nlo hhi nhi hmx nmx hmh' hc hop
    refine cq.same h (hexec e3 hb) hQ ?_
    simp only[ak]
    exact dj.data (dj.cut hc hz q1 q2 q3 q4)
  ·rename_i t xs e2
   rw[e2] at hx
   cases hs:Ty.same t t' with
   | false=>simp[hs] at hop
   | true=>
    simp only[hs,cond_true] at hop
    have:=Ty.kU hs
    subst this
    simp only[ak] at hx
    obtain⟨A,c,e3,hc,hz⟩:=hx
    obtain⟨l,r,m,hb,hQ,q1,q2,q3,q4,q5⟩:=ia (P:=P) (isSlice:=true) hlo nlo hhi nhi hmx nmx hmh' hc hop
    refine cq.same h (hexec e3 hb) hQ ?_
    simp only[ak]
    exact dj.cut hc hz q1 q2 q3 q4
  ·rename_i e2
   rw[e2] at hx
   simp only[ak] at hx
   obtain⟨l,r,m,hb,hQ,q1,q2,q3,q4,q5⟩:=ia (P:=P) (isSlice:=true) (len:=0) (cap:=0) hlo nlo hhi nhi hmx nmx hmh' (Nat.le_refl _) hop
   refine cq.same h (hexec hx hb) hQ ?_
   simp only[ak]
   have:r-l=0:=by omega
   have:m-l=0:=by omega
   simp[*]
  ·rename_i id cut e2
   rw[e2] at hx
   split at hop
   ·rename_i d t xs hl
    cases hs:Ty.same t t' with
    | false=>simp[hs] at hop
    | true=>
     simp only[hs,cond_true] at hop
     have:=Ty.kU hs
     subst this
     simp only[ak] at hx
     obtain⟨d2,t2,xs2,e3,hown⟩:=hx _ hl
     cases e3
     split at hop
     ·rename_i emx
      split at hop
      ·obtain⟨A,c,e4,hc,_⟩:=hown.shape
       obtain⟨l,r,m,hb,hQ,q1,q2,q3,q4,q5⟩:=ia (P:=P) (isSlice:=true) (mx:=none) (vmx:=mx.map a.eval) hlo nlo hhi nhi (by simp) (fun _=>nmx emx) (by simp) hc hop
       have hm:=q5 rfl
       subst hm
       refine cq.same h (hexec e4 hb) hQ ?_
       simp only[ak]
       intro blk hbl
       rw[hl] at hbl
       cases hbl
       rw[e4] at hown
       exact⟨d,t,xs,rfl,hown.cut q1 q2⟩
      ·rename_i p q
       have hown':=hown
       obtain⟨g1,g2,g3,A,c,e4,hc,_⟩:=hown
       have hlen:(((q-p).toNat:Nat):Int)=q-p:=by omega
       rw[<-hlen] at hop
       obtain⟨l,r,m,hb,hQ,q1,q2,q3,q4,q5⟩:=ia (P:=P) (isSlice:=true) (mx:=none) (vmx:=mx.map a.eval) hlo nlo hhi nhi (by simp) (fun _=>nmx emx) (by simp) hc hop
       have hm:=q5 rfl
       subst hm
       refine cq.same h (hexec e4 hb) hQ ?_
       simp only[ak]
       intro blk hbl
       rw[hl] at hbl
       cases hbl
       rw[e4] at hown'
       exact⟨d,t,xs,rfl,hown'.Lz q1 (by omega)⟩
     ·rename_i vm emx
      have hmhi:me s.env hi≠none:=hmh' (by rw[emx];simp)
      cases hdp:C.deep with
      | true=>
       rw[hdp] at hop
       simp only[cond_true] at hop
       split at hop
       case h_2=>exact hop.elim
       obtain⟨A,c,e4,hc,_⟩:=hown.shape
       obtain⟨l,r,m,hb,hQ,q1,q2,q3,q4,q5⟩:=ia (P:=P) (isSlice:=true) (mx:=some vm) hlo nlo hhi nhi (by rw[<-emx];exact hmx) (by simp) (fun _=>hmhi) hc hop
       obtain⟨hl0,hQ⟩:=hQ
       have hl0:l=0:=by omega
       subst hl0
       refine cq.same h (hexec e4 hb) hQ ?_
       have hA:(if m=0 then A else A.map (·.add (0 * t.size)))=A:=by
        split
        ·rfl
        ·cases A with
         | none=>rfl
         | some ad=>simp[Addr.add]
       cases hof:Nat.beq C.off 500000 with
       | true=>
        simp only[cond_true,ak]
        intro blk hbl
        rw[hl] at hbl
        cases hbl
        refine⟨d,t,xs,rfl,by omega,by omega,by omega,A,m,by rw[hA];simp,by omega,fun _=>?_,fun hlt=>?_⟩
        ·obtain⟨e',l',ho,hbk⟩:=hown
         rcases ho.2 with⟨e6,h0⟩ | ⟨gg,cap,cur,e6,hb0,hg,hn,hcm,hcs,htk⟩
         ·rw[e6] at hbk e4
          obtain⟨rfl,hn0,rfl⟩:none=A/\0=xs.length/\0=c:=by simpa using e4
          have:m=0:=by omega
          subst this
          refine⟨e',[],⟨?_,.inl ⟨?_,?_⟩⟩,?_⟩
          ·have:(r:Int).toNat=0:=by omega
           rw[this];simp
          ·have:r=0:=by omega
           subst this
           rfl
          ·omega
          ·rw[<-hbk];rfl
         ·rw[e6] at hbk e4
          cases e4
          have hm2:m<=c:=by omega
          have hrm:(r:Int).toNat<=m:=by omega
          have hsz:(r:Int).toNat * t.size<=cur.toList.length:=by
           rw[Array.length_toList]
           exact Nat.le_trans (Nat.mul_le_mul_right _ (Nat.le_trans hrm hm2)) hcs
          refine⟨e',cur.toList.take ((r:Int).toNat * t.size),⟨by rw[List.length_take];omega,.inr ⟨gg,m,cur,?_,hb0,hg,hrm,by omega,Nat.le_trans (Nat.mul_le_mul_right _ hm2) hcs,rfl⟩⟩,?_⟩
          ·rw[hA];simp
          ·rw[<-hbk,hA];rfl
        ·obtain⟨e',l',ho,hbk⟩:=hown
         rcases ho.2 with⟨e6,h0⟩ | ⟨gg,cap,cur,e6,_⟩
         ·omega
         ·rw[e6] at hbk e4
          cases e4
          exact⟨gg,hbk.symm,by simp⟩
       | false=>
       simp only[cond_false,ak]
       intro blk hbl
       rw[hl] at hbl
       cases hbl
       refine⟨d,t,xs,rfl,by omega,by omega,?_⟩
       obtain⟨e',l',ho,hbk⟩:=hown
       rcases ho.2 with⟨e6,h0⟩ | ⟨gg,cap,cur,e6,hb0,hg,hn,hcm,hcs,htk⟩
       ·rw[e6] at hbk e4
        obtain⟨rfl,hn0,rfl⟩:none=A/\0=xs.length/\0=c:=by simpa using e4
        have:m=0:=by omega
        subst this
        refine⟨e',[],⟨?_,.inl ⟨?_,?_⟩⟩,?_⟩
        ·have:(r:Int).toNat=0:=by omega
         rw[this];simp
        ·have:r=0:=by omega
         subst this
         rfl
        ·omega
        ·rw[<-hbk];rfl
       ·rw[e6] at hbk e4
        cases e4
        have hm2:m<=c:=by omega
        have hrm:(r:Int).toNat<=m:=by omega
        have hsz:(r:Int).toNat * t.size<=cur.toList.length:=by
         rw[Array.length_toList]
         exact Nat.le_trans (Nat.mul_le_mul_right _ (Nat.le_trans hrm hm2)) hcs
        refine⟨e',cur.toList.take ((r:Int).toNat * t.size),⟨by rw[List.length_take];omega,.inr ⟨gg,m,cur,?_,hb0,hg,hrm,by omega,Nat.le_trans (Nat.mul_le_mul_right _ hm2) hcs,rfl⟩⟩,?_⟩
        ·rw[hA];simp
        ·rw[<-hbk,hA];rfl
      | false=>
      rw[hdp] at hop
      simp only[cond_false] at hop
      obtain⟨y,hy,hop⟩:=aJ hop
      have hx':ak w (imm g φ s.hp w.heap.size) (aM g) φ s.hp (.own id cut) (a.eval x):=by
       simp only[ak]
       intro blk hbl
       rw[hl] at hbl
       cases hbl
       exact⟨d,t,xs,rfl,hown⟩
      obtain⟨hg,cs,hr,e4⟩:=h.iT hx' (show s.iT (.sl t) (.own id cut)=some (y.1,y.2) from hy)
      obtain⟨A,c,e5,hc,hz⟩:=dj.sN ⟨cs,hr,e4⟩
      obtain⟨l,r,m,hb,hQ,q1,q2,q3,q4,q5⟩:=ia (P:=P) (isSlice:=true) (mx:=some vm) hlo nlo hhi nhi (by rw[<-emx];exact hmx) (by simp) (fun _=>hmhi) hc hop
      refine⟨_,_,_,φ,hexec e5 hb,hQ,hg,?_⟩
      simp only[ak]
      exact dj.data (dj.cut hc hz q1 q2 q3 q4)
   ·exact hop.elim
  ·exact hop.elim
 ·exact hop.elim
end
end Go.AE
end
section
namespace Go.AE
open Go Go.RowKit
section
variable {P:Program} {C:Ctx} {g:Gl} {N:Nat} {s:St} {a:Act} {w:World} {φ:Names}
structure Handed (s s':St) (φ:Names) (B:List Nat):Prop where
 nodup:B.Nodup
 env:s'.env=s.env
 gone:gM s s'
 owner:∀b∈B,∃j blk,lookup s.hp j=some blk/\φ.eI j b/\lookup s'.hp j=none/\j≠base
 fH:∀j blk,lookup s'.hp j=some blk->lookup s.hp j=some blk
theorem Handed.refl (s:St) (φ:Names):Handed s s φ []:=⟨List.nodup_nil,rfl,gM.refl s,by simp,fun _ _ h=>h⟩
theorem Handed.sim (h:Sim g N s a w φ) {s':St} {B:List Nat} (k:Handed s s' φ B):Sim g N s' a w φ:=
 h.less (fun j v hj=>by rw[k.env] at hj;exact hj) k.fH
theorem Handed.trans (h:Sim g N s a w φ) {s1 s2:St} {B E:List Nat} (k:Handed s s1 φ B) (m:Handed s1 s2 φ E):Handed s s2 φ (B++E):=by
 refine⟨?_,m.env.trans k.env,k.gone.trans m.gone,?_,fun j blk hj=>k.fH j blk (m.fH j blk hj)⟩
 ·refine List.nodup_append.2 ⟨k.nodup,m.nodup,?_⟩
  rintro b hb c hc rfl
  obtain⟨j,blk,h1,h2,h3,_⟩:=k.owner b hb
  obtain⟨i,blk',q1,q2,_⟩:=m.owner b hc
  have:=h.inj j i _ _ b h1 (k.fH i _ q1) h2 q2
  subst this
  rw[h3] at q1
  cases q1
 ·intro b hb
  rcases List.mem_append.1 hb with hb | hb
  ·obtain⟨j,blk,h1,h2,h3,h4⟩:=k.owner b hb
   refine⟨j,blk,h1,h2,?_,h4⟩
   cases hq:lookup s2.hp j with
   | none=>rfl
   | some x=>have:=m.fH j x hq;rw[h3] at this;cases this
  ·obtain⟨j,blk,h1,h2,h3,h4⟩:=m.owner b hb
   exact⟨j,blk,k.fH j blk h1,h2,h3,h4⟩
theorem Handed.le (h:Sim g N s a w φ) {s':St} {B:List Nat} (k:Handed s s' φ B):∀b∈B,b<w.heap.size/\g.mine b:=by
 intro b hb
 obtain⟨j,blk,h1,h2,_,h4⟩:=k.owner b hb
 obtain⟨p1,p2⟩:=h.place j blk b h1 h2
 exact⟨p1,p2.resolve_right (fun q=>h4 q.2)⟩
theorem AD {t:Ty} {xs:List t.D} {v u:Value} {e e2:TypeId} {l lu:List Value} {r:Option Nat} {B:List Nat} (ho:w.rowOf 0 e t.size v xs.length l) (hb:v.ownBlock=r) (hl:bG (Tree w t) xs l B) (hd:B.Nodup)
  (hap:∀b,r=some b->b∉B) {m:Nat} (hm:m<=xs.length) (hu:w.rowOf 0 e2 t.size u m lu) (hub:u.ownBlock=r) :
  ∃E,Tree w (.sl t) (xs.take m) [u] E/\E.Nodup/\∀b∈E,r=some b\/b∈B:=by
 have hlen:(xs.take m).length=m:=by rw[List.length_take];omega
 rcases hu.2 with⟨rfl,h0⟩ | ⟨gg,cap2,cur2,rfl,_,hg2,hn2,hcap2,hs2,_⟩
 ·subst h0
  exact⟨[],⟨none,0,by simp,by simp,.inl ⟨by simp,rfl,rfl,rfl⟩⟩,List.nodup_nil,by simp⟩
 ·have hr:r=some gg:=by rw[<-hub];rfl
  rcases ho.2 with⟨rfl,_⟩ | ⟨g3,cap,cur,rfl,_,hg,hn,hcap,hs,ht⟩
  ·rw[hr] at hb;simp[Value.ownBlock] at hb
  ·have hgb:g3=gg:=by rw[hr] at hb;simpa [Value.ownBlock] using hb
   subst hgb
   rw[hg] at hg2
   cases hg2
   obtain⟨E,F,eE,h1⟩:=bG.take m hl
   refine⟨g3::E,⟨_,cap2,by rw[hlen],by rw[hlen];exact hn2,.inr ⟨g3,_,_,E,rfl,rfl,hg,?_,hcap2,hs2⟩⟩,?_,?_⟩
   ·rw[hlen]
    rw[<-ht,List.take_take] at h1
    have:min (m * t.size) (xs.length * t.size)=m * t.size:=Nat.min_eq_left (Nat.mul_le_mul_right _ hm)
    rw[this] at h1
    exact h1
   ·rw[eE] at hd
    refine List.nodup_cons.2 ⟨fun hin=>hap g3 hr (by rw[eE];exact List.mem_append_left _ hin),(List.nodup_append.1 hd).1⟩
   ·intro b hbm
    rcases List.mem_cons.1 hbm with rfl | hbm
    ·exact .inl hr
    ·exact .inr (by rw[eE];exact List.mem_append_left _ hbm)
theorem ic (s:St) (id j:Nat):lookup (s.drop id).hp j=if j=id then none else lookup s.hp j:=by
 simp only[St.drop,bf]
theorem Dd {id:Nat} {blk:Block} (hl:lookup s.hp id=some blk) (hne:id≠base) {B:List Nat} (hd:B.Nodup) (hB:∀b∈B,φ.eI id b):Handed s (s.drop id) φ B:=
 ⟨hd,rfl,wF s id,fun b hb=>⟨id,blk,hl,hB b hb,by rw[ic,if_pos rfl],hne⟩,fun j x hj=>by
  rw[ic] at hj
  split at hj
  ·cases hj
  ·exact hj⟩
theorem Fy (h:Sim g N s a w φ) {t:Ty} {id:Nat} {cut:List t.D->List t.D} {x:List t.D} {s':St} (hx:wO t s id cut=some (x,s')) :
  ∃d xs,lookup s.hp id=some (.arr d t xs)/\x=cut xs/\s'=s.drop id/\id≠base/\∃v e l B,w.rowOf 0 e t.size v xs.length l/\v.ownBlock=φ id/\bG (Tree w t) xs l B/\B.Nodup/\(∀b∈B,b∈φ.sub id):=by
 unfold wO at hx
 split at hx
 case h_2=>cases hx
 rename_i d u xs hl
 split at hx
 case h_2=>cases hx
 rename_i hh _
 cases hh
 obtain⟨hb,hx⟩:=cT hx
 cases hx
 obtain⟨h1,h2⟩:=Bool.and_eq_true_iff.1 hb
 have hne:id≠base:=by rintro rfl;simp at h2
 obtain⟨v,e,l,q1,q2,q3⟩:=h.blocks id _ hl
 refine⟨d,xs,hl,rfl,rfl,hne,v,e,l,?_⟩
 cases d with
 | dp=>
  obtain⟨B0,r1,r2,r3⟩:=q3
  exact⟨B0,q1,q2,r1,r2,r3⟩
 | sh=>
  exact⟨[],q1,q2,bG.flat (by simpa [Dp.sk,Dp.Bm] using h1) q3.1,List.nodup_nil,by simp⟩
 | ho=>simp[Dp.sk,Dp.Bm] at h1
theorem GG (h:Sim g N s a w φ) {t:Ty} {v:AV} {u:Value} (h1:ak w (imm g φ s.hp w.heap.size) (aM g) φ s.hp v u) {x:List t.D} {s':St} (hx:HK t s v=some (x,s')) :
  ∃B,Handed s s' φ B/\Tree w (.sl t) x [u] B:=by
 have sl:∀{id:Nat} {cut:List t.D->List t.D} (_:wO t s id cut=some (x,s')) (_:∀d (xs:List t.D),lookup s.hp id=some (.arr d t xs)->∃k e l,w.rowOf 0 e t.size u k l/\u.ownBlock=φ id/\cut xs=xs.take k/\k<=xs.length),
   ∃B,Handed s s' φ B/\Tree w (.sl t) x [u] B:=by
  intro id cut hx m
  obtain⟨d,xs,hl,rfl,rfl,hne,v0,e0,l0,B0,r1,r2,r3,r4,r5⟩:=Fy h hx
  obtain⟨k,e,l,hu,hub,e1,hk2⟩:=m d xs hl
  obtain⟨E,t1,t2,t3⟩:=AD r1 r2 r3 r4 (fun b hb hin=>h.apart id _ b hl hb (r5 b hin)) hk2 hu hub
  exact⟨E,Dd hl hne t2 (fun b hb=>(t3 b hb).imp (fun h=>h) (fun h=>r5 b h)),by rw[e1];exact t1⟩
 unfold HK at hx
 split at hx
 ·rename_i id
  refine sl hx (fun d xs hl=>?_)
  simp only[ak] at h1
  obtain⟨d2,t2,x2,e2,e,l,ho,hb⟩:=h1 _ hl
  cases e2
  exact⟨_,e,l,ho,hb,by simp,Nat.le_refl _⟩
 ·rename_i id lo hi
  obtain⟨hlo,hx⟩:=cT hx
  have hlo:lo=0:=by simpa using hlo
  subst hlo
  refine sl hx (fun d xs hl=>?_)
  simp only[ak] at h1
  obtain⟨d2,t2,x2,e2,g1,g2,g3,A,c,_,_,g4,_⟩:=h1 _ hl
  cases e2
  obtain⟨e,l,ho,hb⟩:=g4 rfl
  exact⟨_,e,l,ho,hb,by simp[aj],by omega⟩
 ·rename_i id hi
  refine sl hx (fun d xs hl=>?_)
  simp only[ak] at h1
  obtain⟨d2,t2,x2,e2,g2,g3,e,l,ho,hb⟩:=h1 _ hl
  cases e2
  exact⟨_,e,l,ho,hb,by simp[aj],by omega⟩
 ·cases hx
  simp only[ak] at h1
  subst h1
  exact⟨[],Handed.refl s φ,⟨none,0,rfl,Nat.le_refl _,.inl ⟨rfl,rfl,rfl,rfl⟩⟩⟩
 ·cases hx
theorem FL {t:Ty} (hf:t.flat=true) {v:AV} {u:Value} (h1:ak w (imm g φ s.hp w.heap.size) (aM g) φ s.hp v u) {x:t.D} (hx:v.as s.hp t=some x):∃cs,Tree w t x cs []/\u=mkv t cs:=by
 have no:∀{u:Ty},t=.sl u->False:=by rintro u rfl;cases hf
 unfold AV.as at hx
 split at hx
 ·split at hx
  ·rename_i hh _;exact(no hh.symm).elim
  ·cases hx
 ·split at hx
  ·rename_i hh _
   cases hh
   cases hx
   simp only[ak] at h1
   obtain⟨cs,q1,q2⟩:=h1
   exact⟨cs,Tree.flat hf q1,q2⟩
  ·cases hx
 ·simp only[ak] at h1
  obtain⟨cs,q1,q2⟩:=iA w (imm g φ s.hp w.heap.size) hx
  exact⟨cs,Tree.flat hf q1,h1.trans q2⟩
 ·split at hx
  ·split at hx
   ·rename_i hh _;exact(no hh.symm).elim
   ·cases hx
  ·cases hx
 ·split at hx
  ·split at hx
   ·rename_i hh _;exact(no hh.symm).elim
   ·cases hx
  ·cases hx
 ·cases hx
theorem xR (h:Sim g N s a w φ) {t:Ty} {v:AV} {u:Value} (h1:ak w (imm g φ s.hp w.heap.size) (aM g) φ s.hp v u) {x:t.D} {s':St} (hx:yV t v s=some (x,s')) :
  ∃B,Handed s s' φ B/\Tree w t x [u] B/\t.agg=false:=by
 have leaf:∀{t:Ty} (hf:t.flat=true) (ha:t.agg=false) {x:t.D} {s':St},Df t v s=some (x,s')->∃B,Handed s s' φ B/\Tree w t x [u] B/\t.agg=false:=by
  intro t hf ha x s' hx
  unfold Df at hx
  split at hx
  case h_2=>cases hx
  rename_i y hy
  cases hx
  obtain⟨cs,q1,q2⟩:=FL hf h1 hy
  have hl:=q1.length
  rw[ep t ha] at hl
  match cs,hl with
  | [c],_=>
   rw[yQ ha] at q2
   exact⟨[],Handed.refl s φ,by rw[q2];exact q1,ha⟩
 unfold yV at hx
 split at hx
 ·obtain⟨B,q1,q2⟩:=GG h h1 hx
  exact⟨B,q1,q2,rfl⟩
 ·exact leaf rfl rfl hx
 ·exact leaf rfl rfl hx
 ·exact leaf rfl rfl hx
 ·cases hx
theorem Bf:∀{t:Ty} {s s':St} {l l':List AV} {us:List Value} {x:t.D},Sim g N s a w φ->ax w (imm g φ s.hp w.heap.size) (aM g) φ s.hp l us->mH t l s=some (x,l',s') →
  ∃B cs us',Handed s s' φ B/\us=cs++us'/\Tree w t x cs B/\ax w (imm g φ s'.hp w.heap.size) (aM g) φ s'.hp l' us':=by
 intro t
 have leaf:∀{t:Ty} {s s':St} {l l':List AV} {us:List Value} {x:t.D},Sim g N s a w φ->ax w (imm g φ s.hp w.heap.size) (aM g) φ s.hp l us->pS t s l=some (x,l',s') →
   ∃B cs us',Handed s s' φ B/\us=cs++us'/\Tree w t x cs B/\ax w (imm g φ s'.hp w.heap.size) (aM g) φ s'.hp l' us':=by
  intro t s s' l l' us x h hv hx
  unfold pS at hx
  split at hx
  ·cases hx
  ·split at hx
   case h_2=>cases hx
   rename_i hs
   cases hx
   simp only[ax] at hv
   obtain⟨u,us',rfl,h1,h2⟩:=hv
   obtain⟨B,q1,q2,_⟩:=xR h h1 hs
   exact⟨B,[u],us',q1,rfl,q2,ax.later (q1.gone.later (fun _ h=>h)) _ _ h2⟩
 induction t with
 | unit=>
  intro s s' l l' us x h hv hx
  simp only[mH,Option.some.injEq,Prod.mk.injEq] at hx
  obtain⟨_,rfl,rfl⟩:=hx
  exact⟨[],[],us,Handed.refl _ φ,rfl,⟨rfl,rfl⟩,hv⟩
 | pair p q ihp ihq=>
  intro s s' l l' us x h hv hx
  unfold mH at hx
  split at hx
  case h_2=>cases hx
  rename_i y l1 s1 h1
  split at hx
  case h_2=>cases hx
  rename_i z l2 s2 h2
  cases hx
  obtain⟨B1,c1,u1,q1,rfl,r1,v1⟩:=ihp h hv h1
  obtain⟨B2,c2,u2,q2,rfl,r2,v2⟩:=ihq (q1.sim h) v1 h2
  exact⟨B1++B2,c1++c2,u2,q1.trans h q2,by simp,⟨c1,c2,B1,B2,rfl,rfl,r1,r2⟩,v2⟩
 | int k=>intro s s' l l' us x h hv hx;exact leaf h hv hx
 | bool=>intro s s' l l' us x h hv hx;exact leaf h hv hx
 | str=>intro s s' l l' us x h hv hx;exact leaf h hv hx
 | sl t _=>intro s s' l l' us x h hv hx;exact leaf h hv hx
theorem Ad (h:Sim g N s a w φ) {t:Ty} {v:AV} {u:Value} (h1:ak w (imm g φ s.hp w.heap.size) (aM g) φ s.hp v u) {x:t.D} {s':St} (hx:s.hand t v=some (x,s')) :
  ∃B cs,Handed s s' φ B/\Tree w t x cs B/\u=mkv t cs:=by
 unfold St.hand at hx
 split at hx
 ·rename_i u0 vs
  split at hx
  ·rename_i hh _
   have hh:=hh.down
   subst hh
   have hx:=(cT hx).2
   split at hx
   ·rename_i hg
    cases hx
    simp only[ak] at h1
    obtain⟨us,rfl,hlen,_,h2⟩:=h1
    obtain⟨B,cs,us',q1,rfl,q2,q3⟩:=Bf h h2 hg
    have:us'=[]:=by simpa only[ax] using q3
    subst this
    exact⟨B,cs,q1,q2,by simp⟩
   ·cases hx
  ·cases hx
 ·cases ha:t.agg with
  | true=>
   rw[ha] at hx
   simp only[cond_true] at hx
   obtain⟨hf,hx⟩:=cT hx
   split at hx
   case h_2=>cases hx
   rename_i y hy
   cases hx
   obtain⟨cs,q1,q2⟩:=FL hf h1 hy
   exact⟨[],cs,Handed.refl _ φ,q1,q2⟩
  | false=>
   rw[ha] at hx
   simp only[cond_false] at hx
   obtain⟨B,q1,q2,_⟩:=xR h h1 hx
   exact⟨B,[u],q1,q2,(yQ ha).symm⟩
end
end Go.AE
end
