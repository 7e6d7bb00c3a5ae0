/- The operations, one by one: cuts, new blocks, stores. Third part. -/
import Derived.Test.YtmkgiaecgkicoaaGreatAeOpB
namespace Go.AE
open Go Go.RowKit
section
variable {P:Program} {C:Ctx} {g:Gl} {N:Nat} {o:Oper} {s:St} {a:Act} {w:World} {φ:Names} {K:AV->St->Prop}
theorem Ty.kR {t t':Ty} (h:Ty.same t t'=true):t=t':=by
 unfold Ty.same at h
 split at h
 ·rename_i hh _;exact hh.down
 ·cases h
theorem sw {w:World} {I S:Nat->Prop} {φ:Names} {hp:Hp} {v:AV} {u:Value} {n:Int} (hv:aj w I S φ hp v u) (h:jR v=some n):∃k,u=.int k n:=by
 unfold jR at h
 split at h
 ·cases h;exact⟨_,iQ hv⟩
 ·cases h
theorem hO {isSlice:Bool} {len cap:Nat} {lo hi mx:Option AV} {vlo vhi vmx:Option Value} {Q:Int->Int->Prop} {w:World} {I S:Nat->Prop} {φ:Names} {hp:Hp}
  (hlo:∀v,lo=some v->∃u,vlo=some u/\aj w I S φ hp v u) (nlo:lo=none->vlo=none)
  (hhi:∀v,hi=some v->∃u,vhi=some u/\aj w I S φ hp v u) (nhi:hi=none->vhi=none)
  (hmx:∀v,mx=some v->∃u,vmx=some u/\aj w I S φ hp v u) (nmx:mx=none->vmx=none)
  (hmh:mx≠none->hi≠none)
  (hc:len<=cap) (h:AG (len:Int) lo hi mx Q) :
  ∃l r m:Nat,(∀w:World,(Instr.sliceBounds isSlice len cap vlo vhi vmx).run P w=.ok (l,r,m) w)/\Q l r/\l<=r/\r<=len/\r<=m/\m<=cap/\(mx=none->m=cap):=by
 unfold AG at h
 obtain⟨l,el,h⟩:=aK h
 obtain⟨r,er,h⟩:=aK h
 obtain⟨m,em,h0,h1,h2,h3,hQ⟩:=aK h
 rw[h3] at em
 have hr0:0<=r:=by omega
 have e1:((l.toNat:Nat):Int)=l:=by omega
 have e2:((r.toNat:Nat):Int)=r:=by omega
 have bnd:∀{k:IntKind} {n:Int} {y:Nat} {c:BoundsCode},0<=n->n<=y->(∀w:World,(Instr.sliceBound (.int k n) y c).run P w=.ok n.toNat w):=by
  intro k n y c h0 h1 w
  simp[Instr.sliceBound,asIntOf,h0,h1]
 cases mx with
 | none=>
  have emx:=nmx rfl
  cases hi with
  | none=>
   have ehi:=nhi rfl
   simp only[Option.some.injEq] at er
   cases lo with
   | none=>
    have elo:=nlo rfl
    simp only[Option.some.injEq] at el
    refine⟨0,len,cap,?_,?_,by omega,Nat.le_refl _,hc,Nat.le_refl _,fun _=>rfl⟩
    ·intro w
     simp[Instr.sliceBounds,emx,ehi,elo]
    ·have:(((0:Nat):Int))=l:=by omega
     rw[this,er];exact hQ
   | some v=>
    obtain⟨u,eu,hu⟩:=hlo v rfl
    obtain⟨k,rfl⟩:=sw hu el
    refine⟨l.toNat,len,cap,?_,?_,by omega,Nat.le_refl _,hc,Nat.le_refl _,fun _=>rfl⟩
    ·have:=bnd (k:=k) (n:=l) (y:=len) (c:=.sliceB) h0 (by omega)
     intro w
     simp[Instr.sliceBounds,emx,ehi,eu,this w]
    ·rw[e1,er];exact hQ
  | some vh=>
   obtain⟨uh,euh,huh⟩:=hhi vh rfl
   obtain⟨kh,rfl⟩:=sw huh er
   have bh:∀c,∀w:World,(Instr.sliceBound (.int kh r) cap c).run P w=.ok r.toNat w:=fun c=>bnd hr0 (by omega)
   cases lo with
   | none=>
    have elo:=nlo rfl
    simp only[Option.some.injEq] at el
    refine⟨0,r.toNat,cap,?_,?_,by omega,by omega,by omega,Nat.le_refl _,fun _=>rfl⟩
    ·intro w
     simp[Instr.sliceBounds,emx,euh,elo,bh]
    ·have:(((0:Nat):Int))=l:=by omega
     rw[this,e2];exact hQ
   | some v=>
    obtain⟨u,eu,hu⟩:=hlo v rfl
    obtain⟨k,rfl⟩:=sw hu el
    refine⟨l.toNat,r.toNat,cap,?_,?_,by omega,by omega,by omega,Nat.le_refl _,fun _=>rfl⟩
    ·have:=bnd (k:=k) (n:=l) (y:=r.toNat) (c:=.sliceB) h0 (by omega)
     intro w
     simp[Instr.sliceBounds,emx,euh,eu,bh,this w]
    ·rw[e1,e2];exact hQ
 | some vm=>
  obtain⟨um,eum,hum⟩:=hmx vm rfl
  obtain⟨km,rfl⟩:=sw hum em
  have bm:∀c,∀w:World,(Instr.sliceBound (.int km r) cap c).run P w=.ok r.toNat w:=fun c=>bnd hr0 (by omega)
  cases hi with
  | none=>exact absurd rfl (hmh (by simp))
  | some vh=>
   obtain⟨uh,euh,huh⟩:=hhi vh rfl
   obtain⟨kh,rfl⟩:=sw huh er
   have bh:∀c,∀w:World,(Instr.sliceBound (.int kh r) r.toNat c).run P w=.ok r.toNat w:=fun c=>bnd hr0 (by omega)
   cases lo with
   | none=>
    have elo:=nlo rfl
    simp only[Option.some.injEq] at el
    refine⟨0,r.toNat,r.toNat,?_,?_,by omega,by omega,by omega,by omega,by simp⟩
    ·intro w
     simp[Instr.sliceBounds,eum,euh,elo,bh,bm]
    ·have:(((0:Nat):Int))=l:=by omega
     rw[this,e2];exact hQ
   | some v=>
    obtain⟨u,eu,hu⟩:=hlo v rfl
    obtain⟨k,rfl⟩:=sw hu el
    refine⟨l.toNat,r.toNat,r.toNat,?_,?_,by omega,by omega,by omega,by omega,by simp⟩
    ·have:=bnd (k:=k) (n:=l) (y:=r.toNat) (c:=.slice3C) h0 (by omega)
     intro w
     simp[Instr.sliceBounds,eum,euh,eu,bh,bm,this w]
    ·rw[e1,e2];exact hQ
theorem xI {α:Type} (xs:List α) {l r:Nat} (h:l<=r) (h2:r<=xs.length):(aC xs (some ((l:Int),(r:Int)))).length=r-l:=by
 simp[aC];omega
theorem Dx {α:Type} {xs:List α} {l r:Nat} (h:xs=[]):aC xs (some ((l:Int),(r:Int)))=[]:=by
 subst h;simp[aC]
theorem cZ.cut {w:World} {I T:Nat->Prop} {t:Ty} {xs:List t.D} {A:Option Addr} {c l r m:Nat} (_:xs.length<=c)
  (hz:xs=[]\/∃b o k,A=some ⟨b,o,none⟩/\T b/\Cells w b o k/\cB (Rep w I t) xs k) (h1:l<=r) (h2:r<=xs.length) (h3:r<=m) (_:m<=c) :
  cZ w I T t (aC xs (some ((l:Int),(r:Int)))) (.slice (if m=l then A else A.map (·.add (l * t.size))) (r-l) (m-l)):=by
 refine⟨_,m-l,by rw[xI xs h1 h2],by rw[xI xs h1 h2];omega,?_⟩
 rcases hz with hz | ⟨b,o,k,rfl,hT,hc,hl⟩
 ·exact .inl (Dx hz)
 ·by_cases hml:m=l
  ·left
   have:r=l:=by omega
   subst this
   simp[aC]
  ·rw[if_neg hml]
   refine .inr ⟨b,o+l * t.size,_,by simp[hY],hT,?_,qY hl (l:Int) (r:Int)⟩
   have:=(hc.drop (l * t.size)).take (((r:Int)-(l:Int)).toNat * t.size)
   simpa using this
theorem xl (h:Sim g N s a w φ) (x:Option Operand):(∀v,mc s.env x=some v->∃u,x.map a.eval=some u/\aj w (imm g φ s.hp w.heap.size) (aM g) φ s.hp v u)/\(mc s.env x=none->x.map a.eval=none):=by
 cases x with
 | none=>exact⟨fun v hv=>by simp[mc] at hv,fun _=>rfl⟩
 | some y=>exact⟨fun v hv=>by simp[mc] at hv;subst hv;exact⟨_,rfl,h.eval y⟩,fun hv=>by simp[mc] at hv⟩
theorem BG {w:World} {e:TypeId} {size n r c:Nat} {A:Option Addr} {l:List Value} (h:w.rowOf 0 e size (.slice A n c) n l) (hr:r<=n) :
  w.rowOf 0 e size (.slice A r c) r (l.take (r * size)):=by
 rcases h with⟨hl,⟨e1,h0⟩ | ⟨g,cap,cur,e1,hb,hg,hn,hc,hs,ht⟩⟩
 ·cases e1
  have:r=0:=by omega
  subst this
  exact⟨by simp,.inl ⟨rfl,rfl⟩⟩
 ·cases e1
  have hle:r * size<=n * size:=Nat.mul_le_mul_right _ hr
  refine⟨by rw[List.length_take,hl];omega,.inr ⟨g,c,cur,rfl,hb,hg,by omega,hc,hs,?_⟩⟩
  rw[<-ht,List.take_take]
  congr 1
  omega
theorem gR.shape {w:World} {r:Option Nat} {t:Ty} {n:Nat} {u:Value} (h:gR w r t n none u) :
  ∃A c,u=.slice A n c/\n<=c/\((A=none/\n=0)\/∃b,A=some ⟨b,0,none⟩/\r=some b)/\∃e l,w.rowOf 0 e t.size (.slice A n c) n l/\(Value.slice A n c).ownBlock=r:=by
 obtain⟨e,l,hr,hb⟩:=h
 have hr':=hr
 rcases hr with⟨_,⟨e1,h0⟩ | ⟨g,cap,cur,e1,_,_,hn,_⟩⟩
 ·subst e1
  subst h0
  exact⟨none,0,rfl,Nat.le_refl _,.inl ⟨rfl,rfl⟩,e,l,hr',hb⟩
 ·subst e1
  exact⟨_,cap,rfl,hn,.inr ⟨g,rfl,hb.symm⟩,e,l,hr',hb⟩
theorem gR.cut {w:World} {rb:Option Nat} {t:Ty} {n:Nat} {A:Option Addr} {c l r:Nat} (h:gR w rb t n none (.slice A n c)) (h1:l<=r) (h2:r<=n) :
  gR w rb t n (some ((l:Int),(r:Int))) (.slice (if c=l then A else A.map (·.add (l * t.size))) (r-l) (c-l)):=by
 obtain⟨A',c',e1,hc,hA,e,k,ho,hb⟩:=h.shape
 cases e1
 refine⟨by omega,by omega,by omega,_,c-l,by congr 1;omega,by omega,fun h0=>?_,fun hlt=>?_⟩
 ·have:l=0:=by omega
  subst this
  have hA2:(if c=0 then A else A.map (·.add (0 * t.size)))=A:=by
   split
   ·rfl
   ·cases A<;>simp[Addr.add]
  rw[hA2]
  have hr:((r:Int)).toNat=r:=by omega
  rw[hr]
  refine⟨e,_,BG ho h2,?_⟩
  rw[<-hb]
  cases A<;>rfl
 ·rcases hA with⟨_,h0⟩ | ⟨b,hA,hrb⟩
  ·omega
  ·refine⟨b,hrb,?_⟩
   rw[if_neg (by omega),hA]
   simp[hY]
theorem gR.Ky {w:World} {rb:Option Nat} {t:Ty} {n:Nat} {A:Option Addr} {p q:Int} {m c l r:Nat} (h:gR w rb t n (some (p,q)) (.slice A m c)) (h1:l<=r) (h2:(r:Int)<=q-p) :
  gR w rb t n (some (p+l,p+r)) (.slice (if c=l then A else A.map (·.add (l * t.size))) (r-l) (c-l)):=by
 obtain⟨g1,g2,g3,A',c',e1,hc,g4,g5⟩:=h
 cases e1
 refine⟨by omega,by omega,by omega,_,c-l,by congr 1;omega,by omega,fun h0=>?_,fun hlt=>?_⟩
 ·have hp:p=0:=by omega
  have hl:l=0:=by omega
  subst hl
  obtain⟨e,k,ho,hb⟩:=g4 hp
  have hA2:(if c=0 then A else A.map (·.add (0 * t.size)))=A:=by
   split
   ·rfl
   ·cases A<;>simp[Addr.add]
  rw[hA2]
  have hr:((p+r:Int)).toNat=r:=by omega
  have hq:(q-p).toNat=q.toNat:=by omega
  rw[hr]
  rw[hq] at ho hb
  refine⟨e,_,BG ho (by omega),?_⟩
  rw[<-hb]
  cases A<;>rfl
 ·obtain⟨b,hrb,hA⟩:=g5 (by omega)
  refine⟨b,hrb,?_⟩
  rw[if_neg (by omega),hA]
  have:(p+(l:Int)).toNat=p.toNat+l:=by omega
  simp[hY,this,Nat.add_mul]
theorem Il (hT:TabOk P C) (h:Sim g N s a w φ) {ty:TypeId} {x:Operand} {lo hi mx:Option Operand} (ho:o.op=.slice ty x lo hi mx) (hop:opW C o s K) :
  ck P g N o a w K:=by
 have hx:=h.eval x
 obtain⟨hlo,nlo⟩:=xl h lo
 obtain⟨hhi,nhi⟩:=xl h hi
 obtain⟨hmx,nmx⟩:=xl h mx
 simp only[opW,ho] at hop
 have hmh:mx≠none->hi≠none:=by
  rintro h1 rfl
  cases mx with
  | none=>exact h1 rfl
  | some y=>exact hop
 have hop:EF C ty (eval s.env x) (mc s.env lo) (mc s.env hi) (mc s.env mx) s K:=by
  cases hq:JC hi mx with
  | true=>rw[hq] at hop;exact hop
  | false=>rw[hq] at hop;exact hop.elim
 have hmh':mc s.env mx≠none->mc s.env hi≠none:=by
  intro h1 h2
  refine hmh (fun e=>h1 (by rw[e];rfl)) ?_
  cases hi with
  | none=>rfl
  | some v=>simp[mc] at h2
 unfold EF at hop
 split at hop
 ·rename_i e1
  have h1:=hT.str _ _ _ e1
  split at hop
  ·rename_i b e2 e3
   rw[e2] at hx
   have hx:=pJ hx
   obtain⟨l,r,m,hb,hQ,q1,q2,q3,q4,q5⟩:=hO (P:=P) (isSlice:=false) (vmx:=none) (mx:=none) (w:=w) (I:=imm g φ s.hp w.heap.size) (S:=aM g) (φ:=φ) (hp:=s.hp) hlo nlo hhi nhi (by simp) (by simp) (by simp) (Nat.le_refl _) hop
   have emx:mx=none:=by
    cases mx with
    | none=>rfl
    | some y=>simp[mc] at e3
   subst emx
   have hl:((l:Int)).toNat=l:=by omega
   have hr:((r:Int)).toNat=r:=by omega
   rw[hl,hr] at hQ
   refine ck.same h (u:=.string (b.extract l r)) ?_ hQ (vD ..)
   intro w' _
   simp only[execOp,ho,Instr.sliceAt,Instr.slice,hx,Sem.run_bind,run_underlying h1,Result.andThen_ok]
   simp[hb w']
  ·exact hop.elim
 ·rename_i e t' _ _ e1
  obtain⟨h1,h2⟩:=hT.sl _ _ _ _ _ e1
  have hf:=hT.ty _ _ h2
  have hexec:∀{A:Option Addr} {n c l r m:Nat},a.eval x=.slice A n c->(∀w:World,(Instr.sliceBounds true n c (lo.map a.eval) (hi.map a.eval) (mx.map a.eval)).run P w=.ok (l,r,m) w) →
    ∀w',Turn w w' none->(execOp a.eval o).run P w'=.ok (.value (.slice (if m=l then A else A.map (·.add (l * t'.size))) (r-l) (m-l))) w':=by
   intro A n c l r m hx hb w' _
   simp only[execOp,ho,Instr.sliceAt,Instr.slice,hx,Sem.run_bind,run_underlying h1,Result.andThen_ok,hb w',pH hf]
   rfl
  split at hop
  ·rename_i t xs e2
   rw[e2] at hx
   cases hs:Ty.same t t' with
   | false=>simp[hs] at hop
   | true=>
    simp only[hs,cond_true] at hop
    have:=Ty.kR hs
    subst this
    simp only[aj] at hx
    obtain⟨A,c,e3,hc,hz⟩:=cZ.sR hx
    obtain⟨l,r,m,hb,hQ,q1,q2,q3,q4,q5⟩:=hO (P:=P) (isSlice:=true) hlo nlo hhi nhi hmx nmx hmh' hc hop
    refine ck.same h (hexec e3 hb) hQ ?_
    simp only[aj]
    exact cZ.data (cZ.cut hc hz q1 q2 q3 q4)
  ·rename_i t xs e2
   rw[e2] at hx
   cases hs:Ty.same t t' with
   | false=>simp[hs] at hop
   | true=>
    simp only[hs,cond_true] at hop
    have:=Ty.kR hs
    subst this
    simp only[aj] at hx
    obtain⟨A,c,e3,hc,hz⟩:=hx
    obtain⟨l,r,m,hb,hQ,q1,q2,q3,q4,q5⟩:=hO (P:=P) (isSlice:=true) hlo nlo hhi nhi hmx nmx hmh' hc hop
    refine ck.same h (hexec e3 hb) hQ ?_
    simp only[aj]
    exact cZ.cut hc hz q1 q2 q3 q4
  ·rename_i e2
   rw[e2] at hx
   simp only[aj] at hx
   obtain⟨l,r,m,hb,hQ,q1,q2,q3,q4,q5⟩:=hO (P:=P) (isSlice:=true) (len:=0) (cap:=0) hlo nlo hhi nhi hmx nmx hmh' (Nat.le_refl _) hop
   refine ck.same h (hexec hx hb) hQ ?_
   simp only[aj]
   have:r-l=0:=by omega
   have:m-l=0:=by omega
   simp[*]
  ·rename_i id cut e2
   rw[e2] at hx
   split at hop
   ·rename_i d t xs hl
    cases hs:Ty.same t t' with
    | false=>simp[hs] at hop
    | true=>
     simp only[hs,cond_true] at hop
     have:=Ty.kR hs
     subst this
     simp only[aj] at hx
     obtain⟨d2,t2,xs2,e3,hown⟩:=hx _ hl
     cases e3
     split at hop
     ·rename_i emx
      split at hop
      ·obtain⟨A,c,e4,hc,_⟩:=hown.shape
       obtain⟨l,r,m,hb,hQ,q1,q2,q3,q4,q5⟩:=hO (P:=P) (isSlice:=true) (mx:=none) (vmx:=mx.map a.eval) hlo nlo hhi nhi (by simp) (fun _=>nmx emx) (by simp) hc hop
       have hm:=q5 rfl
       subst hm
       refine ck.same h (hexec e4 hb) hQ ?_
       simp only[aj]
       intro blk hbl
       rw[hl] at hbl
       cases hbl
       rw[e4] at hown
       exact⟨d,t,xs,rfl,hown.cut q1 q2⟩
      ·rename_i p q
       have hown':=hown
       obtain⟨g1,g2,g3,A,c,e4,hc,_⟩:=hown
       have hlen:(((q-p).toNat:Nat):Int)=q-p:=by omega
       rw[<-hlen] at hop
       obtain⟨l,r,m,hb,hQ,q1,q2,q3,q4,q5⟩:=hO (P:=P) (isSlice:=true) (mx:=none) (vmx:=mx.map a.eval) hlo nlo hhi nhi (by simp) (fun _=>nmx emx) (by simp) hc hop
       have hm:=q5 rfl
       subst hm
       refine ck.same h (hexec e4 hb) hQ ?_
       simp only[aj]
       intro blk hbl
       rw[hl] at hbl
       cases hbl
       rw[e4] at hown'
       exact⟨d,t,xs,rfl,hown'.Ky q1 (by omega)⟩
     ·rename_i vm emx
      have hmhi:mc s.env hi≠none:=hmh' (by rw[emx];simp)
      cases hdp:C.deep with
      | true=>
       rw[hdp] at hop
       simp only[cond_true] at hop
       split at hop
       case h_2=>exact hop.elim
       obtain⟨A,c,e4,hc,_⟩:=hown.shape
       obtain⟨l,r,m,hb,hQ,q1,q2,q3,q4,q5⟩:=hO (P:=P) (isSlice:=true) (mx:=some vm) hlo nlo hhi nhi (by rw[<-emx];exact hmx) (by simp) (fun _=>hmhi) hc hop
       obtain⟨hl0,hQ⟩:=hQ
       have hl0:l=0:=by omega
       subst hl0
       refine ck.same h (hexec e4 hb) hQ ?_
       have hA:(if m=0 then A else A.map (·.add (0 * t.size)))=A:=by
        split
        ·rfl
        ·cases A with
         | none=>rfl
         | some ad=>simp[Addr.add]
       cases hof:Nat.beq C.off 500000 with
       | true=>
        simp only[cond_true,aj]
        intro blk hbl
        rw[hl] at hbl
        cases hbl
        refine⟨d,t,xs,rfl,by omega,by omega,by omega,A,m,by rw[hA];simp,by omega,fun _=>?_,fun hlt=>?_⟩
        ·obtain⟨e',l',ho,hbk⟩:=hown
         rcases ho.2 with⟨e6,h0⟩ | ⟨gg,cap,cur,e6,hb0,hg,hn,hcm,hcs,htk⟩
         ·rw[e6] at hbk e4
          obtain⟨rfl,hn0,rfl⟩:none=A/\0=xs.length/\0=c:=by simpa using e4
          have:m=0:=by omega
          subst this
          refine⟨e',[],⟨?_,.inl ⟨?_,?_⟩⟩,?_⟩
          ·have:(r:Int).toNat=0:=by omega
           rw[this];simp
          ·have:r=0:=by omega
           subst this
           rfl
          ·omega
          ·rw[<-hbk];rfl
         ·rw[e6] at hbk e4
          cases e4
          have hm2:m<=c:=by omega
          have hrm:(r:Int).toNat<=m:=by omega
          have hsz:(r:Int).toNat * t.size<=cur.toList.length:=by
           rw[Array.length_toList]
           exact Nat.le_trans (Nat.mul_le_mul_right _ (Nat.le_trans hrm hm2)) hcs
          refine⟨e',cur.toList.take ((r:Int).toNat * t.size),⟨by rw[List.length_take];omega,.inr ⟨gg,m,cur,?_,hb0,hg,hrm,by omega,Nat.le_trans (Nat.mul_le_mul_right _ hm2) hcs,rfl⟩⟩,?_⟩
          ·rw[hA];simp
          ·rw[<-hbk,hA];rfl
        ·obtain⟨e',l',ho,hbk⟩:=hown
         rcases ho.2 with⟨e6,h0⟩ | ⟨gg,cap,cur,e6,_⟩
         ·omega
         ·rw[e6] at hbk e4
          cases e4
          exact⟨gg,hbk.symm,by simp⟩
       | false=>
       simp only[cond_false,aj]
       intro blk hbl
       rw[hl] at hbl
       cases hbl
       refine⟨d,t,xs,rfl,by omega,by omega,?_⟩
       obtain⟨e',l',ho,hbk⟩:=hown
       rcases ho.2 with⟨e6,h0⟩ | ⟨gg,cap,cur,e6,hb0,hg,hn,hcm,hcs,htk⟩
       ·rw[e6] at hbk e4
        obtain⟨rfl,hn0,rfl⟩:none=A/\0=xs.length/\0=c:=by simpa using e4
        have:m=0:=by omega
        subst this
        refine⟨e',[],⟨?_,.inl ⟨?_,?_⟩⟩,?_⟩
        ·have:(r:Int).toNat=0:=by omega
         rw[this];simp
        ·have:r=0:=by omega
         subst this
         rfl
        ·omega
        ·rw[<-hbk];rfl
       ·rw[e6] at hbk e4
        cases e4
        have hm2:m<=c:=by omega
        have hrm:(r:Int).toNat<=m:=by omega
        have hsz:(r:Int).toNat * t.size<=cur.toList.length:=by
         rw[Array.length_toList]
         exact Nat.le_trans (Nat.mul_le_mul_right _ (Nat.le_trans hrm hm2)) hcs
        refine⟨e',cur.toList.take ((r:Int).toNat * t.size),⟨by rw[List.length_take];omega,.inr ⟨gg,m,cur,?_,hb0,hg,hrm,by omega,Nat.le_trans (Nat.mul_le_mul_right _ hm2) hcs,rfl⟩⟩,?_⟩
        ·rw[hA];simp
        ·rw[<-hbk,hA];rfl
      | false=>
      rw[hdp] at hop
      simp only[cond_false] at hop
      obtain⟨y,hy,hop⟩:=aK hop
      have hx':aj w (imm g φ s.hp w.heap.size) (aM g) φ s.hp (.own id cut) (a.eval x):=by
       simp only[aj]
       intro blk hbl
       rw[hl] at hbl
       cases hbl
       exact⟨d,t,xs,rfl,hown⟩
      obtain⟨hg,cs,hr,e4⟩:=h.iE hx' (show s.iE (.sl t) (.own id cut)=some (y.1,y.2) from hy)
      obtain⟨A,c,e5,hc,hz⟩:=cZ.sR ⟨cs,hr,e4⟩
      obtain⟨l,r,m,hb,hQ,q1,q2,q3,q4,q5⟩:=hO (P:=P) (isSlice:=true) (mx:=some vm) hlo nlo hhi nhi (by rw[<-emx];exact hmx) (by simp) (fun _=>hmhi) hc hop
      refine⟨_,_,_,φ,hexec e5 hb,hQ,hg,?_⟩
      simp only[aj]
      exact cZ.data (cZ.cut hc hz q1 q2 q3 q4)
   ·exact hop.elim
  ·exact hop.elim
 ·exact hop.elim
end
end Go.AE
