/- What the functions compute is what is said. -/
import Derived.Test.YtmkgiaecgkicoaaGreatAeF
import Derived.Test.YtmkgiaecgkicoaaGreatAeInl
import Derived.Test.YtmkgiaecgkicoaaGreatAeEqI
import Derived.Test.YtmkgiaecgkicoaaGreatAeEqR
import Derived.Test.YtmkgiaecgkicoaaGreatAeEqV
import Derived.Test.YtmkgiaecgkicoaaGreatAeRB
import Derived.Test.YtmkgiaecgkicoaaGreatAeEqI
namespace Go.AE
open Go Go.RowKit
set_option linter.unusedVariables false
set_option linter.unusedSimpArgs false
set_option maxHeartbeats 2000000
theorem F.yI (n:Int) (low:Int) (high:Int)  : F.qD n low high=some (M.inR n low high):=by
 unfold F.qD M.inR
 cases decide (low<=n)<;>rfl
theorem F.yJ (s:ByteArray) (h_s:Sm Ty.str s):F.qs s=some (M.lower (cj s)):=by
 unfold F.qs M.lower
 rw[rM (fun n=>M.inR n 97 122) () (fun x hx=>by
  obtain⟨h0,h1⟩:=HJ hx
  simp only[F.jt,vW,dQ,aF (n:=x) (by omega) (by omega)])]
 cases (cj s).all fun n=>M.inR n 97 122<;>rfl
theorem F.xm (v:af.D) (h_v:Sm af v):F.oE v=some (M.aY v):=by
 unfold F.oE M.aY M.text
 simp only[kH]
 rw[show decide ((v.2.2.1.size:Int)<=6)=decide (v.2.2.1.size<=6) from decide_eq_decide.2 (by omega)]
 simp only[Ty.beq]
 cases h0:decide (v.1=(0:Int))
 ·generalize decide (v.1=(1:Int))=b1
  generalize decide (v.1=(2:Int))=b2
  generalize decide (v.1=(3:Int))=b3
  generalize decide (v.2.1=(0:Int))=c0
  generalize decide (v.2.2.1.size<=6)=c6
  generalize M.inR v.2.1 (-9999) 9999=c1
  generalize M.inR v.2.1 0 1=c3
  generalize decide (v.2.2.1=M.none_)=e0
  cases b1<;>cases b2<;>cases b3<;>cases c0<;>cases c6<;>cases c1<;>cases c3<;>cases e0<;>rfl
 ·simp only[cond_true,Bool.true_and,Bool.and_true]
theorem F.yg (v:af.D) (h_v:Sm af v):F.vq v=some (M.aY v):=by
 rfl
theorem F.Bl   : F.uq  = some true:=by
 unfold F.uq
 rw[show M.aY ((1:Int),((3:Int),((⟨#[]⟩:ByteArray),())))=true from rfl,show M.aY ((9:Int),((0:Int),((⟨#[]⟩:ByteArray),())))=false from rfl]
 rfl
theorem F.uD (b:(List Int)) (p:Int) (n:Int) (h_b:Sm (Ty.sl (Ty.int .u8)) b) (p0:M.ay b) (p1:0<=p) (p2:p<=1000000000000000):ok (F.pF b p n) (fun r=>0<=r.1/\(1<=n->r.1<n)/\(n<1->r.1=0)/\r.2=p+1):=by
 unfold F.pF
 have hw:wrap64 (p+1)=p+1:=aF (by omega) (by omega)
 have hw2:wrap64 (p+1-1)=p:=by rw[show p+1-1=p by omega];exact aF (by omega) (by omega)
 simp only[hw,hw2]
 refine Lk (fun c0=>?_) (fun c0=>?_)
 ·refine okD (fun c1=>?_) (fun c1=>?_)
  ·exact okS ⟨by dsimp only;omega,fun h=>by dsimp only;omega,fun h=>rfl,rfl⟩
  ·have hl:1<=(b.length:Int):=by omega
   refine okD (fun c2=>?_) (fun c2=>?_)
   ·refine okG (okG (okG (okS ?_)))
    have:=M.Hu (M.wM p0 p) (n:=n) (by omega)
    exact⟨this.1,fun _=>this.2,fun h=>by omega,rfl⟩
   ·obtain⟨t0,t1⟩:=M.qc p1 hl
    have h7:wrap64 (wrap64 (p * 7)+3)=p * 7+3:=by rw[aF (n:=p * 7) (by omega) (by omega),aF (by omega) (by omega)]
    obtain⟨t2,t3⟩:=M.qc (a:=p * 7+3) (by omega) hl
    rw[h7]
    refine okG (okG (okG (okG (okG (okG (okS ?_))))))
    have:=M.Iw (M.wM p0 (p.tmod (b.length:Int))) (M.wM p0 ((p * 7+3).tmod (b.length:Int))) p1 p2 (M.FQ p1 hl) (n:=n) (by omega)
    exact⟨this.1,fun _=>this.2,fun h=>by omega,rfl⟩
 ·exact okS ⟨by dsimp only;omega,fun h=>by omega,fun h=>rfl,rfl⟩
theorem F.CN (b:(List Int)) (p:Int) (n:Int) (h_b:Sm (Ty.sl (Ty.int .u8)) b) (p0:M.ay b) (p1:0<=p) (p2:p<=1000000000000000):F.pF b p n=some (M.pick b p n):=dD (F.uD b p n h_b p0 p1 p2)
theorem M.GR (b:(List Int)) (p:Int) (n:Int) (h_b:Sm (Ty.sl (Ty.int .u8)) b) (p0:M.ay b) (p1:0<=p) (p2:p<=1000000000000000):0<=(M.pick b p n).1/\(1<=n->(M.pick b p n).1<n)/\(n<1->(M.pick b p n).1=0)/\(M.pick b p n).2=p+1:=dF (F.uD b p n h_b p0 p1 p2)
theorem az {α:Type} {K:α->Prop} {f:Int×Int->Option α} {b:(List Int)} {p:Int} {n:Int} (k:∀r,(0<=r.1)->(1<=n->r.1<n)->(n<1->r.1=0)->(r.2=p+1)->ok (f r) K) (h_b:Sm (Ty.sl (Ty.int .u8)) b:=by exact au) (p0:M.ay b:=by exact au) (p1:0<=p:=by exact au) (p2:p<=1000000000000000:=by exact au):ok (aG (M.pick b p n) f) K:=by
 have h:=M.GR b p n h_b p0 p1 p2
 obtain⟨h0,h1,h2,h3⟩:=h
 exact k _ h0 h1 h2 h3
theorem F.Bd (row:LV) (h_row:Sm (Ty.sl af) row):F.Az row=some row:=by
 rfl
theorem F.xI (b:(List Int)) (p:Int) (n:Int) (h_b:Sm (Ty.sl (Ty.int .u8)) b) (p0:M.ay b) (p1:0<=p) (p2:p<=999000000000000):ok (F.sj b p n) (fun r=>(n<1->r.1=false)/\p<=r.2/\r.2<=p+1):=by
  unfold F.sj
  refine iG (fun c_0=>?_) (fun c_0=>?_)
  ·refine okG ?_
   refine az fun r1 _ _ _ _=>?_
   exact tc
  ·exact tc
theorem F.DC (b:(List Int)) (p:Int) (n:Int) (h_b:Sm (Ty.sl (Ty.int .u8)) b) (p0:M.ay b) (p1:0<=p) (p2:p<=999000000000000):F.sj b p n=some (M.odd b p n):=dD (F.xI b p n h_b p0 p1 p2)
theorem M.IQ (b:(List Int)) (p:Int) (n:Int) (h_b:Sm (Ty.sl (Ty.int .u8)) b) (p0:M.ay b) (p1:0<=p) (p2:p<=999000000000000):(n<1->(M.odd b p n).1=false)/\p<=(M.odd b p n).2/\(M.odd b p n).2<=p+1:=dF (F.xI b p n h_b p0 p1 p2)
theorem cU {α:Type} {K:α->Prop} {f:Bool×Int->Option α} {b:(List Int)} {p:Int} {n:Int} (k:∀r,(n<1->r.1=false)->(p<=r.2)->(r.2<=p+1)->ok (f r) K) (h_b:Sm (Ty.sl (Ty.int .u8)) b:=by exact au) (p0:M.ay b:=by exact au) (p1:0<=p:=by exact au) (p2:p<=999000000000000:=by exact au):ok (aG (M.odd b p n) f) K:=by
 have h:=M.IQ b p n h_b p0 p1 p2
 obtain⟨h0,h1,h2⟩:=h
 exact k _ h0 h1 h2
theorem F.qQ (b:(List Int)) (p:Int) (c:ag.D) (h_b:Sm (Ty.sl (Ty.int .u8)) b) (p0:M.ay b) (p1:0<=p) (p2:p<=998000000000000):ok (F.jZ b p c) (fun r=>r.1.2.2.1.size<=20/\p<=r.2/\r.2<=p+3):=by
  unfold F.jZ
  refine okC (fun c_0=>?_) (fun c_0=>?_)
  ·refine okG ?_
   refine az fun r1 _ _ _ _=>?_
   refine okD (fun c_1=>?_) (fun c_1=>?_)
   ·exact tc
   ·refine okD (fun c_2=>?_) (fun c_2=>?_)
    ·refine okG ?_
     refine okG ?_
     refine az fun r2 h_5_1_0 h_5_1_1 h_5_1_2 h_5_1_3=>?_
     exact tc
    ·refine okD (fun c_3=>?_) (fun c_3=>?_)
     ·refine okG ?_
      refine okG ?_
      refine az fun r3 h_7_2_0 h_7_2_1 h_7_2_2 h_7_2_3=>?_
      refine okG ?_
      refine okG ?_
      exact tc
     ·refine okG ?_
      refine okG ?_
      refine az fun r4 h_8_1_0 h_8_1_1 h_8_1_2 h_8_1_3=>?_
      exact tc
  ·refine okD (fun c_4=>?_) (fun c_4=>?_)
   ·refine okG ?_
    refine az fun r2 h_5_1_0 h_5_1_1 h_5_1_2 h_5_1_3=>?_
    exact tc
   ·refine okD (fun c_5=>?_) (fun c_5=>?_)
    ·refine okG ?_
     refine az fun r3 h_7_2_0 h_7_2_1 h_7_2_2 h_7_2_3=>?_
     refine okG ?_
     refine okG ?_
     exact tc
    ·refine okG ?_
     refine az fun r4 h_8_1_0 h_8_1_1 h_8_1_2 h_8_1_3=>?_
     exact tc
theorem F.xZ (b:(List Int)) (p:Int) (c:ag.D) (h_b:Sm (Ty.sl (Ty.int .u8)) b) (p0:M.ay b) (p1:0<=p) (p2:p<=998000000000000):F.jZ b p c=some (M.kY b p c):=dD (F.qQ b p c h_b p0 p1 p2)
theorem M.CJ (b:(List Int)) (p:Int) (c:ag.D) (h_b:Sm (Ty.sl (Ty.int .u8)) b) (p0:M.ay b) (p1:0<=p) (p2:p<=998000000000000):(M.kY b p c).1.2.2.1.size<=20/\p<=(M.kY b p c).2/\(M.kY b p c).2<=p+3:=dF (F.qQ b p c h_b p0 p1 p2)
theorem pz {α:Type} {K:α->Prop} {f:af.D×Int->Option α} {b:(List Int)} {p:Int} {c:ag.D} (k:∀r,(r.1.2.2.1.size<=20)->(p<=r.2)->(r.2<=p+3)->ok (f r) K) (h_b:Sm (Ty.sl (Ty.int .u8)) b:=by exact au) (p0:M.ay b:=by exact au) (p1:0<=p:=by exact au) (p2:p<=998000000000000:=by exact au):ok (aG (M.kY b p c) f) K:=by
 have h:=M.CJ b p c h_b p0 p1 p2
 obtain⟨h0,h1,h2⟩:=h
 exact k _ h0 h1 h2
theorem F.pK (b:(List Int)) (p:Int) (n:Int) (h_b:Sm (Ty.sl (Ty.int .u8)) b) (p0:M.ay b) (p1:0<=p) (p2:p<=998000000000000):ok (F.jf b p n) (fun r=>r.1.2.2.1.size<=20/\p<=r.2/\r.2<=p+20):=by
  unfold F.jf
  refine okG ?_
  refine az fun r1 _ _ _ _=>?_
  refine okB (A:=fun e0=>p<=e0.1/\e0.1<=p+12/\e0.2.2.2.size<=3) ?_ (fun e0 h_e0=>?_)
  ·refine okW (fun(_:Nat) (_:Unit)=>True) (fun _ v0 _=>?_) 0 _ trivial
   unfold F.iQ
   refine okD (fun c_1=>?_) (fun c_1=>?_)
   ·exact cL ⟨au,au,au⟩
   ·refine okD (fun c_2=>?_) (fun c_2=>?_)
    ·refine okG ?_
     refine okG ?_
     refine okG ?_
     refine az fun r2 h_8_1_0 h_8_1_1 h_8_1_2 h_8_1_3=>?_
     refine okG ?_
     refine okG ?_
     refine az fun r3 h_9_1_0 h_9_1_1 h_9_1_2 h_9_1_3=>?_
     refine okD (fun c_3=>?_) (fun c_3=>?_)
     ·refine okG ?_
      refine okG ?_
      refine az fun r4 h_10_2_0 h_10_2_1 h_10_2_2 h_10_2_3=>?_
      refine okG ?_
      refine okG ?_
      exact cL ⟨au,au,au⟩
     ·exact cL ⟨au,au,au⟩
    ·refine okD (fun c_4=>?_) (fun c_4=>?_)
     ·refine okG ?_
      refine okG ?_
      refine okG ?_
      refine az fun r2 h_8_1_0 h_8_1_1 h_8_1_2 h_8_1_3=>?_
      refine okG ?_
      refine okG ?_
      refine az fun r3 h_9_1_0 h_9_1_1 h_9_1_2 h_9_1_3=>?_
      refine okD (fun c_5=>?_) (fun c_5=>?_)
      ·refine okG ?_
       refine okG ?_
       refine az fun r4 h_10_2_0 h_10_2_1 h_10_2_2 h_10_2_3=>?_
       refine okG ?_
       refine okG ?_
       exact cL ⟨au,au,au⟩
      ·exact cL ⟨au,au,au⟩
     ·refine okD (fun c_6=>?_) (fun c_6=>?_)
      ·refine okG ?_
       refine okG ?_
       refine okG ?_
       refine az fun r2 h_8_1_0 h_8_1_1 h_8_1_2 h_8_1_3=>?_
       refine okG ?_
       refine okG ?_
       refine az fun r3 h_9_1_0 h_9_1_1 h_9_1_2 h_9_1_3=>?_
       refine okD (fun c_7=>?_) (fun c_7=>?_)
       ·refine okG ?_
        refine okG ?_
        refine az fun r4 h_10_2_0 h_10_2_1 h_10_2_2 h_10_2_3=>?_
        refine okG ?_
        refine okG ?_
        exact cL ⟨au,au,au⟩
       ·exact cL ⟨au,au,au⟩
      ·refine okD (fun c_8=>?_) (fun c_8=>?_)
       ·refine okG ?_
        refine okG ?_
        refine okG ?_
        refine az fun r5 h_14_1_0 h_14_1_1 h_14_1_2 h_14_1_3=>?_
        refine okB (A:=fun e1=>p<=e1.1/\e1.1<=p+8/\e1.2.size<=3) ?_ (fun e1 h_e1=>?_)
        ·refine okW (fun(k:Nat) (v1:Int×Int×ByteArray)=>0<=v1.1/\v1.1<=(k:Int)/\(v1.2.2.size:Int)+v1.1<=3/\p<=v1.2.1/\v1.2.1+v1.1<=p+8) (fun k v1 hI=>?_) (3:Nat) _ ⟨au,au,au,au,au⟩
         obtain⟨i_0,i_1,i_2,i_3,i_4⟩:=hI
         unfold F.fe
         refine okD (fun c_0=>?_) (fun c_0=>?_)
         ·refine okG ?_
          refine okG ?_
          refine okG ?_
          refine az fun r6 h_17_3_0 h_17_3_1 h_17_3_2 h_17_3_3=>?_
          refine okG ?_
          exact cn ⟨k-1,by omega,au,au,au,au,au⟩
         ·exact cL ⟨au,au,au⟩
        ·obtain⟨e1_0,e1_1,e1_2⟩:=h_e1
         exact cL ⟨au,au,au⟩
       ·refine okD (fun c_9=>?_) (fun c_9=>?_)
        ·refine okG ?_
         refine okG ?_
         refine okG ?_
         refine az fun r5 h_14_1_0 h_14_1_1 h_14_1_2 h_14_1_3=>?_
         refine okB (A:=fun e1=>p<=e1.1/\e1.1<=p+8/\e1.2.size<=3) ?_ (fun e1 h_e1=>?_)
         ·refine okW (fun(k:Nat) (v1:Int×Int×ByteArray)=>0<=v1.1/\v1.1<=(k:Int)/\(v1.2.2.size:Int)+v1.1<=3/\p<=v1.2.1/\v1.2.1+v1.1<=p+8) (fun k v1 hI=>?_) (3:Nat) _ ⟨au,au,au,au,au⟩
          obtain⟨i_0,i_1,i_2,i_3,i_4⟩:=hI
          unfold F.fe
          refine okD (fun c_0=>?_) (fun c_0=>?_)
          ·refine okG ?_
           refine okG ?_
           refine okG ?_
           refine az fun r6 h_17_3_0 h_17_3_1 h_17_3_2 h_17_3_3=>?_
           refine okG ?_
           exact cn ⟨k-1,by omega,au,au,au,au,au⟩
          ·exact cL ⟨au,au,au⟩
         ·obtain⟨e1_0,e1_1,e1_2⟩:=h_e1
          exact cL ⟨au,au,au⟩
        ·refine okG ?_
         refine okG ?_
         refine okG ?_
         refine az fun r7 _ _ _ _=>?_
         exact cL ⟨au,au,au⟩
  ·obtain⟨e0_0,e0_1,e0_2⟩:=h_e0
   refine okG ?_
   refine okG ?_
   refine cU fun r8 _ _ _=>?_
   refine okC (fun c_10=>?_) (fun c_10=>?_)
   ·refine okG ?_
    refine okG ?_
    refine az fun r9 _ _ _ _=>?_
    refine okD (fun c_11=>?_) (fun c_11=>?_)
    ·exact tc
    ·refine okD (fun c_12=>?_) (fun c_12=>?_)
     ·refine okG ?_
      exact tc
     ·refine okD (fun c_13=>?_) (fun c_13=>?_)
      ·refine okG ?_
       refine okG ?_
       refine az fun r10 _ _ _ _=>?_
       exact tc
      ·refine okG ?_
       exact tc
   ·exact tc
theorem F.xl (b:(List Int)) (p:Int) (n:Int) (h_b:Sm (Ty.sl (Ty.int .u8)) b) (p0:M.ay b) (p1:0<=p) (p2:p<=998000000000000):F.jf b p n=some (M.fE b p n):=dD (F.pK b p n h_b p0 p1 p2)
theorem M.Bj (b:(List Int)) (p:Int) (n:Int) (h_b:Sm (Ty.sl (Ty.int .u8)) b) (p0:M.ay b) (p1:0<=p) (p2:p<=998000000000000):(M.fE b p n).1.2.2.1.size<=20/\p<=(M.fE b p n).2/\(M.fE b p n).2<=p+20:=dF (F.pK b p n h_b p0 p1 p2)
theorem gP {α:Type} {K:α->Prop} {f:af.D×Int->Option α} {b:(List Int)} {p:Int} {n:Int} (k:∀r,(r.1.2.2.1.size<=20)->(p<=r.2)->(r.2<=p+20)->ok (f r) K) (h_b:Sm (Ty.sl (Ty.int .u8)) b:=by exact au) (p0:M.ay b:=by exact au) (p1:0<=p:=by exact au) (p2:p<=998000000000000:=by exact au):ok (aG (M.fE b p n) f) K:=by
 have h:=M.Bj b p n h_b p0 p1 p2
 obtain⟨h0,h1,h2⟩:=h
 exact k _ h0 h1 h2
theorem F.rS (b:(List Int)) (p:Int) (LJ:LC) (n:Int) (h_b:Sm (Ty.sl (Ty.int .u8)) b) (LP:Sm (Ty.sl ag) LJ) (p0:M.ay b) (p1:0<=p) (p2:p<=997000000000000):ok (F.lC b p LJ n) (fun r=>r.1.length<=LJ.length+3/\(∀v∈r.1,v.2.2.1.size<=20)/\p<=r.2/\r.2<=p+3 * LJ.length+70/\(n<1->r.1.length=LJ.length)):=by
  unfold F.lC
  have hl:=LP.1
  refine okT (A:=fun v0=>p<=v0.1/\v0.1<=p+3 * (LJ.length:Int)/\v0.2.length=LJ.length/\(∀v∈v0.2,v.2.2.1.size<=20)) (B:=fun _=>False) ?_ (fun v0 h_v0=>?_) (fun _ h=>h.elim)
  ·refine CY (fun(k:Nat) (v0:Int×LV)=>p<=v0.1/\v0.1<=p+3 * (k:Int)/\v0.2.length=k/\(∀v∈v0.2,v.2.2.1.size<=20)) ⟨au,au,au,au⟩ (fun z0 hz k v0 hk hI=>?_)
   obtain⟨i_0,i_1,i_2,i_3⟩:=hI
   unfold F.ke
   refine okG ?_
   refine okG ?_
   refine okG ?_
   refine pz fun r1 _ _ _=>?_
   refine okG ?_
   exact cn ⟨au,au,au,au⟩
  ·obtain⟨v0_0,v0_1,v0_2,v0_3⟩:=h_v0
   refine okG ?_
   refine okG ?_
   refine cU fun r2 h_6_2_0 _ _=>?_
   refine okC (fun c_0=>?_) (fun c_0=>?_)
   ·have n_a:¬n<1:=fun q=>by rw[h_6_2_0 q] at c_0;cases c_0
    refine okG ?_
    refine okG ?_
    refine az fun r3 _ _ _ _=>?_
    refine okD (fun c_1=>?_) (fun c_1=>?_)
    ·refine okG ?_
     exact tf
    ·refine okD (fun c_2=>?_) (fun c_2=>?_)
     ·refine okD (fun c_3=>?_) (fun c_3=>?_)
      ·refine okG ?_
       refine okG ?_
       refine az fun r4 _ _ _ _=>?_
       refine okG ?_
       refine okG ?_
       refine gP fun r5 _ _ _=>?_
       refine okG ?_
       refine okG ?_
       exact tf
      ·exact tf
     ·refine okG ?_
      refine okG ?_
      refine gP fun r6 _ _ _=>?_
      refine okG ?_
      refine okG ?_
      refine gP fun r7 _ _ _=>?_
      refine okG ?_
      refine okG ?_
      refine gP fun r8 _ _ _=>?_
      refine okG ?_
      exact tf
   ·exact tf
theorem F.zX (b:(List Int)) (p:Int) (LJ:LC) (n:Int) (h_b:Sm (Ty.sl (Ty.int .u8)) b) (LP:Sm (Ty.sl ag) LJ) (p0:M.ay b) (p1:0<=p) (p2:p<=997000000000000):F.lC b p LJ n=some (M.jM b p LJ n):=dD (F.rS b p LJ n h_b LP p0 p1 p2)
theorem M.Ey (b:(List Int)) (p:Int) (LJ:LC) (n:Int) (h_b:Sm (Ty.sl (Ty.int .u8)) b) (LP:Sm (Ty.sl ag) LJ) (p0:M.ay b) (p1:0<=p) (p2:p<=997000000000000):(M.jM b p LJ n).1.length<=LJ.length+3/\(∀v∈(M.jM b p LJ n).1,v.2.2.1.size<=20)/\p<=(M.jM b p LJ n).2/\(M.jM b p LJ n).2<=p+3 * LJ.length+70/\(n<1->(M.jM b p LJ n).1.length=LJ.length):=dF (F.rS b p LJ n h_b LP p0 p1 p2)
theorem lP {α:Type} {K:α->Prop} {f:LV×Int->Option α} {b:(List Int)} {p:Int} {LJ:LC} {n:Int} (k:∀r,(r.1.length<=LJ.length+3)->(∀v∈r.1,v.2.2.1.size<=20)->(p<=r.2)->(r.2<=p+3 * LJ.length+70)->(n<1->r.1.length=LJ.length)->ok (f r) K) (h_b:Sm (Ty.sl (Ty.int .u8)) b:=by exact au) (LP:Sm (Ty.sl ag) LJ:=by exact au) (p0:M.ay b:=by exact au) (p1:0<=p:=by exact au) (p2:p<=997000000000000:=by exact au):ok (aG (M.jM b p LJ n) f) K:=by
 have h:=M.Ey b p LJ n h_b LP p0 p1 p2
 obtain⟨h0,h1,h2,h3,h4⟩:=h
 exact k _ h0 h1 h2 h3 h4
theorem F.nU (b:(List Int)) (p:Int) (LK:LTb) (n:Int) (h_b:Sm (Ty.sl (Ty.int .u8)) b) (LO:Sm (Ty.sl ai) LK) (p0:M.ay b) (p1:0<=p) (p2:p<=996000000000000) (p3:(∀t∈LK,M.iY t)) (p4:(∀t∈LK,M.nH t)) (p5:1<=LK.length) (p6:n=0):ok (F.hO b p LK n) (fun r=>r.1.2.1.length<=5/\(∀v∈r.1.2.1,v.2.2.1.size<=20)/\p<=r.2/\r.2<=p+300/\(n<1->0<=r.1.1)/\(n<1->r.1.1<(LK.length:Int))):=by
  unfold F.hO
  refine okG ?_
  refine az fun r1 h_1_3_0 h_1_3_1 _ _=>?_
  refine okG ?_
  refine okG ?_
  refine az fun r2 _ _ _ _=>?_
  have t_x:=h_1_3_1 (by omega)
  have t_a:=hU (t:=ai) h_1_3_0 (h_1_3_1 (by omega))
  obtain⟨t_e1,_,t_e2⟩:=p4 _ t_a
  refine okG ?_
  refine okG ?_
  refine okG ?_
  refine okG ?_
  refine lP fun r3 _ _ _ _ h_3_3_4=>?_
  have f_a:r3.1.length<=4:=by rw[h_3_3_4 (by decide)];exact t_e1
  refine okD (fun c_0=>?_) (fun c_0=>?_)
  ·refine okD (fun c_1=>?_) (fun c_1=>?_)
   ·refine okG ?_
    refine okG ?_
    refine az fun r4 h_7_6_0 h_7_6_1 h_7_6_2 h_7_6_3=>?_
    refine okG ?_
    refine okG ?_
    refine okL fun r5 er5=>?_
    have u_a:=hU (t:=.sl af) h_7_6_0 (h_7_6_1 (by omega))
    have f_b:r5.length<=4:=by rw[er5];exact t_e2 _ u_a
    have f_c:∀v∈r5,v.2.2.1.size<=20:=by rw[er5];exact((p3 _ t_a).2.2 _ u_a).2
    refine okG ?_
    refine okG ?_
    refine cU fun r6 h_10_2_0 h_10_2_1 h_10_2_2=>?_
    refine okC (fun c_2=>?_) (fun c_2=>?_)
    ·exact okN
    ·exact DA
   ·refine okG ?_
    refine okG ?_
    refine cU fun r6 h_10_2_0 h_10_2_1 h_10_2_2=>?_
    refine okC (fun c_3=>?_) (fun c_3=>?_)
    ·exact okN
    ·exact DA
  ·refine okC (fun c_4=>?_) (fun c_4=>?_)
   ·refine okD (fun c_5=>?_) (fun c_5=>?_)
    ·refine okG ?_
     refine okG ?_
     refine az fun r4 h_7_6_0 h_7_6_1 h_7_6_2 h_7_6_3=>?_
     refine okG ?_
     refine okG ?_
     refine okL fun r5 er5=>?_
     have u_a:=hU (t:=.sl af) h_7_6_0 (h_7_6_1 (by omega))
     have f_b:r5.length<=4:=by rw[er5];exact t_e2 _ u_a
     have f_c:∀v∈r5,v.2.2.1.size<=20:=by rw[er5];exact((p3 _ t_a).2.2 _ u_a).2
     refine okD (fun c_6=>?_) (fun c_6=>?_)
     ·refine okG ?_
      refine okG ?_
      refine cU fun r6 h_10_2_0 h_10_2_1 h_10_2_2=>?_
      refine okC (fun c_7=>?_) (fun c_7=>?_)
      ·exact okN
      ·exact DA
     ·refine okG ?_
      refine okG ?_
      refine cU fun r6 h_10_2_0 h_10_2_1 h_10_2_2=>?_
      refine okC (fun c_8=>?_) (fun c_8=>?_)
      ·exact okN
      ·exact DA
    ·refine okD (fun c_9=>?_) (fun c_9=>?_)
     ·refine okG ?_
      refine okG ?_
      refine cU fun r6 h_10_2_0 h_10_2_1 h_10_2_2=>?_
      refine okC (fun c_10=>?_) (fun c_10=>?_)
      ·exact okN
      ·exact DA
     ·refine okG ?_
      refine okG ?_
      refine cU fun r6 h_10_2_0 h_10_2_1 h_10_2_2=>?_
      refine okC (fun c_11=>?_) (fun c_11=>?_)
      ·exact okN
      ·exact DA
   ·refine okD (fun c_12=>?_) (fun c_12=>?_)
    ·refine okG ?_
     refine okG ?_
     refine cU fun r6 h_10_2_0 h_10_2_1 h_10_2_2=>?_
     refine okC (fun c_13=>?_) (fun c_13=>?_)
     ·exact okN
     ·exact DA
    ·refine okG ?_
     refine okG ?_
     refine cU fun r6 h_10_2_0 h_10_2_1 h_10_2_2=>?_
     refine okC (fun c_14=>?_) (fun c_14=>?_)
     ·exact okN
     ·exact DA
theorem F.vz (b:(List Int)) (p:Int) (LK:LTb) (n:Int) (h_b:Sm (Ty.sl (Ty.int .u8)) b) (LO:Sm (Ty.sl ai) LK) (p0:M.ay b) (p1:0<=p) (p2:p<=996000000000000) (p3:(∀t∈LK,M.iY t)) (p4:(∀t∈LK,M.nH t)) (p5:1<=LK.length) (p6:n=0):F.hO b p LK n=some (M.ff b p LK n):=dD (F.nU b p LK n h_b LO p0 p1 p2 p3 p4 p5 p6)
theorem M.zH (b:(List Int)) (p:Int) (LK:LTb) (n:Int) (h_b:Sm (Ty.sl (Ty.int .u8)) b) (LO:Sm (Ty.sl ai) LK) (p0:M.ay b) (p1:0<=p) (p2:p<=996000000000000) (p3:(∀t∈LK,M.iY t)) (p4:(∀t∈LK,M.nH t)) (p5:1<=LK.length) (p6:n=0):(M.ff b p LK n).1.2.1.length<=5/\(∀v∈(M.ff b p LK n).1.2.1,v.2.2.1.size<=20)/\p<=(M.ff b p LK n).2/\(M.ff b p LK n).2<=p+300/\(n<1->0<=(M.ff b p LK n).1.1)/\(n<1->(M.ff b p LK n).1.1<(LK.length:Int)):=dF (F.nU b p LK n h_b LO p0 p1 p2 p3 p4 p5 p6)
theorem nx {α:Type} {K:α->Prop} {f:aK.D×Int->Option α} {b:(List Int)} {p:Int} {LK:LTb} {n:Int} (k:∀r,(r.1.2.1.length<=5)->(∀v∈r.1.2.1,v.2.2.1.size<=20)->(p<=r.2)->(r.2<=p+300)->(n<1->0<=r.1.1)->(n<1->r.1.1<(LK.length:Int))->ok (f r) K) (h_b:Sm (Ty.sl (Ty.int .u8)) b:=by exact au) (LO:Sm (Ty.sl ai) LK:=by exact au) (p0:M.ay b:=by exact au) (p1:0<=p:=by exact au) (p2:p<=996000000000000:=by exact au) (p3:(∀t∈LK,M.iY t):=by exact au) (p4:(∀t∈LK,M.nH t):=by exact au) (p5:1<=LK.length:=by exact au) (p6:n=0:=by exact au):ok (aG (M.ff b p LK n) f) K:=by
 have h:=M.zH b p LK n h_b LO p0 p1 p2 p3 p4 p5 p6
 obtain⟨h0,h1,h2,h3,h4,h5⟩:=h
 exact k _ h0 h1 h2 h3 h4 h5
theorem F.nr (b:(List Int)) (p:Int) (n:Int) (h_b:Sm (Ty.sl (Ty.int .u8)) b) (p0:M.ay b) (p1:0<=p) (p2:p<=998000000000000):ok (F.gz b p n) (fun r=>1<=r.1.length/\r.1.length<=6/\p<=r.2/\r.2<=p+20):=by
  unfold F.gz
  refine okG ?_
  refine az fun r1 _ _ _ _=>?_
  refine okB (A:=fun e0=>p<=e0.1/\e0.1<=p+10/\1<=e0.2.length/\e0.2.length<=3) ?_ (fun e0 h_e0=>?_)
  ·refine okW (fun(k:Nat) (v0:Int×Int×LC)=>0<=v0.1/\v0.1<=(k:Int)/\(v0.2.2.length:Int)+v0.1<=3/\1<=(v0.2.2.length:Int)+v0.1/\p<=v0.2.1/\v0.2.1+2 * v0.1<=p+10) (fun k v0 hI=>?_) (3:Nat) _ ⟨au,au,au,au,au,au⟩
   obtain⟨i_0,i_1,i_2,i_3,i_4,i_5⟩:=hI
   unfold F.gn
   refine okD (fun c_0=>?_) (fun c_0=>?_)
   ·refine okG ?_
    refine okG ?_
    refine okG ?_
    refine az fun r2 _ _ _ _=>?_
    refine okG ?_
    refine okG ?_
    refine okG ?_
    refine okG ?_
    refine az fun r3 _ _ _ _=>?_
    refine okG ?_
    exact cn ⟨k-1,by omega,au,au,au,au,au,au⟩
   ·exact cL ⟨au,au,au,au⟩
  ·obtain⟨e0_0,e0_1,e0_2,e0_3⟩:=h_e0
   refine okG ?_
   refine okG ?_
   refine cU fun r4 _ _ _=>?_
   refine okC (fun c_1=>?_) (fun c_1=>?_)
   ·refine okG ?_
    refine okG ?_
    refine az fun r5 _ _ _ _=>?_
    refine okG ?_
    exact Fs
   ·exact Fs
theorem F.tF (b:(List Int)) (p:Int) (n:Int) (h_b:Sm (Ty.sl (Ty.int .u8)) b) (p0:M.ay b) (p1:0<=p) (p2:p<=998000000000000):F.gz b p n=some (M.gu b p n):=dD (F.nr b p n h_b p0 p1 p2)
theorem M.yL (b:(List Int)) (p:Int) (n:Int) (h_b:Sm (Ty.sl (Ty.int .u8)) b) (p0:M.ay b) (p1:0<=p) (p2:p<=998000000000000):1<=(M.gu b p n).1.length/\(M.gu b p n).1.length<=6/\p<=(M.gu b p n).2/\(M.gu b p n).2<=p+20:=dF (F.nr b p n h_b p0 p1 p2)
theorem sX {α:Type} {K:α->Prop} {f:LC×Int->Option α} {b:(List Int)} {p:Int} {n:Int} (k:∀r,(1<=r.1.length)->(r.1.length<=6)->(p<=r.2)->(r.2<=p+20)->ok (f r) K) (h_b:Sm (Ty.sl (Ty.int .u8)) b:=by exact au) (p0:M.ay b:=by exact au) (p1:0<=p:=by exact au) (p2:p<=998000000000000:=by exact au):ok (aG (M.gu b p n) f) K:=by
 have h:=M.yL b p n h_b p0 p1 p2
 obtain⟨h0,h1,h2,h3⟩:=h
 exact k _ h0 h1 h2 h3
theorem F.rY (b:(List Int)) (p:Int) (c:LC) (n:Int) (h_b:Sm (Ty.sl (Ty.int .u8)) b) (h_c:Sm (Ty.sl ag) c) (p0:M.ay b) (p1:0<=p) (p2:p<=996000000000000) (p3:c.length<=6) (p4:n=0):ok (F.lE b p c n) (fun r=>r.1.length<=6/\(∀w∈r.1,M.wZ w)/\p<=r.2/\r.2<=p+1000/\(∀w∈r.1,w.length=c.length)):=by
  unfold F.lE
  have hl:=p3
  refine okG ?_
  refine az fun r1 _ _ _ _=>?_
  refine okB (A:=fun e0=>p<=e0.1/\e0.1<=p+700/\e0.2.length<=6/\(∀w∈e0.2,M.wZ w)/\(∀w∈e0.2,w.length=c.length)) ?_ (fun e0 h_e0=>?_)
  ·refine okW (fun(k:Nat) (v0:Int×Int×LLV)=>0<=v0.1/\v0.1<=(k:Int)/\(v0.2.2.length:Int)+v0.1<=6/\(∀w∈v0.2.2,M.wZ w)/\p<=v0.2.1/\v0.2.1+100 * v0.1<=p+700/\(∀w∈v0.2.2,w.length=c.length)) (fun k v0 hI=>?_) (6:Nat) _ ⟨au,au,au,au,au,au,au⟩
   obtain⟨i_0,i_1,i_2,i_3,i_4,i_5,i_6⟩:=hI
   unfold F.jR
   refine okD (fun c_0=>?_) (fun c_0=>?_)
   ·refine iG (fun c_1=>?_) (fun c_1=>?_)
    ·refine okG ?_
     refine okG ?_
     refine okG ?_
     refine az fun r2 _ _ _ _=>?_
     refine okD (fun c_2=>?_) (fun c_2=>?_)
     ·refine okG ?_
      refine okG ?_
      refine az fun r3 h_6_5_0 h_6_5_1 _ _=>?_
      refine okG ?_
      refine okG ?_
      refine okG ?_
      refine okL fun r4 er4=>?_
      have w_a:M.wZ r4:=er4▸M.zW i_3 _
      have w_b:r4.length=c.length:=by rw[er4];exact i_6 _ (hU (t:=.sl af) h_6_5_0 (h_6_5_1 (by omega)))
      refine okG ?_
      exact cn ⟨k-1,by omega,au,au,au,au,au,au,au⟩
     ·refine okG ?_
      refine okG ?_
      refine lP fun r5 h_7_4_0 h_7_4_1 h_7_4_2 h_7_4_3 h_7_4_4=>?_
      have w_c:r5.1.length=c.length:=h_7_4_4 (by omega)
      refine okG ?_
      exact cn ⟨k-1,by omega,au,au,au,au,au,au,au⟩
    ·refine okG ?_
     refine okG ?_
     refine okG ?_
     refine lP fun r5 h_7_4_0 h_7_4_1 h_7_4_2 h_7_4_3 h_7_4_4=>?_
     have w_c:r5.1.length=c.length:=h_7_4_4 (by omega)
     refine okG ?_
     exact cn ⟨k-1,by omega,au,au,au,au,au,au,au⟩
   ·exact cL ⟨au,au,au,au,au⟩
  ·obtain⟨e0_0,e0_1,e0_2,e0_3,e0_4⟩:=h_e0
   exact tf
theorem F.zP (b:(List Int)) (p:Int) (c:LC) (n:Int) (h_b:Sm (Ty.sl (Ty.int .u8)) b) (h_c:Sm (Ty.sl ag) c) (p0:M.ay b) (p1:0<=p) (p2:p<=996000000000000) (p3:c.length<=6) (p4:n=0):F.lE b p c n=some (M.oA b p c n):=dD (F.rY b p c n h_b h_c p0 p1 p2 p3 p4)
theorem M.Ed (b:(List Int)) (p:Int) (c:LC) (n:Int) (h_b:Sm (Ty.sl (Ty.int .u8)) b) (h_c:Sm (Ty.sl ag) c) (p0:M.ay b) (p1:0<=p) (p2:p<=996000000000000) (p3:c.length<=6) (p4:n=0):(M.oA b p c n).1.length<=6/\(∀w∈(M.oA b p c n).1,M.wZ w)/\p<=(M.oA b p c n).2/\(M.oA b p c n).2<=p+1000/\(∀w∈(M.oA b p c n).1,w.length=c.length):=dF (F.rY b p c n h_b h_c p0 p1 p2 p3 p4)
theorem yD {α:Type} {K:α->Prop} {f:LLV×Int->Option α} {b:(List Int)} {p:Int} {c:LC} {n:Int} (k:∀r,(r.1.length<=6)->(∀w∈r.1,M.wZ w)->(p<=r.2)->(r.2<=p+1000)->(∀w∈r.1,w.length=c.length)->ok (f r) K) (h_b:Sm (Ty.sl (Ty.int .u8)) b:=by exact au) (h_c:Sm (Ty.sl ag) c:=by exact au) (p0:M.ay b:=by exact au) (p1:0<=p:=by exact au) (p2:p<=996000000000000:=by exact au) (p3:c.length<=6:=by exact au) (p4:n=0:=by exact au):ok (aG (M.oA b p c n) f) K:=by
 have h:=M.Ed b p c n h_b h_c p0 p1 p2 p3 p4
 obtain⟨h0,h1,h2,h3,h4⟩:=h
 exact k _ h0 h1 h2 h3 h4
theorem F.oh (b:(List Int)) (p:Int) (n:Int) (h_b:Sm (Ty.sl (Ty.int .u8)) b) (p0:M.ay b) (p1:0<=p) (p2:p<=995000000000000) (p3:n=0):ok (F.hG b p n) (fun r=>r.1.length<=6/\1<=r.1.length/\(∀t∈r.1,M.iY t)/\p<=r.2/\r.2<=p+10000/\(n<1->r.1.length<=3)/\(n<1->(∀t∈r.1,M.nH t))/\(n<1->(∀t∈r.1,M.Fg t))):=by
  unfold F.hG
  refine okG ?_
  refine az fun r1 _ _ _ _=>?_
  refine okB (A:=fun e0=>p<=e0.1/\e0.1<=p+6100/\e0.2.length<=3/\1<=e0.2.length/\(∀t∈e0.2,M.iY t)/\(∀t∈e0.2,M.nH t)/\(∀t∈e0.2,M.Fg t)) ?_ (fun e0 h_e0=>?_)
  ·refine okW (fun(k:Nat) (v0:Int×Int×LTb)=>0<=v0.1/\v0.1<=(k:Int)/\(v0.2.2.length:Int)+v0.1<=3/\1<=(v0.2.2.length:Int)+v0.1/\(∀t∈v0.2.2,M.iY t)/\p<=v0.2.1/\v0.2.1+2000 * v0.1<=p+6100/\(∀t∈v0.2.2,M.nH t)/\(∀t∈v0.2.2,M.Fg t)) (fun k v0 hI=>?_) (3:Nat) _ ⟨au,au,au,au,au,au,au,au,au⟩
   obtain⟨i_0,i_1,i_2,i_3,i_4,i_5,i_6,i_7,i_8⟩:=hI
   unfold F.gV
   refine okD (fun c_0=>?_) (fun c_0=>?_)
   ·refine okG ?_
    refine okG ?_
    refine okG ?_
    refine sX fun r2 _ _ _ _=>?_
    refine okG ?_
    refine okG ?_
    refine az fun r3 h_6_2_0 h_6_2_1 _ _=>?_
    refine okG ?_
    refine okG ?_
    refine okG ?_
    refine okG ?_
    refine okG ?_
    refine okG ?_
    refine okG ?_
    refine okG ?_
    refine yD fun r4 _ _ _ _ h_7_3_4=>?_
    have q_a:=M.Lu h_6_2_0 (h_6_2_1 (by decide)) (n:=(r2.1.length:Int)) (by omega)
    have q_b:(aj r2.1 (some ((0:Int),wrap64 ((1:Int)+(r3.1.tmod (r2.1.length:Int)))))).length<=2:=M.KP q_a
    have q_c:M.nH ((aj r2.1 (some ((0:Int),wrap64 ((1:Int)+(r3.1.tmod (r2.1.length:Int)))))),(r4.1,())):=⟨Nat.le_trans q_b (by decide),by omega,fun w hw=>by rw[h_7_3_4 w hw];omega⟩
    have q_d:M.Fg ((aj r2.1 (some ((0:Int),wrap64 ((1:Int)+(r3.1.tmod (r2.1.length:Int)))))),(r4.1,())):=M.Gv (M.KR h_6_2_0 (by omega) (by omega)).1 (by omega) (M.Lw h_6_2_0 (by omega) (by omega))
    refine okG ?_
    exact cn ⟨k-1,by omega,au,au,au,au,au,au,au,au,au⟩
   ·exact cL ⟨au,au,au,au,au,au,au⟩
  ·obtain⟨e0_0,e0_1,e0_2,e0_3,e0_4,e0_5,e0_6⟩:=h_e0
   refine okG ?_
   refine okG ?_
   refine cU fun r5 h_9_2_0 _ _=>?_
   refine okC (fun c_1=>?_) (fun c_1=>?_)
   ·have n_a:¬n<1:=fun q=>by rw[h_9_2_0 q] at c_1;cases c_1
    obtain⟨t_1,t_2,_⟩:=M.Ic e0_5 (0:Int)
    exact okN
   ·have t_b:n<1->∀t∈e0.2,M.nH t:=fun _=>e0_5
    have t_c:n<1->∀t∈e0.2,M.Fg t:=fun _=>e0_6
    exact Lx
theorem F.uI (b:(List Int)) (p:Int) (n:Int) (h_b:Sm (Ty.sl (Ty.int .u8)) b) (p0:M.ay b) (p1:0<=p) (p2:p<=995000000000000) (p3:n=0):F.hG b p n=some (M.fh b p n):=dD (F.oh b p n h_b p0 p1 p2 p3)
theorem M.zO (b:(List Int)) (p:Int) (n:Int) (h_b:Sm (Ty.sl (Ty.int .u8)) b) (p0:M.ay b) (p1:0<=p) (p2:p<=995000000000000) (p3:n=0):(M.fh b p n).1.length<=6/\1<=(M.fh b p n).1.length/\(∀t∈(M.fh b p n).1,M.iY t)/\p<=(M.fh b p n).2/\(M.fh b p n).2<=p+10000/\(n<1->(M.fh b p n).1.length<=3)/\(n<1->(∀t∈(M.fh b p n).1,M.nH t))/\(n<1->(∀t∈(M.fh b p n).1,M.Fg t)):=dF (F.oh b p n h_b p0 p1 p2 p3)
theorem tM {α:Type} {K:α->Prop} {f:LTb×Int->Option α} {b:(List Int)} {p:Int} {n:Int} (k:∀r,(r.1.length<=6)->(1<=r.1.length)->(∀t∈r.1,M.iY t)->(p<=r.2)->(r.2<=p+10000)->(n<1->r.1.length<=3)->(n<1->(∀t∈r.1,M.nH t))->(n<1->(∀t∈r.1,M.Fg t))->ok (f r) K) (h_b:Sm (Ty.sl (Ty.int .u8)) b:=by exact au) (p0:M.ay b:=by exact au) (p1:0<=p:=by exact au) (p2:p<=995000000000000:=by exact au) (p3:n=0:=by exact au):ok (aG (M.fh b p n) f) K:=by
 have h:=M.zO b p n h_b p0 p1 p2 p3
 obtain⟨h0,h1,h2,h3,h4,h5,h6,h7⟩:=h
 exact k _ h0 h1 h2 h3 h4 h5 h6 h7
theorem F.qU (b:(List Int)) (p:Int) (LJ:LC) (kind:Int) (h_b:Sm (Ty.sl (Ty.int .u8)) b) (LP:Sm (Ty.sl ag) LJ) (p0:M.ay b) (p1:0<=p) (p2:p<=997000000000000):ok (F.jY b p LJ kind) (fun r=>r.1.2.2.1.2.2.1.size<=20/\p<=r.2/\r.2<=p+20):=by
  unfold F.jY
  have hl:=LP.1
  refine okT (A:=fun e0=>p<=e0/\e0<=p+8) (B:=fun q0=>p<=q0.1/\q0.1<=p+10) ?_ (fun e0 h_e0=>?_) (fun q0 h_q0=>?_)
  ·refine okW (fun(k:Nat) (v0:Int×Int)=>0<=v0.1/\v0.1<=4/\4<=v0.1+(k:Int)/\p<=v0.2/\v0.2<=p+2 * v0.1) (fun k v0 hI=>?_) (4:Nat) _ ⟨au,au,au,au,au⟩
   obtain⟨i_0,i_1,i_2,i_3,i_4⟩:=hI
   unfold F.jr
   refine iG (fun c_0=>?_) (fun c_0=>?_)
   ·refine okD (fun c_1=>?_) (fun c_1=>?_)
    ·refine okG ?_
     refine okG ?_
     refine okG ?_
     refine az fun r1 _ _ _ _=>?_
     refine okG ?_
     refine okG ?_
     refine iG (fun c_2=>?_) (fun c_2=>?_)
     ·refine okG ?_
      refine okG ?_
      refine az fun r2 _ _ _ _=>?_
      refine okD (fun c_3=>?_) (fun c_3=>?_)
      ·exact IZ ⟨au,au⟩
      ·exact cn ⟨k-1,by omega,au,au,au,au,au⟩
     ·exact cn ⟨k-1,by omega,au,au,au,au,au⟩
    ·exact FH ⟨au,au⟩
   ·exact FH ⟨au,au⟩
  ·obtain⟨e0_0,e0_1⟩:=h_e0
   refine okG ?_
   refine okG ?_
   refine pz fun r3 _ _ _=>?_
   exact tc
  ·obtain⟨q0_0,q0_1⟩:=h_q0
   exact tc
theorem F.yE (b:(List Int)) (p:Int) (LJ:LC) (kind:Int) (h_b:Sm (Ty.sl (Ty.int .u8)) b) (LP:Sm (Ty.sl ag) LJ) (p0:M.ay b) (p1:0<=p) (p2:p<=997000000000000):F.jY b p LJ kind=some (M.fM b p LJ kind):=dD (F.qU b p LJ kind h_b LP p0 p1 p2)
theorem M.CS (b:(List Int)) (p:Int) (LJ:LC) (kind:Int) (h_b:Sm (Ty.sl (Ty.int .u8)) b) (LP:Sm (Ty.sl ag) LJ) (p0:M.ay b) (p1:0<=p) (p2:p<=997000000000000):(M.fM b p LJ kind).1.2.2.1.2.2.1.size<=20/\p<=(M.fM b p LJ kind).2/\(M.fM b p LJ kind).2<=p+20:=dF (F.qU b p LJ kind h_b LP p0 p1 p2)
theorem fR {α:Type} {K:α->Prop} {f:aD.D×Int->Option α} {b:(List Int)} {p:Int} {LJ:LC} {kind:Int} (k:∀r,(r.1.2.2.1.2.2.1.size<=20)->(p<=r.2)->(r.2<=p+20)->ok (f r) K) (h_b:Sm (Ty.sl (Ty.int .u8)) b:=by exact au) (LP:Sm (Ty.sl ag) LJ:=by exact au) (p0:M.ay b:=by exact au) (p1:0<=p:=by exact au) (p2:p<=997000000000000:=by exact au):ok (aG (M.fM b p LJ kind) f) K:=by
 have h:=M.CS b p LJ kind h_b LP p0 p1 p2
 obtain⟨h0,h1,h2⟩:=h
 exact k _ h0 h1 h2
theorem dP {α:Type} {K:α->Prop} {f:LPt×Int->Option α} {n_:Nat} (ih:∀(b:(List Int)),∀(p:Int),∀(LJ:LC),∀(kind:Int),∀(deep:Int),(Sm (Ty.sl (Ty.int .u8)) b)->(Sm (Ty.sl ag) LJ)->(M.ay b)->(0<=p)->(p+40 * (M.eB deep:Int)<=996000000000000)->(deep<=3)->(deep.toNat<n_)->1<=(M.cv n_ b p LJ kind deep).1.length/\(M.cv n_ b p LJ kind deep).1.length<=M.eB deep/\(∀v∈(M.cv n_ b p LJ kind deep).1,v.2.2.1.2.2.1.size<=20)/\p<=(M.cv n_ b p LJ kind deep).2/\(M.cv n_ b p LJ kind deep).2<=p+40 * M.eB deep) {b:(List Int)} {p:Int} {LJ:LC} {kind:Int} {deep:Int} (k:∀r,(1<=r.1.length)->(r.1.length<=M.eB deep)->(∀v∈r.1,v.2.2.1.2.2.1.size<=20)->(p<=r.2)->(r.2<=p+40 * M.eB deep)->ok (f r) K) (h_b:Sm (Ty.sl (Ty.int .u8)) b:=by exact au) (LP:Sm (Ty.sl ag) LJ:=by exact au) (p0:M.ay b:=by exact au) (p1:0<=p:=by exact au) (p2:p+40 * (M.eB deep:Int)<=996000000000000:=by exact au) (p3:deep<=3:=by exact au) (p4:deep.toNat<n_:=by exact au):ok (aG (M.cv n_ b p LJ kind deep) f) K:=by
 have h:=ih b p LJ kind deep h_b LP p0 p1 p2 p3 p4
 obtain⟨h0,h1,h2,h3,h4⟩:=h
 exact k _ h0 h1 h2 h3 h4
theorem F.qS (n_:Nat) (ih:∀(b:(List Int)),∀(p:Int),∀(LJ:LC),∀(kind:Int),∀(deep:Int),(Sm (Ty.sl (Ty.int .u8)) b)->(Sm (Ty.sl ag) LJ)->(M.ay b)->(0<=p)->(p+40 * (M.eB deep:Int)<=996000000000000)->(deep<=3)->(deep.toNat<n_)->1<=(M.cv n_ b p LJ kind deep).1.length/\(M.cv n_ b p LJ kind deep).1.length<=M.eB deep/\(∀v∈(M.cv n_ b p LJ kind deep).1,v.2.2.1.2.2.1.size<=20)/\p<=(M.cv n_ b p LJ kind deep).2/\(M.cv n_ b p LJ kind deep).2<=p+40 * M.eB deep) (b:(List Int)) (p:Int) (LJ:LC) (kind:Int) (deep:Int) (h_b:Sm (Ty.sl (Ty.int .u8)) b) (LP:Sm (Ty.sl ag) LJ) (p0:M.ay b) (p1:0<=p) (p2:p+40 * (M.eB deep:Int)<=996000000000000) (p3:deep<=3) (p4:deep.toNat<(n_+1)):ok (F.mm n_ b p LJ kind deep) (fun r=>1<=r.1.length/\r.1.length<=M.eB deep/\(∀v∈r.1,v.2.2.1.2.2.1.size<=20)/\p<=r.2/\r.2<=p+40 * M.eB deep):=by
  unfold F.mm
  unfold F.oY
  have hE0:=M.Gk (d:=deep)
  have hE1:=M.Gk (d:=wrap64 (deep-(1:Int)))
  have hE2:=M.Gk (d:=wrap64 (deep-(2:Int)))
  have hE3:=M.Lj (d:=deep) p3
  have hE4:=M.Lg (d:=deep) p3
  refine Lk (fun c_0=>?_) (fun c_0=>?_)
  ·refine okG ?_
   refine az fun r1 _ _ _ _=>?_
   refine okD (fun c_1=>?_) (fun c_1=>?_)
   ·refine okG ?_
    refine okG ?_
    refine fR fun r2 h_2_3_0 h_2_3_1 h_2_3_2=>?_
    exact tf
   ·refine okD (fun c_2=>?_) (fun c_2=>?_)
    ·refine okG ?_
     refine okG ?_
     refine okG ?_
     refine okG ?_
     refine dP ih fun r3 _ _ _ _ _=>?_
     refine okG ?_
     refine okG ?_
     refine fR fun r4 _ _ _=>?_
     refine okG ?_
     refine okG ?_
     exact tf
    ·refine okD (fun c_3=>?_) (fun c_3=>?_)
     ·refine okG ?_
      refine okG ?_
      refine fR fun r5 _ _ _=>?_
      exact tf
     ·refine okG ?_
      refine okG ?_
      refine az fun r6 _ _ _ _=>?_
      refine okD (fun c_4=>?_) (fun c_4=>?_)
      ·refine okG ?_
       refine okG ?_
       refine okG ?_
       refine okG ?_
       refine dP ih fun r7 _ _ _ _ _=>?_
       refine okG ?_
       refine okG ?_
       refine okG ?_
       refine okG ?_
       refine dP ih fun r8 _ _ _ _ _=>?_
       refine okG ?_
       refine okG ?_
       refine okG ?_
       refine az fun r9 _ _ _ _=>?_
       refine okG ?_
       exact tf
      ·refine okD (fun c_5=>?_) (fun c_5=>?_)
       ·refine okG ?_
        refine okG ?_
        refine okG ?_
        refine okG ?_
        refine dP ih fun r10 _ _ _ _ _=>?_
        refine okG ?_
        exact tf
       ·refine okD (fun c_6=>?_) (fun c_6=>?_)
        ·refine okG ?_
         refine okG ?_
         refine az fun r11 _ _ _ _=>?_
         refine okG ?_
         refine okG ?_
         refine okG ?_
         refine okG ?_
         refine dP ih fun r12 _ _ _ _ _=>?_
         refine okG ?_
         exact tf
        ·refine okG ?_
         refine okG ?_
         refine az fun r13 _ _ _ _=>?_
         refine okG ?_
         refine okG ?_
         refine okG ?_
         refine okG ?_
         refine dP ih fun r14 _ _ _ _ _=>?_
         refine okG ?_
         refine okG ?_
         refine fR fun r15 _ _ _=>?_
         refine okG ?_
         refine okG ?_
         refine okG ?_
         refine az fun r16 _ _ _ _=>?_
         refine okG ?_
         exact tf
  ·refine okG ?_
   refine fR fun r2 h_2_3_0 h_2_3_1 h_2_3_2=>?_
   exact tf
theorem M.qz:∀(n_:Nat),∀(b:(List Int)),∀(p:Int),∀(LJ:LC),∀(kind:Int),∀(deep:Int),(Sm (Ty.sl (Ty.int .u8)) b)->(Sm (Ty.sl ag) LJ)->(M.ay b)->(0<=p)->(p+40 * (M.eB deep:Int)<=996000000000000)->(deep<=3)->(deep.toNat<n_)->1<=(M.cv n_ b p LJ kind deep).1.length/\(M.cv n_ b p LJ kind deep).1.length<=M.eB deep/\(∀v∈(M.cv n_ b p LJ kind deep).1,v.2.2.1.2.2.1.size<=20)/\p<=(M.cv n_ b p LJ kind deep).2/\(M.cv n_ b p LJ kind deep).2<=p+40 * M.eB deep
 | 0,b,p,LJ,kind,deep,h_b,LP,p0,p1,p2,p3,p4=>absurd p4 (Nat.not_lt_zero _)
 | n_+1,b,p,LJ,kind,deep,h_b,LP,p0,p1,p2,p3,p4=>dF (F.qS n_ (M.qz n_) b p LJ kind deep h_b LP p0 p1 p2 p3 p4)
theorem F.yG (n_:Nat) (b:(List Int)) (p:Int) (LJ:LC) (kind:Int) (deep:Int) (h_b:Sm (Ty.sl (Ty.int .u8)) b) (LP:Sm (Ty.sl ag) LJ) (p0:M.ay b) (p1:0<=p) (p2:p+40 * (M.eB deep:Int)<=996000000000000) (p3:deep<=3) (p4:deep.toNat<(n_+1)):F.mm n_ b p LJ kind deep=some (M.cv (n_+1) b p LJ kind deep):=dD (F.qS n_ (M.qz n_) b p LJ kind deep h_b LP p0 p1 p2 p3 p4)
theorem eF {α:Type} {K:α->Prop} {f:LPt×Int->Option α} {n_:Nat} {b:(List Int)} {p:Int} {LJ:LC} {kind:Int} {deep:Int} (k:∀r,(1<=r.1.length)->(r.1.length<=M.eB deep)->(∀v∈r.1,v.2.2.1.2.2.1.size<=20)->(p<=r.2)->(r.2<=p+40 * M.eB deep)->ok (f r) K) (h_b:Sm (Ty.sl (Ty.int .u8)) b:=by exact au) (LP:Sm (Ty.sl ag) LJ:=by exact au) (p0:M.ay b:=by exact au) (p1:0<=p:=by exact au) (p2:p+40 * (M.eB deep:Int)<=996000000000000:=by exact au) (p3:deep<=3:=by exact au) (p4:deep.toNat<n_:=by exact au):ok (aG (M.cv n_ b p LJ kind deep) f) K:=by
 have h:=M.qz n_ b p LJ kind deep h_b LP p0 p1 p2 p3 p4
 obtain⟨h0,h1,h2,h3,h4⟩:=h
 exact k _ h0 h1 h2 h3 h4
theorem F.Cw (n:Int) (low:Int) (high:Int)  : F.wX n low high=some (M.inR n low high):=by
 unfold F.wX M.inR
 cases decide (low<=n)<;>rfl
theorem F.uY (LJ:LC) (LP:Sm (Ty.sl ag) LJ):F.mQ LJ=some (M.cm LJ):=by
 unfold F.mQ M.cm
 rw[rM M.eZ () (fun x _=>by simp only[F.gX,vW,dQ]<;>rfl),show decide ((LJ.length:Int)<=4)=decide (LJ.length<=4) from decide_eq_decide.2 (by omega)]
 cases LJ.all M.eZ<;>simp
theorem F.As (s:ByteArray) (h_s:Sm Ty.str s):F.rI s=some (M.text s):=by
 unfold F.rI M.text M.lower
 have key:∀c:Int,(cond ((decide (c<97))==false) (cond (decide (122<c)) (some (Sum.inr ())) (some (Sum.inl ()))) (some (Sum.inr ())):Option (Sum Unit Unit))=some (cond (M.inR c 97 122) (.inl ()) (.inr ())):=by
  intro c
  unfold M.inR
  by_cases h2:c<97
  ·simp[h2,show ¬ 97<=c by omega]
  ·by_cases h3:122<c
   ·simp[h2,h3,show 97<=c by omega,show ¬c<=122 by omega]
   ·simp[h2,h3,show 97<=c by omega,show c<=122 by omega]
 rw[rM (fun i=>M.inR (nth (t:=.int .u8) (cj s) i) 97 122) () (fun i hi=>by
  obtain⟨h0,h1⟩:=fo.1 hi
  simp only[F.jT,CZ h0 h1]
  exact key _)]
 rw[<-lM,Hj (t:=.int .u8) (cj s) (fun n=>M.inR n 97 122),show decide (((cj s).length:Int)<=6)=decide ((cj s).length<=6) from decide_eq_decide.2 (by omega)]
 cases (cj s).all fun n=>M.inR n 97 122<;>simp
theorem F.ye (v:af.D) (h_v:Sm af v):F.qt v=some (M.aY v):=by
 unfold F.qt M.aY
 simp only[kH]
 simp only[dQ]
theorem F.zF (LJ:LC) (LM:(List Int)) (p:aD.D) (LP:Sm (Ty.sl ag) LJ) (h_kinds:Sm (Ty.sl (Ty.int .i64)) LM) (h_p:Sm aD p) (p0:LM.length<=1000):F.lD LJ LM p=some (M.wY LJ LM p):=by
 obtain⟨o,s,e,_⟩:=vl (LJ:=LJ) p p0 LP.1
 unfold M.wY
 rw[e]
 rfl
theorem F.wD (LJ:LC) (e:LPt) (LP:Sm (Ty.sl ag) LJ) (h_e:Sm (Ty.sl aD) e):F.oM LJ e=some (M.bR LJ e):=by
 unfold F.oM M.bR
 cases M.cm LJ
 ·rfl
 by_cases hl:e.length<=12
 ·rw[decide_eq_false (show ¬(12:Int)<(e.length:Int) by omega),decide_eq_true hl]
  obtain⟨o,s,h1,h2⟩:=Ba (LJ:=LJ) (E:=e) (by omega) LP.1 e.length 0 [] (by omega) (by omega) (by simp;omega)
  rw[show (0:Int)=((0:Nat):Int) from rfl,h1]
  rw[List.drop_zero] at h2
  unfold oI at h2
  cases hk:M.jX LJ e [] with
  | none=>
   rw[hk] at h2
   simp only at h2
   subst h2
   rfl
  | some s'=>
   rw[hk] at h2
   obtain⟨rfl,rfl⟩:=h2
   match s with
   | []=>rfl
   | [a]=>exact aq (by simp)
   | a::b::l=>
    have:¬((a::b::l).length:Int)=1:=by simp;omega
    simp only[Option.bind_some,this,decide_false]
    rfl
 ·rw[decide_eq_true (show (12:Int)<(e.length:Int) by omega),decide_eq_false hl]
  rfl
theorem F.wK (s:ah.D) (h_s:Sm ah s):F.pe s=some (M.bM s):=by
 unfold F.pe M.bM M.two
 generalize decide (s.2.1=(0:Int))=a0
 generalize decide (s.2.2.1=(0:Int))=b0
 generalize decide (s.2.2.2.1=(0:Int))=n0
 generalize decide ((s.2.2.2.2.1.length:Int)=(0:Int))=e0
 generalize decide ((s.2.2.2.2.2.1.length:Int)=(0:Int))=l0
 by_cases h1:s.1=(1:Int)
 ·simp only[h1,Int.reduceEq,decide_true,decide_false]
  cases a0<;>cases b0<;>cases n0<;>cases e0<;>cases l0<;>rfl
 by_cases h2:s.1=(2:Int)
 ·simp only[h2,Int.reduceEq,decide_true,decide_false]
  cases a0<;>cases b0<;>cases n0<;>cases e0<;>cases l0<;>rfl
 by_cases h3:s.1=(3:Int)
 ·simp only[h3,Int.reduceEq,decide_true,decide_false]
  cases a0<;>cases b0<;>cases n0<;>cases e0<;>cases l0<;>rfl
 by_cases h4:s.1=(4:Int)
 ·simp only[h4,Int.reduceEq,decide_true,decide_false]
  cases a0<;>cases b0<;>cases n0<;>cases e0<;>cases l0<;>rfl
 by_cases h5:s.1=(5:Int)
 ·simp only[h5,Int.reduceEq,decide_true,decide_false]
  cases a0<;>cases b0<;>cases n0<;>cases e0<;>cases l0<;>rfl
 simp only[h1,h2,h3,h4,h5,decide_false]
 cases a0<;>cases b0<;>cases n0<;>cases e0<;>cases l0<;>rfl
theorem F.uR (LK:LTb) (LN:LLC) (s:ah.D) (LO:Sm (Ty.sl ai) LK) (h_ahead:Sm (Ty.sl (Ty.sl ag)) LN) (h_s:Sm ah s):F.iz LK LN s=some (M.ga LK LN s):=by
 obtain⟨r,h1,_⟩:=Ai LO h_ahead h_s
 unfold M.ga
 rw[h1]
 rfl
theorem F.zh (LN:(List Int)) (s:ah.D) (h_ahead:Sm (Ty.sl (Ty.int .i64)) LN) (h_s:Sm ah s) (p0:M.pg (LN.length:Int) s):F.rL LN s=some (M.aN LN s):=by
 unfold F.rL M.aN
 by_cases h1:s.1=(1:Int)
 ·simp only[h1,decide_true,cond_true]
 obtain⟨⟨a0,a1⟩,⟨b0,b1⟩⟩:=p0 h1
 rw[decide_eq_false h1]
 repeat rw[aq a0]
 repeat rw[aq a1]
 repeat rw[aq b0]
 repeat rw[aq b1]
 cases decide (s.1=(4:Int))<;>cases decide (s.1=(5:Int))<;>rfl
theorem F.Bp (LK:LTb) (plan:LS) (LO:Sm (Ty.sl ai) LK) (LQ:Sm (Ty.sl ah) plan):F.uf LK plan=some (M.dM LK plan):=by
 unfold F.uf M.dM M.iM
 obtain⟨o,h1,h2⟩:=M.BC (f:=F.ji LK plan) (M.bg LK) (fun t=>t) (fun n (st:fC)=>st.1.length=n/\st.2.length=n/\∀x∈st.1,x.length<=1048576) plan plan [] ([],[]) rfl ⟨rfl,rfl,fun x h=>by cases h⟩ (fun m st hm hI=>by
  obtain⟨l1,l2,hx⟩:=hI
  have hp:=LQ.1
  have hc:Sm (.sl (.sl ag)) st.1:=⟨by omega,fun x h=>M.zY (hx x h)⟩
  have hstep:=aO LQ (m:Int)
  have hl6:=Ll LO hc hstep
  unfold F.ji M.bg
  rw[aq hc,bX,<-hl6]
  cases hb:(M.ga LK st.1 (@nth ah plan (m:Int))).2 with
  | false=>exact⟨.inr (),rfl,rfl⟩
  | true=>
   rw[hb,cond_true] at hl6
   have hin:=M.nX hl6.symm
   have hsm:=M.xH LO hx hl6.symm
   have e12:(st.1.length:Int)=(st.2.length:Int):=by omega
   rw[e12] at hin
   simp only[Bool.not_true,cond_false,cond_true]
   rw[aq (by unfold lim;simp;omega),aq (show Sm (.sl (.int .i64)) st.2 from⟨by omega,fun x _=>trivial⟩),aq hin,aq (by unfold lim;simp;omega),aq (by simp;omega)]
   have hn:nth (t:=.int .i64) (st.2++[M.aN st.2 (@nth ah plan (m:Int))]) (m:Int)=M.aN st.2 (@nth ah plan (m:Int)):=by
    unfold nth
    rw[List.getD_eq_getElem?_getD]
    simp[<-l2]
   rw[hn]
   cases hd:decide ((300:Int)<M.aN st.2 (@nth ah plan (m:Int))) with
   | true=>exact⟨.inr (),rfl,rfl⟩
   | false=>
    refine⟨_,rfl,rfl,by simp[l1],by simp[l2],fun x h=>?_⟩
    rcases List.mem_append.1 h with h | h
    ·exact hx x h
    ·cases List.mem_singleton.1 h
     exact hsm)
 rw[show (aT (0:Int) (plan.length:Int))=aT ((([]:List ah.D).length:Nat):Int) (plan.length:Int) from rfl,h1]
 match o with
 | .inl st=>
  simp only at h2
  rw[h2.1]
  rfl
 | .inr _=>
  simp only at h2
  rw[h2]
  rfl
theorem F.qV (b:(List Int)) (p:Int) (LK:LTb) (h_b:Sm (Ty.sl (Ty.int .u8)) b) (LO:Sm (Ty.sl ai) LK) (p0:M.ay b) (p1:0<=p) (p2:p<=995000000000000) (p3:(∀t∈LK,M.iY t)):ok (F.jS b p LK) (fun r=>r.1.length<=6/\1<=r.1.length/\(∀s∈r.1,M.iD s)/\p<=r.2/\r.2<=p+100000):=by
  unfold F.jS
  have hE:=M.Gk (d:=(2:Int))
  have hE2:M.eB (2:Int)=27:=by decide
  refine okG ?_
  refine az fun r1 _ _ _ _=>?_
  refine okG ?_
  refine okG ?_
  refine az fun r2 _ _ _ _=>?_
  refine okT (A:=fun e0=>p<=e0.1/\e0.1<=p+16000/\e0.2.length<=6/\1<=e0.2.length/\(∀s∈e0.2,M.iD s)) (B:=fun q0=>p<=q0.1/\q0.1<=p+16000/\q0.2.length<=6/\1<=q0.2.length/\(∀s∈q0.2,M.iD s)) ?_ (fun e0 h_e0=>?_) (fun q0 h_q0=>?_)
  ·refine okW (fun(k:Nat) (v0:Int×Int×LS)=>0<=v0.1/\v0.1<=(k:Int)/\(v0.2.2.length:Int)+v0.1<=6/\1<=v0.2.2.length/\(∀s∈v0.2.2,M.iD s)/\p<=v0.2.1/\v0.2.1+3000 * v0.1<=p+16000) (fun k v0 hI=>?_) (6:Nat) _ ⟨au,au,au,au,au,au,au⟩
   obtain⟨i_0,i_1,i_2,i_3,i_4,i_5,i_6⟩:=hI
   unfold F.jq
   refine okD (fun c_11=>?_) (fun c_11=>?_)
   ·refine okG ?_ (M.rC (n:=1000) (by first | omega | (simp only[List.length_append,List.length_cons,List.length_nil];omega)) (by exact cl) (by decide))
    refine okL fun r3 er3=>?_
    have k_a:=M.CT p3 er3
    refine okC (fun c_12=>?_) (fun c_12=>?_)
    ·exact IZ ⟨au,au,au,au,au⟩
    ·have l_a:=M.Dl er3 c_12
     have l_b:r3.1.length<=6:=by omega
     refine okG ?_
     refine okG ?_
     refine okG ?_
     refine az fun r4 h_9_3_0 h_9_3_1 _ _=>?_
     have t_a:=M.Kt h_9_3_0 (h_9_3_1 (by decide)) (n:=(v0.2.2.length:Int)) (by omega) (by omega)
     refine okD (fun c_13=>?_) (fun c_13=>?_)
     ·refine okG ?_
      refine okG ?_
      refine az fun r5 h_12_3_0 h_12_3_1 h_12_3_2 h_12_3_3=>?_
      refine okG ?_
      refine okG ?_
      refine az fun r6 h_13_1_0 h_13_1_1 h_13_1_2 h_13_1_3=>?_
      refine okB (A:=fun e2=>v0.2.1<=e2.1/\e2.1<=v0.2.1+2000/\e2.2.2.2.2.2.1.length<=81/\(∀v∈e2.2.2.2.2.2.1,v.2.2.1.2.2.1.size<=20)/\e2.2.2.2.2.2.2.length<=3) ?_ (fun e2 h_e2=>?_)
      ·refine okW (fun(_:Nat) (_:Unit)=>True) (fun _ v2 _=>?_) 0 _ trivial
       unfold F.eU
       refine okD (fun c_3=>?_) (fun c_3=>?_)
       ·refine okG ?_
        refine okG ?_
        refine okG ?_ (M.jK rfl (M.mD k_a _) (by decide))
        refine okG ?_
        refine okG ?_
        refine okG ?_
        refine okG ?_
        refine okG ?_
        refine eF fun r7 h_15_6_0 h_15_6_1 h_15_6_2 h_15_6_3 h_15_6_4=>?_
        exact cL ⟨au,au,au,au,au⟩
       ·refine okD (fun c_4=>?_) (fun c_4=>?_)
        ·refine okG ?_
         refine okG ?_
         refine okG ?_
         refine az fun r8 h_18_1_0 h_18_1_1 h_18_1_2 h_18_1_3=>?_
         refine okB (A:=fun e3=>v0.2.1<=e3.1/\e3.1<=v0.2.1+30/\e3.2.length<=3) ?_ (fun e3 h_e3=>?_)
         ·refine okW (fun(k:Nat) (v3:Int×Int×(List Int))=>0<=v3.1+1/\v3.1+1<=(k:Int)/\(v3.2.2.length:Int)+v3.1<=2/\v0.2.1<=v3.2.1/\v3.2.1+v3.1<=v0.2.1+20) (fun k v3 hI=>?_) (3:Nat) _ ⟨au,au,au,au,au⟩
          obtain⟨i_0,i_1,i_2,i_3,i_4⟩:=hI
          unfold F.gA
          refine iG (fun c_0=>?_) (fun c_0=>?_)
          ·refine okG ?_
           refine okG ?_
           refine okD (fun c_1=>?_) (fun c_1=>?_)
           ·refine okG ?_
            refine okG ?_
            refine okG ?_
            refine az fun r9 h_21_8_0 h_21_8_1 h_21_8_2 h_21_8_3=>?_
            refine okG ?_ (by simp only[List.length_cons,List.length_nil,List.length_append,lim];omega)
            exact cn ⟨k-1,by omega,au,au,au,au,au⟩
           ·exact cL ⟨au,au,au⟩
          ·exact cL ⟨au,au,au⟩
         ·obtain⟨e3_0,e3_1,e3_2⟩:=h_e3
          exact cL ⟨au,au,au,au,au⟩
        ·refine okD (fun c_5=>?_) (fun c_5=>?_)
         ·refine okG ?_
          refine okG ?_
          refine okG ?_
          refine az fun r10 h_24_2_0 h_24_2_1 h_24_2_2 h_24_2_3=>?_
          refine okG ?_
          refine okG ?_
          refine okG ?_
          refine okG ?_
          refine okG ?_ (M.jl1 k_a)
          refine okG ?_ (M.jl2 k_a)
          refine okD (fun c_6=>?_) (fun c_6=>?_)
          ·refine okG ?_ (M.jl3 k_a)
           refine okG ?_
           refine okG ?_
           refine okG ?_
           refine okG ?_
           refine eF fun r11 h_27_4_0 h_27_4_1 h_27_4_2 h_27_4_3 h_27_4_4=>?_
           exact cL ⟨au,au,au,au,au⟩
          ·exact cL ⟨au,au,au,au,au⟩
         ·refine okD (fun c_7=>?_) (fun c_7=>?_)
          ·refine okG ?_
           refine okG ?_
           refine okG ?_
           refine az fun r10 h_24_2_0 h_24_2_1 h_24_2_2 h_24_2_3=>?_
           refine okG ?_
           refine okG ?_
           refine okG ?_
           refine okG ?_
           refine okG ?_ (M.jl1 k_a)
           refine okG ?_ (M.jl2 k_a)
           refine okD (fun c_8=>?_) (fun c_8=>?_)
           ·refine okG ?_ (M.jl3 k_a)
            refine okG ?_
            refine okG ?_
            refine okG ?_
            refine okG ?_
            refine eF fun r11 h_27_4_0 h_27_4_1 h_27_4_2 h_27_4_3 h_27_4_4=>?_
            exact cL ⟨au,au,au,au,au⟩
           ·exact cL ⟨au,au,au,au,au⟩
          ·refine okD (fun c_9=>?_) (fun c_9=>?_)
           ·refine okG ?_ (by unfold eS;omega)
            refine okT (A:=fun v5=>(0:Int)<=0/\(0:Int)<=0) (B:=fun _=>False) ?_ (fun v5 h_v5=>?_) (fun _ h=>h.elim)
            ·refine CY (fun(k:Nat) (v5:Int×Int×Int×Int)=>(0:Int)<=0/\(0:Int)<=0) ⟨au,au⟩ (fun z5 hz k v5 hk hI=>?_)
             obtain⟨i_0,i_1⟩:=hI
             unfold F.gE
             refine okG ?_ (M.CV l_b k_a (by decide))
             refine okL fun r12 er12=>?_
             refine okC (fun c_2=>?_) (fun c_2=>?_)
             ·exact cn ⟨au,au⟩
             ·exact cn ⟨au,au⟩
            ·obtain⟨v5_0,v5_1⟩:=h_v5
             exact cL ⟨au,au,au,au,au⟩
           ·refine okD (fun c_10=>?_) (fun c_10=>?_)
            ·exact cL ⟨au,au,au,au,au⟩
            ·exact cL ⟨au,au,au,au,au⟩
      ·obtain⟨e2_0,e2_1,e2_2,e2_3,e2_4⟩:=h_e2
       refine okG ?_ (by simp only[List.length_cons,List.length_nil,List.length_append,lim];omega)
       refine okG ?_ (by simp only[List.length_cons,List.length_nil,List.length_append,lim];omega)
       refine okG ?_ (M.rC (n:=1000) (by first | omega | (simp only[List.length_append,List.length_cons,List.length_nil];omega)) (by exact cl) (by decide))
       refine okL fun r13 er13=>?_
       refine okC (fun c_14=>?_) (fun c_14=>?_)
       ·refine okG ?_ (by simp only[List.length_cons,List.length_nil,List.length_append,lim];omega)
        exact cn ⟨k-1,by omega,au,au,au,au,au,au,au⟩
       ·exact cn ⟨k-1,by omega,au,au,au,au,au,au,au⟩
     ·refine okG ?_
      refine okG ?_
      refine az fun r5 h_12_3_0 h_12_3_1 h_12_3_2 h_12_3_3=>?_
      refine okG ?_
      refine okG ?_
      refine az fun r6 h_13_1_0 h_13_1_1 h_13_1_2 h_13_1_3=>?_
      refine okB (A:=fun e2=>v0.2.1<=e2.1/\e2.1<=v0.2.1+2000/\e2.2.2.2.2.2.1.length<=81/\(∀v∈e2.2.2.2.2.2.1,v.2.2.1.2.2.1.size<=20)/\e2.2.2.2.2.2.2.length<=3) ?_ (fun e2 h_e2=>?_)
      ·refine okW (fun(_:Nat) (_:Unit)=>True) (fun _ v2 _=>?_) 0 _ trivial
       unfold F.eU
       refine okD (fun c_3=>?_) (fun c_3=>?_)
       ·refine okG ?_
        refine okG ?_
        refine okG ?_ (M.jK rfl (M.mD k_a _) (by decide))
        refine okG ?_
        refine okG ?_
        refine okG ?_
        refine okG ?_
        refine okG ?_
        refine eF fun r7 h_15_6_0 h_15_6_1 h_15_6_2 h_15_6_3 h_15_6_4=>?_
        exact cL ⟨au,au,au,au,au⟩
       ·refine okD (fun c_4=>?_) (fun c_4=>?_)
        ·refine okG ?_
         refine okG ?_
         refine okG ?_
         refine az fun r8 h_18_1_0 h_18_1_1 h_18_1_2 h_18_1_3=>?_
         refine okB (A:=fun e3=>v0.2.1<=e3.1/\e3.1<=v0.2.1+30/\e3.2.length<=3) ?_ (fun e3 h_e3=>?_)
         ·refine okW (fun(k:Nat) (v3:Int×Int×(List Int))=>0<=v3.1+1/\v3.1+1<=(k:Int)/\(v3.2.2.length:Int)+v3.1<=2/\v0.2.1<=v3.2.1/\v3.2.1+v3.1<=v0.2.1+20) (fun k v3 hI=>?_) (3:Nat) _ ⟨au,au,au,au,au⟩
          obtain⟨i_0,i_1,i_2,i_3,i_4⟩:=hI
          unfold F.gA
          refine iG (fun c_0=>?_) (fun c_0=>?_)
          ·refine okG ?_
           refine okG ?_
           refine okD (fun c_1=>?_) (fun c_1=>?_)
           ·refine okG ?_
            refine okG ?_
            refine okG ?_
            refine az fun r9 h_21_8_0 h_21_8_1 h_21_8_2 h_21_8_3=>?_
            refine okG ?_ (by simp only[List.length_cons,List.length_nil,List.length_append,lim];omega)
            exact cn ⟨k-1,by omega,au,au,au,au,au⟩
           ·exact cL ⟨au,au,au⟩
          ·exact cL ⟨au,au,au⟩
         ·obtain⟨e3_0,e3_1,e3_2⟩:=h_e3
          exact cL ⟨au,au,au,au,au⟩
        ·refine okD (fun c_5=>?_) (fun c_5=>?_)
         ·refine okG ?_
          refine okG ?_
          refine okG ?_
          refine az fun r10 h_24_2_0 h_24_2_1 h_24_2_2 h_24_2_3=>?_
          refine okG ?_
          refine okG ?_
          refine okG ?_
          refine okG ?_
          refine okG ?_ (M.jl1 k_a)
          refine okG ?_ (M.jl2 k_a)
          refine okD (fun c_6=>?_) (fun c_6=>?_)
          ·refine okG ?_ (M.jl3 k_a)
           refine okG ?_
           refine okG ?_
           refine okG ?_
           refine okG ?_
           refine eF fun r11 h_27_4_0 h_27_4_1 h_27_4_2 h_27_4_3 h_27_4_4=>?_
           exact cL ⟨au,au,au,au,au⟩
          ·exact cL ⟨au,au,au,au,au⟩
         ·refine okD (fun c_7=>?_) (fun c_7=>?_)
          ·refine okG ?_
           refine okG ?_
           refine okG ?_
           refine az fun r10 h_24_2_0 h_24_2_1 h_24_2_2 h_24_2_3=>?_
           refine okG ?_
           refine okG ?_
           refine okG ?_
           refine okG ?_
           refine okG ?_ (M.jl1 k_a)
           refine okG ?_ (M.jl2 k_a)
           refine okD (fun c_8=>?_) (fun c_8=>?_)
           ·refine okG ?_ (M.jl3 k_a)
            refine okG ?_
            refine okG ?_
            refine okG ?_
            refine okG ?_
            refine eF fun r11 h_27_4_0 h_27_4_1 h_27_4_2 h_27_4_3 h_27_4_4=>?_
            exact cL ⟨au,au,au,au,au⟩
           ·exact cL ⟨au,au,au,au,au⟩
          ·refine okD (fun c_9=>?_) (fun c_9=>?_)
           ·refine okG ?_ (by unfold eS;omega)
            refine okT (A:=fun v5=>(0:Int)<=0/\(0:Int)<=0) (B:=fun _=>False) ?_ (fun v5 h_v5=>?_) (fun _ h=>h.elim)
            ·refine CY (fun(k:Nat) (v5:Int×Int×Int×Int)=>(0:Int)<=0/\(0:Int)<=0) ⟨au,au⟩ (fun z5 hz k v5 hk hI=>?_)
             obtain⟨i_0,i_1⟩:=hI
             unfold F.gE
             refine okG ?_ (M.CV l_b k_a (by decide))
             refine okL fun r12 er12=>?_
             refine okC (fun c_2=>?_) (fun c_2=>?_)
             ·exact cn ⟨au,au⟩
             ·exact cn ⟨au,au⟩
            ·obtain⟨v5_0,v5_1⟩:=h_v5
             exact cL ⟨au,au,au,au,au⟩
           ·refine okD (fun c_10=>?_) (fun c_10=>?_)
            ·exact cL ⟨au,au,au,au,au⟩
            ·exact cL ⟨au,au,au,au,au⟩
      ·obtain⟨e2_0,e2_1,e2_2,e2_3,e2_4⟩:=h_e2
       refine okG ?_ (by simp only[List.length_cons,List.length_nil,List.length_append,lim];omega)
       refine okG ?_ (by simp only[List.length_cons,List.length_nil,List.length_append,lim];omega)
       refine okG ?_ (M.rC (n:=1000) (by first | omega | (simp only[List.length_append,List.length_cons,List.length_nil];omega)) (by exact cl) (by decide))
       refine okL fun r13 er13=>?_
       refine okC (fun c_15=>?_) (fun c_15=>?_)
       ·refine okG ?_ (by simp only[List.length_cons,List.length_nil,List.length_append,lim];omega)
        exact cn ⟨k-1,by omega,au,au,au,au,au,au,au⟩
       ·exact cn ⟨k-1,by omega,au,au,au,au,au,au,au⟩
   ·exact FH ⟨au,au,au,au,au⟩
  ·obtain⟨e0_0,e0_1,e0_2,e0_3,e0_4⟩:=h_e0
   exact tf
  ·obtain⟨q0_0,q0_1,q0_2,q0_3,q0_4⟩:=h_q0
   exact tf
theorem F.yH (b:(List Int)) (p:Int) (LK:LTb) (h_b:Sm (Ty.sl (Ty.int .u8)) b) (LO:Sm (Ty.sl ai) LK) (p0:M.ay b) (p1:0<=p) (p2:p<=995000000000000) (p3:(∀t∈LK,M.iY t)):F.jS b p LK=some (M.kR b p LK):=dD (F.qV b p LK h_b LO p0 p1 p2 p3)
theorem M.Ct (b:(List Int)) (p:Int) (LK:LTb) (h_b:Sm (Ty.sl (Ty.int .u8)) b) (LO:Sm (Ty.sl ai) LK) (p0:M.ay b) (p1:0<=p) (p2:p<=995000000000000) (p3:(∀t∈LK,M.iY t)):(M.kR b p LK).1.length<=6/\1<=(M.kR b p LK).1.length/\(∀s∈(M.kR b p LK).1,M.iD s)/\p<=(M.kR b p LK).2/\(M.kR b p LK).2<=p+100000:=dF (F.qV b p LK h_b LO p0 p1 p2 p3)
theorem wu {α:Type} {K:α->Prop} {f:LS×Int->Option α} {b:(List Int)} {p:Int} {LK:LTb} (k:∀r,(r.1.length<=6)->(1<=r.1.length)->(∀s∈r.1,M.iD s)->(p<=r.2)->(r.2<=p+100000)->ok (f r) K) (h_b:Sm (Ty.sl (Ty.int .u8)) b:=by exact au) (LO:Sm (Ty.sl ai) LK:=by exact au) (p0:M.ay b:=by exact au) (p1:0<=p:=by exact au) (p2:p<=995000000000000:=by exact au) (p3:(∀t∈LK,M.iY t):=by exact au):ok (aG (M.kR b p LK) f) K:=by
 have h:=M.Ct b p LK h_b LO p0 p1 p2 p3
 obtain⟨h0,h1,h2,h3,h4⟩:=h
 exact k _ h0 h1 h2 h3 h4
theorem F.pM (b:(List Int)) (p:Int) (h_b:Sm (Ty.sl (Ty.int .u8)) b) (p0:M.ay b) (p1:0<=p) (p2:p<=994000000000000):ok (F.jg b p) (fun r=>r.1.length<=3/\1<=r.1.length/\(∀t∈r.1,M.iY t)/\r.2.1.length<=6/\1<=r.2.1.length/\(∀s∈r.2.1,M.iD s)/\p<=r.2.2/\r.2.2<=p+200000/\(∀t∈r.1,M.nH t)):=by
 unfold F.jg
 refine okG ?_
 refine okG ?_
 refine tM fun r1 _ _ _ _ _ h_1_1_5 h_1_1_6 _=>?_
 have q_a:=h_1_1_5 (by decide)
 have q_b:=h_1_1_6 (by decide)
 refine okG ?_
 refine okG ?_
 refine okG ?_
 refine okG ?_
 refine wu fun r2 _ _ _ _ _=>?_
 refine okG ?_
 refine okG ?_
 refine az fun r3 _ _ _ _=>?_
 have m_a:=M.Lm (n:=(r2.1.length:Int)) (by omega)
 have w_a:wrap64 ((1:Int)+r3.1)=1+r3.1:=aF (by omega) (by omega)
 refine okG ?_
 refine okG ?_
 refine okS ?_
 dsimp only
 exact⟨au,au,au,Nat.le_trans (M.Cg _ _) (by omega),M.Gv (by omega) (by omega) (by omega),au,au,au,au⟩
theorem F.wH (b:(List Int)) (p:Int) (h_b:Sm (Ty.sl (Ty.int .u8)) b) (p0:M.ay b) (p1:0<=p) (p2:p<=994000000000000):F.jg b p=some (M.eW b p):=dD (F.pM b p h_b p0 p1 p2)
theorem M.Bv (b:(List Int)) (p:Int) (h_b:Sm (Ty.sl (Ty.int .u8)) b) (p0:M.ay b) (p1:0<=p) (p2:p<=994000000000000):(M.eW b p).1.length<=3/\1<=(M.eW b p).1.length/\(∀t∈(M.eW b p).1,M.iY t)/\(M.eW b p).2.1.length<=6/\1<=(M.eW b p).2.1.length/\(∀s∈(M.eW b p).2.1,M.iD s)/\p<=(M.eW b p).2.2/\(M.eW b p).2.2<=p+200000/\(∀t∈(M.eW b p).1,M.nH t):=dF (F.pM b p h_b p0 p1 p2)
theorem nK {α:Type} {K:α->Prop} {f:LTb×LS×Int->Option α} {b:(List Int)} {p:Int} (k:∀r,(r.1.length<=3)->(1<=r.1.length)->(∀t∈r.1,M.iY t)->(r.2.1.length<=6)->(1<=r.2.1.length)->(∀s∈r.2.1,M.iD s)->(p<=r.2.2)->(r.2.2<=p+200000)->(∀t∈r.1,M.nH t)->ok (f r) K) (h_b:Sm (Ty.sl (Ty.int .u8)) b:=by exact au) (p0:M.ay b:=by exact au) (p1:0<=p:=by exact au) (p2:p<=994000000000000:=by exact au):ok (aG (M.eW b p) f) K:=by
 have h:=M.Bv b p h_b p0 p1 p2
 obtain⟨h0,h1,h2,h3,h4,h5,h6,h7,h8⟩:=h
 exact k _ h0 h1 h2 h3 h4 h5 h6 h7 h8
theorem F.ou (b:(List Int)) (p:Int) (LK:LTb) (n:Int) (h_b:Sm (Ty.sl (Ty.int .u8)) b) (LO:Sm (Ty.sl ai) LK) (p0:M.ay b) (p1:0<=p) (p2:p<=994000000000000) (p3:LK.length<=3):ok (F.ij b p LK n) (fun r=>r.1.length<=4/\(∀g∈r.1,M.gdD g)/\p<=r.2/\r.2<=p+100000):=by
  unfold F.ij
  have hE2:M.eB (2:Int)=27:=by decide
  have hR:(aT (0:Int) (LK.length:Int)).length=LK.length:=by simp[aT]
  refine okT (A:=fun v0=>p<=v0.1/\v0.1<=p+2000 * ((aT (0:Int) (LK.length:Int)).length:Int)/\v0.2.length<=(aT (0:Int) (LK.length:Int)).length/\(∀g∈v0.2,M.gdD g)) (B:=fun _=>False) ?_ (fun v0 h_v0=>?_) (fun _ h=>h.elim)
  ·refine CY (fun(k:Nat) (v0:Int×LG)=>p<=v0.1/\v0.1<=p+2000 * (k:Int)/\v0.2.length<=k/\(∀g∈v0.2,M.gdD g)) ⟨au,au,au,au⟩ (fun z0 hz k v0 hk hI=>?_)
   obtain⟨i_0,i_1,i_2,i_3⟩:=hI
   unfold F.gN
   refine okG ?_
   refine okG ?_
   refine okG ?_
   refine az fun r1 _ _ _ _=>?_
   refine okD (fun c_0=>?_) (fun c_0=>?_)
   ·refine okG ?_
    refine okG ?_
    refine okG ?_
    refine okG ?_
    refine eF fun r2 _ _ _ _ _=>?_
    refine okG ?_
    exact cn ⟨au,au,au,au⟩
   ·exact cn ⟨au,au,au,au⟩
  ·obtain⟨v0_0,v0_1,v0_2,v0_3⟩:=h_v0
   refine iG (fun c_1=>?_) (fun c_1=>?_)
   ·refine okG ?_
    refine okG ?_
    refine cU fun r3 _ _ _=>?_
    refine okC (fun c_2=>?_) (fun c_2=>?_)
    ·refine okG ?_
     refine okG ?_
     refine az fun r4 _ _ _ _=>?_
     refine okD (fun c_3=>?_) (fun c_3=>?_)
     ·refine okG ?_
      refine okG ?_
      refine az fun r5 _ _ _ _=>?_
      refine okG ?_
      refine okL fun y1 ey1=>?_
      subst ey1
      exact Fs
     ·refine okD (fun c_4=>?_) (fun c_4=>?_)
      ·refine okG ?_
       refine okG ?_
       refine okG ?_
       refine az fun r6 _ _ _ _=>?_
       refine okG ?_
       refine okG ?_
       refine okL fun y2 ey2=>?_
       subst ey2
       exact Fs
      ·refine okG ?_
       refine okG ?_
       exact Fs
    ·exact Fs
   ·exact Fs
theorem F.vN (b:(List Int)) (p:Int) (LK:LTb) (n:Int) (h_b:Sm (Ty.sl (Ty.int .u8)) b) (LO:Sm (Ty.sl ai) LK) (p0:M.ay b) (p1:0<=p) (p2:p<=994000000000000) (p3:LK.length<=3):F.ij b p LK n=some (M.fX b p LK n):=dD (F.ou b p LK n h_b LO p0 p1 p2 p3)
theorem M.Aa (b:(List Int)) (p:Int) (LK:LTb) (n:Int) (h_b:Sm (Ty.sl (Ty.int .u8)) b) (LO:Sm (Ty.sl ai) LK) (p0:M.ay b) (p1:0<=p) (p2:p<=994000000000000) (p3:LK.length<=3):(M.fX b p LK n).1.length<=4/\(∀g∈(M.fX b p LK n).1,M.gdD g)/\p<=(M.fX b p LK n).2/\(M.fX b p LK n).2<=p+100000:=dF (F.ou b p LK n h_b LO p0 p1 p2 p3)
theorem nh {α:Type} {K:α->Prop} {f:LG×Int->Option α} {b:(List Int)} {p:Int} {LK:LTb} {n:Int} (k:∀r,(r.1.length<=4)->(∀g∈r.1,M.gdD g)->(p<=r.2)->(r.2<=p+100000)->ok (f r) K) (h_b:Sm (Ty.sl (Ty.int .u8)) b:=by exact au) (LO:Sm (Ty.sl ai) LK:=by exact au) (p0:M.ay b:=by exact au) (p1:0<=p:=by exact au) (p2:p<=994000000000000:=by exact au) (p3:LK.length<=3:=by exact au):ok (aG (M.fX b p LK n) f) K:=by
 have h:=M.Aa b p LK n h_b LO p0 p1 p2 p3
 obtain⟨h0,h1,h2,h3⟩:=h
 exact k _ h0 h1 h2 h3
theorem F.mh (code:(List Int)) (h_code:Sm (Ty.sl (Ty.int .u8)) code) (p0:M.ay code):ok (F.gd code) (fun r=>r.1.length<=3/\1<=r.1.length/\(∀t∈r.1,M.iY t)/\r.2.1.length<=4/\(∀g∈r.2.1,M.gdD g)/\r.2.2.1.length<=6/\(∀s∈r.2.2.1,M.iD s)/\r.2.2.2.2.1.length<=5/\(∀v∈r.2.2.2.2.1,v.2.2.1.size<=20)/\0<=r.2.2.2.1/\r.2.2.2.1<(r.1.length:Int)):=by
  unfold F.gd
  refine okD (fun c_0=>?_) (fun c_0=>?_)
  ·refine okG ?_
   refine okG ?_
   refine okG ?_
   refine okG ?_
   refine okG ?_
   refine nK fun r1 h_2_1_0 h_2_1_1 h_2_1_2 h_2_1_3 h_2_1_4 h_2_1_5 h_2_1_6 h_2_1_7 h_2_1_8=>?_
   refine okG ?_
   refine okG ?_
   refine okG ?_
   refine okG ?_
   refine nh fun r2 h_3_3_0 h_3_3_1 h_3_3_2 h_3_3_3=>?_
   refine okG ?_
   refine okG ?_
   refine okG ?_
   refine okG ?_
   refine okG ?_
   refine okG ?_
   refine nx fun r3 h_3_7_0 h_3_7_1 h_3_7_2 h_3_7_3 h_3_7_4 h_3_7_5=>?_
   refine okS ?_
   dsimp only
   exact⟨au,au,au,au,au,au,au,au,au,h_3_7_4 (by decide),h_3_7_5 (by decide)⟩
  ·refine okG ?_
   refine okG ?_
   refine nK fun r1 h_2_1_0 h_2_1_1 h_2_1_2 h_2_1_3 h_2_1_4 h_2_1_5 h_2_1_6 h_2_1_7 h_2_1_8=>?_
   refine okG ?_
   refine okG ?_
   refine okG ?_
   refine okG ?_
   refine nh fun r2 h_3_3_0 h_3_3_1 h_3_3_2 h_3_3_3=>?_
   refine okG ?_
   refine okG ?_
   refine okG ?_
   refine okG ?_
   refine okG ?_
   refine okG ?_
   refine nx fun r3 h_3_7_0 h_3_7_1 h_3_7_2 h_3_7_3 h_3_7_4 h_3_7_5=>?_
   refine okS ?_
   dsimp only
   exact⟨au,au,au,au,au,au,au,au,au,h_3_7_4 (by decide),h_3_7_5 (by decide)⟩
theorem F.sU (code:(List Int)) (h_code:Sm (Ty.sl (Ty.int .u8)) code) (p0:M.ay code):F.gd code=some (M.cz code):=dD (F.mh code h_code p0)
theorem M.pG (code:(List Int)) (h_code:Sm (Ty.sl (Ty.int .u8)) code) (p0:M.ay code):(M.cz code).1.length<=3/\1<=(M.cz code).1.length/\(∀t∈(M.cz code).1,M.iY t)/\(M.cz code).2.1.length<=4/\(∀g∈(M.cz code).2.1,M.gdD g)/\(M.cz code).2.2.1.length<=6/\(∀s∈(M.cz code).2.2.1,M.iD s)/\(M.cz code).2.2.2.2.1.length<=5/\(∀v∈(M.cz code).2.2.2.2.1,v.2.2.1.size<=20)/\0<=(M.cz code).2.2.2.1/\(M.cz code).2.2.2.1<((M.cz code).1.length:Int):=dF (F.mh code h_code p0)
theorem Ex {α:Type} {K:α->Prop} {f:LTb×LG×LS×aK.D->Option α} {code:(List Int)} (k:∀r,(r.1.length<=3)->(1<=r.1.length)->(∀t∈r.1,M.iY t)->(r.2.1.length<=4)->(∀g∈r.2.1,M.gdD g)->(r.2.2.1.length<=6)->(∀s∈r.2.2.1,M.iD s)->(r.2.2.2.2.1.length<=5)->(∀v∈r.2.2.2.2.1,v.2.2.1.size<=20)->(0<=r.2.2.2.1)->(r.2.2.2.1<(r.1.length:Int))->ok (f r) K) (h_code:Sm (Ty.sl (Ty.int .u8)) code:=by exact au) (p0:M.ay code:=by exact au):ok (aG (M.cz code) f) K:=by
 have h:=M.pG code h_code p0
 obtain⟨h0,h1,h2,h3,h4,h5,h6,h7,h8,h9,h10⟩:=h
 exact k _ h0 h1 h2 h3 h4 h5 h6 h7 h8 h9 h10
theorem F.sZ (c:ag.D)  : F.pJ c=some (!M.eZ c):=by
 rfl
theorem F.lG (xs:LC) (h_xs:Sm (Ty.sl ag) xs):F.ig xs=some (M.idx (t:=ag) (fun e=>!M.eZ e) xs):=by
 exact iH (t:=ag) (p:=(fun e=>!M.eZ e)) (fun i h0 h1=>by simp only[F.cZ,dQ])
theorem F.jU (xs:LC) (h_xs:Sm (Ty.sl ag) xs):F.eM xs=some (List.any xs (fun e=>!M.eZ e)):=by
 unfold F.eM
 exact gB (t:=ag)
theorem F.uH (LJ:LC) (LP:Sm (Ty.sl ag) LJ):F.mV LJ=some (M.cm LJ):=by
 unfold F.mV M.cm
 rw[kH,show decide ((LJ.length:Int)<=4)=decide (LJ.length<=4) from decide_eq_decide.2 (by omega)]
 rw[List.all_eq_not_any_not]
theorem F.yo (v:af.D) (h_v:Sm af v):F.vc v=some (!M.aY v):=by
 rfl
theorem F.nE (xs:LV) (h_xs:Sm (Ty.sl af) xs):F.jQ xs=some (M.idx (t:=af) (fun e=>!M.aY e) xs):=by
 exact iH (t:=af) (p:=(fun e=>!M.aY e)) (fun i h0 h1=>by simp only[F.dV,dQ])
theorem F.lK (xs:LV) (h_xs:Sm (Ty.sl af) xs):F.fA xs=some (List.any xs (fun e=>!M.aY e)):=by
 unfold F.fA
 exact gB (t:=af)
theorem F.AN (row:LV) (h_row:Sm (Ty.sl af) row):F.ux row=some (M.zU row):=by
 unfold F.ux M.zU
 rw[kH,show decide ((row.length:Int)<=4)=decide (row.length<=4) from decide_eq_decide.2 (by omega)]
 rw[List.all_eq_not_any_not]
theorem F.yC (LJ:LC) (row:LV) (LP:Sm (Ty.sl ag) LJ) (h_row:Sm (Ty.sl af) row):F.qM LJ row=some (M.cA LJ row):=by
 unfold F.qM M.cA
 cases M.cm LJ
 ·rfl
 cases M.zU row
 ·rfl
 by_cases hl:row.length=LJ.length
 ·rw[rM (M.Cq LJ row) () (fun i hi=>by
   obtain⟨h0,h1⟩:=fo.1 hi
   have h2:i<(LJ.length:Int):=by omega
   simp only[F.js,aq h2]
   unfold M.Cq
   cases decide ((@nth af row i).1=(@nth ag LJ i).1)<;>cases decide ((@nth af row i).1=(0:Int))<;>cases (@nth ag LJ i).2.1<;>rfl)]
  simp only[hl,Bool.not_true,decide_true,Bool.true_and,cond_true,cond_false]
  cases (aT 0 (LJ.length:Int)).all (M.Cq LJ row)<;>rfl
 ·have h3:¬(row.length:Int)=(LJ.length:Int):=by omega
  simp[hl,h3]
theorem F.wB (r:LV) (LJ:LC) (h_r:Sm (Ty.sl af) r) (LP:Sm (Ty.sl ag) LJ):F.tw r LJ=some (!M.cA LJ r):=by
 rfl
theorem F.yM (xs:LV) (ys:LV) (h_xs:Sm (Ty.sl af) xs) (h_ys:Sm (Ty.sl af) ys):F.vF xs ys=some (decide (xs=ys)):=by
 exact IY (t:=af) (fun i h0 h1 h2=>by simp only[F.jm,aq h2,vW,dQ,JQ (t:=af) rfl])
theorem F.yF (r:LV) (row:LV) (h_r:Sm (Ty.sl af) r) (h_row:Sm (Ty.sl af) row):F.vt r row=some (decide (r=row)):=by
 rfl
theorem F.nJ (xs:LLV) (k0:LV) (h_xs:Sm (Ty.sl (Ty.sl af)) xs) (h_k0:Sm (Ty.sl af) k0):F.jN xs k0=some (M.idx (t:=(Ty.sl af)) (fun e=>decide (e=k0)) xs):=by
 exact iH (t:=(Ty.sl af)) (p:=(fun e=>decide (e=k0))) (fun i h0 h1=>by simp only[F.dX,dQ])
theorem F.mN (xs:LLV) (k0:LC) (h_xs:Sm (Ty.sl (Ty.sl af)) xs) (h_k0:Sm (Ty.sl ag) k0):F.jG xs k0=some (M.idx (t:=(Ty.sl af)) (fun e=>!M.cA k0 e) xs):=by
 exact iH (t:=(Ty.sl af)) (p:=(fun e=>!M.cA k0 e)) (fun i h0 h1=>by simp only[F.dN,dQ])
theorem F.lA (xs:LLV) (k0:LC) (h_xs:Sm (Ty.sl (Ty.sl af)) xs) (h_k0:Sm (Ty.sl ag) k0):F.fj xs k0=some (List.any xs (fun e=>!M.cA k0 e)):=by
 unfold F.fj
 exact gB (t:=(Ty.sl af))
theorem F.ze (LJ:LC) (rows:LLV) (LP:Sm (Ty.sl ag) LJ) (h_rows:Sm (Ty.sl (Ty.sl af)) rows):F.rV LJ rows=some (M.jV LJ rows):=by
 unfold F.rV M.jV
 rw[kH,List.all_eq_not_any_not]
theorem F.uu (t:ai.D) (h_t:Sm ai t):F.lW t=some (!M.dU t):=by
 unfold F.lW M.dU
 cases hc:M.cm t.1
 ·have:M.jV t.1 t.2.1=false:=by unfold M.jV;rw[hc];rfl
  rw[this]
  simp
 by_cases h:t.2.1.length<=6
 ·have h2:¬(6:Int)<(t.2.1.length:Int):=by omega
  simp[h2,h]
 ·have h2:(6:Int)<(t.2.1.length:Int):=by omega
  simp[h2,h]
theorem F.lQ (xs:LTb) (h_xs:Sm (Ty.sl ai) xs):F.iX xs=some (M.idx (t:=ai) (fun e=>!M.dU e) xs):=by
 exact iH (t:=ai) (p:=(fun e=>!M.dU e)) (fun i h0 h1=>by simp only[F.di,dQ])
theorem F.kf (xs:LTb) (h_xs:Sm (Ty.sl ai) xs):F.eT xs=some (List.any xs (fun e=>!M.dU e)):=by
 unfold F.eT
 exact gB (t:=ai)
theorem F.vZ (LK:LTb) (LO:Sm (Ty.sl ai) LK):F.oS LK=some (M.bw LK):=by
 unfold F.oS M.bw
 rw[kH,show decide ((LK.length:Int)<=3)=decide (LK.length<=3) from decide_eq_decide.2 (by omega)]
 rw[List.all_eq_not_any_not]
theorem F.tK (p:aD.D) (h_p:Sm aD p):F.mb p=some (M.takes p):=by
 unfold F.mb M.takes
 generalize decide (p.1=(3:Int))=c3
 generalize decide (p.1=(4:Int))=c4
 generalize decide (p.1=(5:Int))=c5
 generalize decide (p.1=(6:Int))=c6
 generalize decide (p.1=(7:Int))=c7
 generalize decide (p.1=(8:Int))=c8
 cases c3<;>cases c4<;>cases c5<;>cases c6<;>cases c7<;>cases c8<;>rfl
theorem F.tL (p:aD.D) (LJ:LC) (h_p:Sm aD p) (LP:Sm (Ty.sl ag) LJ):F.lY p LJ=some (M.mg p LJ):=by
 unfold F.lY M.mg M.noV
 rw[gI _ LP.1]
 simp only[kH,show Ty.beq af p.2.2.1 ((0:Int),(0:Int),(⟨#[]⟩:ByteArray),())=Ty.beq af p.2.2.1 M.zeroV from rfl]
 generalize Ty.beq af p.2.2.1 M.zeroV=nv
 by_cases e1:p.1=(1:Int)
 ·simp only[e1,decide_true,cond_true]
 by_cases e2:p.1=(2:Int)
 ·simp only[e2,decide_true,cond_true,Int.reduceEq,decide_false,cond_false]
 by_cases e4:p.1=(4:Int)
 ·simp only[e4,decide_true,cond_true,Int.reduceEq,decide_false,cond_false]
 by_cases e3:p.1=(3:Int)
 ·simp only[e3,decide_true,cond_true,Int.reduceEq,decide_false,cond_false]
  rfl
 by_cases e5:p.1=(5:Int)
 ·simp only[e5,decide_true,cond_true,Int.reduceEq,decide_false,cond_false]
  rfl
 by_cases e6:p.1=(6:Int)
 ·simp only[e6,decide_true,cond_true,Int.reduceEq,decide_false,cond_false]
  rfl
 by_cases e7:p.1=(7:Int)
 ·simp only[e7,decide_true,cond_true,Int.reduceEq,decide_false,cond_false]
  rfl
 by_cases e8:p.1=(8:Int)
 ·simp only[e8,decide_true,cond_true,Int.reduceEq,decide_false,cond_false]
  rfl
 simp only[e1,e2,e3,e4,e5,e6,e7,e8,decide_false,cond_false,Gp e3 e4 e5 e6 e7 e8]
theorem F.qW (k:Int) (kind:Int)  : F.mZ k kind=some (!decide (k=kind)):=by
 rfl
theorem F.kg (xs:(List Int)) (k0:Int) (h_xs:Sm (Ty.sl (Ty.int .i64)) xs):F.gH xs k0=some (M.idx (t:=(Ty.int .i64)) (fun e=>!decide (e=k0)) xs):=by
 exact iH (t:=(Ty.int .i64)) (p:=(fun e=>!decide (e=k0))) (fun i h0 h1=>by simp only[F.cP,dQ])
theorem F.jw (xs:(List Int)) (k0:Int) (h_xs:Sm (Ty.sl (Ty.int .i64)) xs):F.dS xs k0=some (List.any xs (fun e=>!decide (e=k0))):=by
 unfold F.dS
 exact gB (t:=(Ty.int .i64))
theorem F.tg (kind:Int) (ins:(List Int)) (h_ins:Sm (Ty.sl (Ty.int .i64)) ins):F.kL kind ins=some (List.all ins (fun k=>decide (k=kind))):=by
 unfold F.kL
 rw[List.all_eq_not_any_not]
theorem F.vH (p:aD.D) (LJ:LC) (inp:(List Int)) (h_p:Sm aD p) (LP:Sm (Ty.sl ag) LJ) (h_inp:Sm (Ty.sl (Ty.int .i64)) inp) (p0:M.mg p LJ=true) (p1:(inp.length:Int)=M.takes p):F.mY p LJ inp=some (M.dh p LJ inp):=by
 unfold F.mY M.dh
 obtain⟨_,hc⟩:=zq p0
 by_cases e1:p.1=(1:Int)
 ·simp only[e1,decide_true,cond_true]
 by_cases e2:p.1=(2:Int)
 ·obtain⟨c0,c1⟩:=hc e2
  simp only[e2,decide_true,cond_true,Int.reduceEq,decide_false,cond_false]
  rw[aq c0,aq c1]
 by_cases e4:p.1=(4:Int)
 ·rw[kD (.inr (.inl e4))] at p1
  simp only[e4,decide_true,cond_true,Int.reduceEq,decide_false,cond_false]
  repeat rw[aq (by omega)]
 cases decide (p.1=(3:Int))<;>cases decide (p.1=(8:Int))<;>simp[e1,e2,e4]
theorem F.wU (LJ:LC) (e:LPt) (LP:Sm (Ty.sl ag) LJ) (h_e:Sm (Ty.sl aD) e):F.oQ LJ e=some (M.bR LJ e):=by
 unfold F.oQ M.bR
 cases M.cm LJ
 ·rfl
 by_cases hl:e.length<=12
 ·rw[decide_eq_false (show ¬(12:Int)<(e.length:Int) by omega),decide_eq_true hl]
  rw[tj e [] (by simp;omega)]
  cases M.jX LJ e [] with
  | none=>rfl
  | some s=>
   match s with
   | []=>rfl
   | [a]=>exact aq (by simp)
   | a::b::l=>
    have:¬((a::b::l).length:Int)=1:=by simp;omega
    simp only[this,decide_false]
    rfl
 ·rw[decide_eq_true (show (12:Int)<(e.length:Int) by omega),decide_eq_false hl]
  rfl
theorem F.wG (LK:LTb) (LL:LG) (LO:Sm (Ty.sl ai) LK) (LR:Sm (Ty.sl aI) LL):F.oU LK LL=some (M.bS LK LL):=by
 unfold F.oU M.bS
 rw[rM (M.mC LK LL) () (fun i hi=>by
  obtain⟨i0,i1⟩:=fo.1 hi
  have hl:=LR.1
  have hw:wrap64 (i-(1:Int))=i-1:=aF (by omega) (by omega)
  simp only[F.iW,hw,gI _ LO.1]
  unfold M.mC
  generalize M.inR (@nth aI LL i).1 0 ((LK.length:Int)-1)=c1
  generalize decide (M.bR (@nth ai LK (@nth aI LL i).1).1 (@nth aI LL i).2.1=3)=c2
  generalize decide ((@nth aI LL i).1<=(@nth aI LL (i-1)).1)=c3
  by_cases h0:0<i
  ·have g1:0<=i-1:=by omega
   have g2:i-1<(LL.length:Int):=by omega
   rw[decide_eq_true h0]
   repeat rw[aq g1]
   repeat rw[aq g2]
   cases c1<;>cases c2<;>cases c3<;>rfl
  ·rw[decide_eq_false h0]
   cases c1<;>cases c2<;>cases c3<;>rfl)]
 cases M.bw LK<;>cases (aT 0 (LL.length:Int)).all (M.mC LK LL)<;>rfl
theorem F.xg (xs:LC) (h_xs:Sm (Ty.sl ag) xs):F.tD xs=some xs:=by
 exact M.sL (t:=ag)
theorem F.ue (s:ah.D) (h_s:Sm ah s):F.lT s=some (M.bM s):=by
 unfold F.lT M.bM M.two
 generalize decide (s.2.1=(0:Int))=a0
 generalize decide (s.2.2.1=(0:Int))=b0
 generalize decide (s.2.2.2.1=(0:Int))=n0
 generalize decide ((s.2.2.2.2.1.length:Int)=(0:Int))=e0
 generalize decide ((s.2.2.2.2.2.1.length:Int)=(0:Int))=l0
 by_cases h1:s.1=(1:Int)
 ·simp only[h1,Int.reduceEq,decide_true,decide_false]
  cases a0<;>cases b0<;>cases n0<;>cases e0<;>cases l0<;>rfl
 by_cases h2:s.1=(2:Int)
 ·simp only[h2,Int.reduceEq,decide_true,decide_false]
  cases a0<;>cases b0<;>cases n0<;>cases e0<;>cases l0<;>rfl
 by_cases h3:s.1=(3:Int)
 ·simp only[h3,Int.reduceEq,decide_true,decide_false]
  cases a0<;>cases b0<;>cases n0<;>cases e0<;>cases l0<;>rfl
 by_cases h4:s.1=(4:Int)
 ·simp only[h4,Int.reduceEq,decide_true,decide_false]
  cases a0<;>cases b0<;>cases n0<;>cases e0<;>cases l0<;>rfl
 by_cases h5:s.1=(5:Int)
 ·simp only[h5,Int.reduceEq,decide_true,decide_false]
  cases a0<;>cases b0<;>cases n0<;>cases e0<;>cases l0<;>rfl
 simp only[h1,h2,h3,h4,h5,decide_false]
 cases a0<;>cases b0<;>cases n0<;>cases e0<;>cases l0<;>rfl
theorem F.yB (n:Int) (p0:0<=n) (p1:n<=1099511627776):F.qj n=some ([]:List ag.D):=by
 unfold F.qj
 have e:wrap64 (n-wrap64 ((0:Int)-(0:Int)))=n:=by
  rw[show wrap64 ((0:Int)-(0:Int))=0 by decide,Int.sub_zero]
  exact aF (by omega) (by omega)
 rw[decide_eq_false (by omega),e]
 by_cases h:0<n
 ·rw[decide_eq_true h]
  simp only[cond_true,cond_false]
  rw[aq p0,aq (by unfold lim;omega)]
  rfl
 ·rw[decide_eq_false h]
  rfl
theorem F.vj (xss:LLC) (h_xss:Sm (Ty.sl (Ty.sl ag)) xss):F.mU xss=some (List.flatten xss):=by
 unfold F.mU
 exact M.tQ (t:=ag) h_xss (fun z v h0 h1=>by
  unfold F.gQ
  rw[aF (n:=v+(z.length:Int)) (by omega) (by omega),decide_eq_false (by omega)]
  rfl) (fun z v h1=>by
  unfold F.gY
  rw[aq (by unfold lim;omega)])
theorem F.vP (s:ah.D) (LK:LTb) (LN:(List aH.D)) (h_s:Sm ah s) (LO:Sm (Ty.sl ai) LK) (h_ahead:Sm (Ty.sl aH) LN):F.iC s LK LN=some (M.make s LK LN):=by
 obtain⟨r,h1,_⟩:=ve h_s LO h_ahead
 unfold M.make
 rw[h1]
 rfl
theorem F.AZ (LK:LTb) (plan:LS) (LO:Sm (Ty.sl ai) LK) (LQ:Sm (Ty.sl ah) plan):F.nq LK plan=some (M.makes LK plan):=by
 obtain⟨r,h1,_⟩:=tq LO LQ
 unfold M.makes
 rw[h1]
 rfl
theorem F.zI (LK:LTb) (plan:LS) (LO:Sm (Ty.sl ai) LK) (LQ:Sm (Ty.sl ah) plan):F.sD LK plan=some (M.bU LK plan):=by
 unfold F.sD
 rw[bX]
 exact congrArg some (HZ LO LQ)
theorem F.ym (xs:(List Int)) (h_xs:Sm (Ty.sl (Ty.int .i64)) xs):F.uK xs=some xs:=by
 exact M.sL (t:=(Ty.int .i64))
theorem F.zj (xs:LPt) (h_xs:Sm (Ty.sl aD) xs):F.xD xs=some xs:=by
 exact M.sL (t:=aD)
theorem F.AF (kind:Int)  : F.rJ kind=some (M.two kind):=by
 unfold F.rJ M.two
 cases decide (kind=(4:Int))<;>rfl
theorem F.yu (LL:LG) (n:Int) (LR:Sm (Ty.sl aI) LL):F.qK LL n=some (M.guardOf LL n):=by
 unfold F.qK M.guardOf
 have key:∀l:List aI.D,aU (F.gG LL n) l ()=some (match l.find? (fun g:aI.D=>decide (g.1=n)) with | some g=>.inr g.2.1 | none=>.inl ()):=by
  intro l
  induction l with
  | nil=>rfl
  | cons x l ih=>
   rw[ck,List.find?_cons]
   unfold F.gG
   cases decide (x.1=n) with
   | true=>rfl
   | false=>exact ih
 rw[key]
 cases LL.find? (fun g:aI.D=>decide (g.1=n))<;>rfl
theorem F.xe (plan:LS) (LQ:Sm (Ty.sl ah) plan):F.oV plan=some plan:=by
 unfold F.oV
 rw[uN (fun r=>r) (fun x hx s hs=>by
  have hl:=LQ.1
  simp only[F.iI,bX,M.iS]
  rw[aq (by unfold lim;simp;omega)]),M.zi,bE,M.je]
theorem F.ta (LK:LTb) (LL:LG) (plan:LS) (LO:Sm (Ty.sl ai) LK) (LR:Sm (Ty.sl aI) LL) (LQ:Sm (Ty.sl ah) plan):F.kq LK LL plan=some (M.bB LK LL plan):=by
 unfold F.kq M.bB
 cases hg:M.bS LK LL
 ·rfl
 cases hp:M.bU LK plan
 ·rfl
 have p0:=M.ot hp
 have hl:=LQ.1
 have e1:(plan.length:Int).toNat=plan.length:=by simp
 simp only[Bool.not_true,cond_true,cond_false,bX,Bool.and_self,show ((false:Bool)==false)=true from rfl]
 rw[e1]
 have hfold:=M.vG (f:=F.eX LK LL plan) (M.cG LL plan) (fun k v=>v.2.length=plan.length/\(v.1.length:Int)<=2 * k/\∀s∈v.1,Sm ah s) plan.length (s:=([],List.replicate plan.length (0:Int))) ⟨by simp,by simp,fun s h=>by cases h⟩ (fun k v k0 k1 hI=>by
   have hnext:(M.cG LL plan v k).2.length=plan.length/\((M.cG LL plan v k).1.length:Int)<=2 * (k+1)/\∀s∈(M.cG LL plan v k).1,Sm ah s:=by
    have:=M.Iv (LL:=LL) (plan:=plan) (v:=v) (k:=k)
    refine⟨this.2.trans hI.1,?_,M.FV LR LQ hI.2.2⟩
    have h1:=this.1
    have h2:=hI.2.1
    omega
   refine⟨?_,hnext⟩
   clear hnext
   have hl:=LQ.1
   obtain⟨hI1,hI2,hI3⟩:=hI
   have hin:=p0.2 k k0 k1
   have hs1:k<(v.2.length:Int):=by rw[hI1];exact k1
   have hv6:v.1.length<=4000000:=by omega
   have hlim:∀s:ah.D,(v.1.length+[s].length) * 80<=lim:=fun s=>by unfold lim;simp;omega
   have hlim2:∀s s':ah.D,((v.1++[s]).length+[s'].length) * 80<=lim:=fun s s'=>by unfold lim;simp;omega
   have hw1:∀s:ah.D,wrap64 (((v.1++[s]).length:Int)-1)=((v.1++[s]).length:Int)-1:=fun s=>aF (by simp<;>omega) (by simp<;>omega)
   have hw2:∀s s':ah.D,wrap64 (((v.1++[s]++[s']).length:Int)-1)=((v.1++[s]++[s']).length:Int)-1:=fun s s'=>aF (by simp<;>omega) (by simp<;>omega)
   unfold F.eX M.cG M.mj M.eV M.ren
   simp only[bX,M.iS]
   by_cases h1:(@nth ah plan k).1=(1:Int)
   ·have ht:M.two (@nth ah plan k).1=false:=by rw[h1];rfl
    rw[ht]
    simp only[h1,decide_true,Bool.not_true,Bool.true_and,cond_true,cond_false]
    rw[aq (hlim _)]
    cases (M.guardOf LL (@nth ah plan k).2.2.2.1).2
    ·simp only[cond_false,show ((false:Bool)==true)=false from rfl]
     rw[aq hs1,hw1]
    ·simp only[cond_true,show ((true:Bool)==true)=true from rfl]
     rw[aq (hlim2 _ _),aq hs1,hw1,hw2]
   ·obtain⟨⟨a0,a1⟩,⟨b0,b1⟩⟩:=hin h1
    have a2:(@nth ah plan k).2.1<(v.2.length:Int):=by rw[hI1];exact Int.lt_trans a1 k1
    have b2:(@nth ah plan k).2.2.1<(v.2.length:Int):=by rw[hI1];exact Int.lt_trans b1 k1
    rw[decide_eq_false h1]
    simp only[Bool.not_false,Bool.false_and,cond_true,cond_false]
    rw[aq a0,aq a2]
    cases M.two (@nth ah plan k).1
    ·simp only[cond_false]
     rw[aq (hlim _)]
     cases (M.guardOf LL (@nth ah plan k).2.2.2.1).2<;>simp only[cond_true,cond_false,show ((false:Bool)==true)=false from rfl,show ((true:Bool)==true)=true from rfl]<;>rw[aq hs1,hw1]
    ·simp only[cond_true]
     rw[aq b0,aq b2,aq (hlim _)]
     cases (M.guardOf LL (@nth ah plan k).2.2.2.1).2<;>simp only[cond_true,cond_false,show ((false:Bool)==true)=false from rfl,show ((true:Bool)==true)=true from rfl]<;>rw[aq hs1,hw1])
 rw[hfold.1,bE]
 show cond (decide (6<((M.grown LL plan).1.length:Int))) _ (aa (Sm (.sl ah) (M.grown LL plan).1) (some ((M.grown LL plan).1.take ((M.grown LL plan).1.length:Int).toNat,true)))=_
 rw[aq ⟨by have:=hfold.2.2.1;have h6:=M.HO hp;show (M.grown LL plan).1.length<=1048576;have e:(M.grown LL plan).1=((aT 0 (plan.length:Int)).foldl (M.cG LL plan) ([],List.replicate plan.length (0:Int))).1:=rfl;rw[e];omega,hfold.2.2.2⟩,M.je,dQ]
theorem F.yA (truth:Int)  : F.qy truth=some (M.valueOf truth):=by
 unfold F.qy M.valueOf
 cases M.inR truth 0 1<;>rfl
theorem F.AS (vals:(List Int)) (h_vals:Sm (Ty.sl (Ty.int .i64)) vals):F.tZ vals=some (M.orI vals):=by
 unfold F.tZ
 suffices h:∀(A B:List Int),bH (aU (F.jk A) B ()) (fun v0:Unit=>some (0:Int)) (fun q0:Int=>some q0)=some (M.orI B) from h vals vals
 intro A B
 induction B with
 | nil=>rfl
 | cons x l ih=>
  rw[ck]
  simp only[F.jk,M.orI]
  by_cases hx:x=0
  ·simp only[hx,decide_true,Bool.not_true,cond_false,cond_true,bE]
   exact ih
  ·simp[hx]
theorem F.wo (x:Int)  : F.cmp_isNaN_int x=some false:=by
 unfold F.cmp_isNaN_int
 simp
theorem F.tX (x:Int) (y:Int)  : F.lN x y=some (M.rP x y):=by
 unfold F.lN M.rP
 simp only[cond_false,dQ]
theorem F.sW (x:ByteArray) (h_x:Sm Ty.str x):F.cmp_isNaN_string x=some false:=by
 unfold F.cmp_isNaN_string
 simp
theorem F.qX (x:ByteArray) (y:ByteArray) (h_x:Sm Ty.str x) (h_y:Sm Ty.str y):F.jx x y=some (M.En x y):=by
 unfold F.jx M.En
 simp only[cond_false,dQ]
theorem F.sY (v:af.D) (w:af.D) (h_v:Sm af v) (h_w:Sm af w):F.kO v w=some (M.order v w):=by
 unfold F.kO
 rw[aq ⟨by simp,fun _ _=>trivial⟩]
 rfl
theorem F.yK (b:Bool)  : F.pY b=some (M.bool b):=by
 unfold F.pY M.bool
 rw[dQ]
theorem F.yd (kind:Int) (a:af.D) (b:af.D) (h_a:Sm af a) (h_b:Sm af b):F.qd kind a b=some (M.compare kind a b):=by
 unfold F.qd M.compare M.DW
 cases hk:M.inR kind 1 4
 ·rfl
 cases M.aY a
 ·rfl
 cases M.aY b
 ·rfl
 have h4:decide (kind=1)=false->decide (kind=2)=false->decide (kind=3)=false->decide (kind=4)=true:=by
  unfold M.inR at hk
  simp at hk ⊢
  omega
 cases decide (a.1=(0:Int))<;>cases decide (b.1=(0:Int))<;>cases decide (a.1=b.1)<;>cases h1:decide (kind=1)<;>cases h2:decide (kind=2)<;>cases h3:decide (kind=3)<;>(try rw[h4 h1 h2 h3])<;>cases decide (M.order a b=0)<;>cases decide (M.order a b<0)<;>rfl
theorem F.yc (n:Int)  : F.uW n=some (M.inR n 0 2):=by
 rfl
theorem F.Ci (a:Int) (b:Int) (alone:Int) (p0:0<=alone/\alone<=1):F.wR a b alone=some (M.fold a b alone):=by
 unfold F.wR M.fold
 rw[aF (n:=1-alone) (by omega) (by omega)]
 cases M.inR a 0 2
 ·rfl
 cases M.inR b 0 2
 ·rfl
 cases decide (a=alone)<;>cases decide (b=alone)<;>cases decide (a=2)<;>cases decide (b=2)<;>rfl
theorem F.Br (a:Int) (b:Int)  : F.uj a b=some (M.BX a b):=by
 unfold F.uj M.BX
 rw[aq (by decide)]
theorem F.yj (v:af.D) (h_v:Sm af v):F.qB v=some (M.fy v):=by
 unfold F.qB M.fy
 cases M.aY v<;>simp only[Bool.not_true,Bool.not_false,cond_true,cond_false,dQ]
theorem F.CW (a:Int) (b:Int)  : F.wI a b=some (M.GL a b):=by
 unfold F.wI M.GL
 rw[aq (by decide)]
theorem F.AR (a:Int)  : F.uw a=some (M.Cd a):=by
 unfold F.uw M.Cd
 simp only[dQ]
theorem F.tY (p:aD.D) (row:LV) (inp:LV) (h_p:Sm aD p) (h_row:Sm (Ty.sl af) row) (h_inp:Sm (Ty.sl af) inp) (p0:(inp.length:Int)=M.takes p) (p1:M.xG p row.length) (p2:1<=p.1/\p.1<=8):F.lV p row inp=some (M.jF p row inp):=by
 unfold F.lV M.jF
 have hz:(((0:Int),(0:Int),(⟨#[]⟩:ByteArray),()):af.D)=M.zeroV:=rfl
 by_cases e1:p.1=(1:Int)
 ·simp only[e1,decide_true,cond_true]
 by_cases e2:p.1=(2:Int)
 ·obtain⟨c0,c1⟩:=p1 e2
  simp only[e2,decide_true,cond_true,Int.reduceEq,decide_false,cond_false]
  rw[aq c0,aq c1]
 by_cases e3:p.1=(3:Int)
 ·rw[kD (.inl e3)] at p0
  simp only[e3,decide_true,cond_true,Int.reduceEq,decide_false,cond_false]
  repeat rw[aq (by omega)]
  generalize @nth af inp 0=a
  generalize @nth af inp 1=b
  unfold M.sum
  have hv:M.aY ((1:Int),wrap64 (a.2.1+b.2.1),(⟨#[]⟩:ByteArray),())=M.inR (wrap64 (a.2.1+b.2.1)) (-9999) 9999:=by unfold M.aY;simp
  rw[hv]
  cases decide (a.1=(0:Int))<;>cases decide (b.1=(0:Int))<;>cases M.inR (wrap64 (a.2.1+b.2.1)) (-9999) 9999<;>rfl
 by_cases e4:p.1=(4:Int)
 ·rw[kD (.inr (.inl e4))] at p0
  simp only[e4,decide_true,cond_true,Int.reduceEq,decide_false,cond_false,bX]
  repeat rw[aq (by omega)]
 by_cases e5:p.1=(5:Int)
 ·rw[kD (.inr (.inr (.inl e5)))] at p0
  simp only[e5,decide_true,cond_true,Int.reduceEq,decide_false,cond_false,bX]
  repeat rw[aq (by omega)]
 by_cases e6:p.1=(6:Int)
 ·rw[kD (.inr (.inr (.inr e6)))] at p0
  simp only[e6,decide_true,cond_true,Int.reduceEq,decide_false,cond_false,bX]
  repeat rw[aq (by omega)]
 by_cases e7:p.1=(7:Int)
 ·rw[sK (.inl e7)] at p0
  simp only[e7,decide_true,cond_true,Int.reduceEq,decide_false,cond_false,bX]
  repeat rw[aq (by omega)]
 ·simp only[e1,e2,e3,e4,e5,e6,e7,decide_false,cond_false,bX]
  have e8:p.1=(8:Int):=by
   rcases Ju p2 with h | h | h | h | h | h | h | h<;>first | exact h | exact absurd h (by assumption)
  rw[sK (.inr e8)] at p0
  rw[aq (by omega)]
theorem F.vD (row:LV) (e:LPt) (h_row:Sm (Ty.sl af) row) (h_e:Sm (Ty.sl aD) e) (p0:M.fG row.length e):F.mS row e=some (M.kK row e):=by
 unfold F.mS M.kK
 obtain⟨h1,h2⟩:=Ei (f:=F.eP row e) h_row (fun p st hp hs hl h1 hk hc=>AW p st hp hs hl h1 hk hc) e [] h_e.2 (kJ af) (by simp;have:=p0.1;omega) p0.2
 rw[h1,bE,aq (by omega)]
theorem F.vL (row:LV) (e:LPt) (h_row:Sm (Ty.sl af) row) (h_e:Sm (Ty.sl aD) e) (p0:M.fG row.length e):F.rT row e=some (M.holds row e):=by
 rfl
theorem F.vR (LJ:LC) (row:LV) (e:LPt) (LP:Sm (Ty.sl ag) LJ) (h_row:Sm (Ty.sl af) row) (h_e:Sm (Ty.sl aD) e):F.mP LJ row e=some (M.ld LJ row e):=by
 unfold F.mP M.ld
 by_cases h1:M.bR LJ e=3
 ·rw[decide_eq_true h1]
  cases h2:M.cA LJ row with
  | false=>rfl
  | true=>
   simp only[cond_true,Bool.true_and,show ((true:Bool)==true)=true from rfl]
   rw[aq]
   have h2:=h2
   unfold M.cA at h2
   simp only[Bool.and_eq_true,decide_eq_true_eq] at h2
   rw[h2.2.2.1]
   exact wV (by rw[h1];decide)
 ·rw[decide_eq_false h1]
  rfl
theorem F.AX (rows:LLV) (row:LV) (h_rows:Sm (Ty.sl (Ty.sl af)) rows) (h_row:Sm (Ty.sl af) row):F.zu rows row=some (M.rowAt rows row):=by
 rfl
theorem F.vX (LK:LTb) (c:aK.D) (LO:Sm (Ty.sl ai) LK) (h_c:Sm aK c):F.oJ LK c=some (M.cJ LK c):=by
 unfold F.oJ M.cJ
 have:=LO.1
 rw[aF (n:=(LK.length:Int)-(1:Int)) (by omega) (by omega)]
 cases M.bw LK<;>cases M.inR c.1 0 ((LK.length:Int)-1)<;>cases M.cA (@nth ai LK c.1).1 c.2.1<;>cases c.2.2.1<;>cases decide (((@nth ai LK c.1).2.1.length:Int)<(6:Int))<;>rfl
theorem F.yy (xs:LV) (h_xs:Sm (Ty.sl af) xs):F.vJ xs=some xs:=by
 exact M.sL (t:=af)
theorem F.wE (rows:LLV) (h_rows:Sm (Ty.sl (Ty.sl af)) rows):F.oF rows=some rows:=by
 unfold F.oF
 rw[uN (fun r=>r) (fun x hx s hs=>by
  have hl:=h_rows.1
  simp only[F.iU,bX,M.iS]
  rw[aq (by unfold lim;simp;omega)]),M.zi,bE,M.je]
theorem F.uk (LK:LTb) (LO:Sm (Ty.sl ai) LK):F.lR LK=some LK:=by
 unfold F.lR
 rw[uN (fun r=>r) (fun x hx s hs=>by
  have hl:=LO.1
  simp only[F.gv,bX,M.iS]
  rw[aq (by unfold lim;simp;omega)]),M.zi,bE,M.je]
theorem F.sV (LK:LTb) (c:aK.D) (LO:Sm (Ty.sl ai) LK) (h_c:Sm aK c) (p0:M.cJ LK c):F.kM LK c=some (M.bP LK c):=by
 unfold F.kM
 have hp:M.cJ LK c=true:=p0
 unfold M.cJ at hp
 obtain⟨_,hp⟩:=Bool.and_eq_true_iff.1 hp
 obtain⟨hi,hp⟩:=Bool.and_eq_true_iff.1 hp
 obtain⟨i0,i1⟩:=M.jW.1 hi
 obtain⟨_,hp⟩:=Bool.and_eq_true_iff.1 hp
 have sr:Sm (.sl (.sl af)) (@nth ai LK c.1).2.1:=(aO LO c.1).2.1
 have sv:Sm (.sl af) c.2.1:=h_c.2.1
 simp only[bX,M.iS]
 rw[aq i0,aq i1]
 unfold M.bP M.gJ
 have i1':c.1<(LK.length:Int):=by omega
 have hl:=sr.1
 cases hc:c.2.2.1 with
 | true=>
  have s1:Sm (.sl (.sl af)) ((@nth ai LK c.1).2.1++[c.2.1]):=by
   rw[hc,cond_true] at hp
   have:=of_decide_eq_true hp
   refine⟨by rw[List.length_append];simp only[List.length_cons,List.length_nil];omega,fun x hx=>(List.mem_append.1 hx).elim (sr.2 x) fun hx=>by rw[List.mem_singleton.1 hx];exact sv⟩
  simp only[cond_true]
  rw[aq (by simp only[List.length_cons,List.length_nil,lim];omega),M.Ld i0 i1',M.Lq i0 i1',M.sE i0 i1',aq s1]
 | false=>
  rw[hc,cond_false] at hp
  have r0:=of_decide_eq_true hp
  have r1:M.rowAt (@nth ai LK c.1).2.1 c.2.1<((@nth ai LK c.1).2.1.length:Int):=by
   rcases Kw (t:=.sl af) (p:=fun e=>decide (e=c.2.1)) (xs:=(@nth ai LK c.1).2.1) with h | h
   ·exact h
   ·unfold M.rowAt at r0
    rw[h] at r0
    exact absurd (show (0:Int)<=-1 from r0) (by decide)
  generalize hr:M.rowAt (@nth ai LK c.1).2.1 c.2.1=k at *
  have hw:wrap64 (k+(1:Int))=k+1:=aF (by omega) (by omega)
  have s1:Sm (.sl (.sl af)) ((@nth ai LK c.1).2.1.take k.toNat++(@nth ai LK c.1).2.1.drop (k.toNat+1)):=by
   refine⟨by simp;omega,fun x hx=>(List.mem_append.1 hx).elim (fun h=>sr.2 x (List.mem_of_mem_take h)) fun h=>sr.2 x (List.mem_of_mem_drop h)⟩
  simp only[cond_false]
  rw[hw,show (k+1).toNat=k.toNat+1 by omega,aq sr,aq r0,aq (by omega),aq (by omega),M.Ld i0 i1',M.Lq i0 i1',M.sE i0 i1',aq s1]
theorem F.yh (rows:LLV) (row:LV) (h_rows:Sm (Ty.sl (Ty.sl af)) rows) (h_row:Sm (Ty.sl af) row):F.qo rows row=some (M.cV rows row:Int):=by
 unfold F.qo M.cV
 have hl:=h_rows.1
 have key:∀(l:List (List af.D)) (v:Int),0<=v->v+(l.length:Int)<=1048576->aU (F.gD rows row) l v=some (.inl (v+(l.countP (fun r=>decide (r=row)):Int))):=by
  intro l
  induction l with
  | nil=>intro v _ _;show some (Sum.inl v)=some (Sum.inl (v+0));rw[Int.add_zero]
  | cons x l ih=>
   intro v h0 hb
   simp only[List.length_cons] at hb
   rw[ck,List.countP_cons,show F.gD rows row x v=cond (decide (x=row)) (some (.inl (wrap64 (v+(1:Int))))) (some (.inl v)) from rfl]
   cases decide (x=row) with
   | true=>
    rw[cond_true,aF (n:=v+(1:Int)) (by omega) (by omega),bE,ih _ (by omega) (by omega)]
    congr 2
    simp
    omega
   | false=>
    rw[cond_false,bE,ih _ h0 (by omega)]
    congr 2
 rw[key rows 0 (by omega) (by omega),bE,Int.zero_add]
theorem F.yb (rows:LLV) (row:LV) (h_rows:Sm (Ty.sl (Ty.sl af)) rows) (h_row:Sm (Ty.sl af) row):F.vw rows row=some (decide (0<(M.cV rows row:Int))):=by
 rfl
theorem F.vY (rows:LLV) (h_rows:Sm (Ty.sl (Ty.sl af)) rows):F.oX rows=some (M.gC rows):=by
 unfold F.oX M.gC
 have hfold:=AL (f:=F.gb rows) rows h_rows (fun z v hz hv=>by
  unfold F.gb M.fK
  have hl:=h_rows.1
  rw[aq hv.1]
  rw[show (!decide ((0:Int)<(M.cV v z:Int)))=decide ((M.cV v z:Int)=(0:Int)) by
   generalize M.cV v z=n
   by_cases h:n=0
   ·rw[decide_eq_false (by omega),decide_eq_true (by omega)];rfl
   ·rw[decide_eq_true (by omega),decide_eq_false (by omega)];rfl]
  cases decide ((M.cV v z:Int)=(0:Int)) with
  | false=>rfl
  | true=>
   simp only[cond_true]
   rw[aq (by have:=hv.2;unfold lim;simp;omega)])
 rw[hfold.1,bE,aq hfold.2,bX,M.je]
theorem F.yl (n:Int) (p0:0<=n) (p1:n<=1099511627776):F.qH n=some ([]:List (Ty.sl af).D):=by
 unfold F.qH
 have e:wrap64 (n-wrap64 ((0:Int)-(0:Int)))=n:=by
  rw[show wrap64 ((0:Int)-(0:Int))=0 by decide,Int.sub_zero]
  exact aF (by omega) (by omega)
 rw[decide_eq_false (by omega),e]
 by_cases h:0<n
 ·rw[decide_eq_true h]
  simp only[cond_true,cond_false]
  rw[aq p0,aq (by unfold lim;omega)]
  rfl
 ·rw[decide_eq_false h]
  rfl
theorem F.vg (xss:(List LLV)) (h_xss:Sm (Ty.sl (Ty.sl (Ty.sl af))) xss):F.ny xss=some (List.flatten xss):=by
 unfold F.ny
 exact M.tQ (t:=(Ty.sl af)) h_xss (fun z v h0 h1=>by
  unfold F.gO
  rw[aF (n:=v+(z.length:Int)) (by omega) (by omega),decide_eq_false (by omega)]
  rfl) (fun z v h1=>by
  unfold F.gT
  rw[aq (by unfold lim;omega)])
theorem F.nD (s1:LV) (s2:LV) (h_s1:Sm (Ty.sl af) s1) (h_s2:Sm (Ty.sl af) s2):ok (F.bY s1 s2) (fun r=>M.any r):=by
  unfold F.bY
  refine okT (A:=fun v0=>(0:Int)<=0) (B:=fun q0=>(0:Int)<=0) ?_ (fun v0 h_v0=>?_) (fun q0 h_q0=>?_)
  ·refine CY (fun(k:Nat) (v0:Unit)=>(0:Int)<=0) au (fun i0 hz k v0 hk hI=>?_)
   obtain⟨i_0⟩:=hI
   unfold F.gr
   refine okD (fun c_0=>?_) (fun c_0=>?_)
   ·exact cL au
   ·refine okG ?_
    refine GC (fun c_1=>?_) (fun c_1=>?_)
    ·exact cL au
    ·exact cn au
  ·refine okD (fun c_2=>?_) (fun c_2=>?_)
   ·exact JL
   ·exact JL
  ·exact JL
theorem F.tS (s1:LV) (s2:LV) (h_s1:Sm (Ty.sl af) s1) (h_s2:Sm (Ty.sl af) s2):F.bY s1 s2=some (M.bY s1 s2):=dD (F.nD s1 s2 h_s1 h_s2)
theorem M.qZ (s1:LV) (s2:LV) (h_s1:Sm (Ty.sl af) s1) (h_s2:Sm (Ty.sl af) s2):M.any (M.bY s1 s2):=dF (F.nD s1 s2 h_s1 h_s2)
theorem EG {α:Type} {K:α->Prop} {f:Int->Option α} {s1:LV} {s2:LV} (k:∀r,(M.any r)->ok (f r) K) (h_s1:Sm (Ty.sl af) s1:=by exact au) (h_s2:Sm (Ty.sl af) s2:=by exact au):ok (aG (M.bY s1 s2) f) K:=by
 have h:=M.qZ s1 s2 h_s1 h_s2
 exact k _ h
theorem F.xu (a:LV) (b:LV) (h_a:Sm (Ty.sl af) a) (h_b:Sm (Ty.sl af) b):ok (F.dY a b) (fun r=>M.any r):=by
 unfold F.dY
 refine okG ?_ (⟨by simp,fun _ _=>trivial⟩)
 exact JL
theorem F.Dw (a:LV) (b:LV) (h_a:Sm (Ty.sl af) a) (h_b:Sm (Ty.sl af) b):F.dY a b=some (M.dY a b):=dD (F.xu a b h_a h_b)
theorem M.Bk (a:LV) (b:LV) (h_a:Sm (Ty.sl af) a) (h_b:Sm (Ty.sl af) b):M.any (M.dY a b):=dF (F.xu a b h_a h_b)
theorem JO {α:Type} {K:α->Prop} {f:Int->Option α} {a:LV} {b:LV} (k:∀r,(M.any r)->ok (f r) K) (h_a:Sm (Ty.sl af) a:=by exact au) (h_b:Sm (Ty.sl af) b:=by exact au):ok (aG (M.dY a b) f) K:=by
 have h:=M.Bk a b h_a h_b
 exact k _ h
theorem F.pI (data:LLV) (a:Int) (b:Int) (h_data:Sm (Ty.sl (Ty.sl af)) data) (p0:0<=a) (p1:a<=b) (p2:b<=(data.length:Int)):ok (F.cr data a b) (fun r=>r.length=data.length/\Sm (.sl (.sl af)) r):=by
  unfold F.cr
  have hl:=h_data.1
  have w_a:wrap64 (a+(1:Int))=a+(1:Int):=aF (by omega) (by omega)
  refine okG ?_ (by unfold eS;(try unfold wrap64);omega)
  refine okG ?_
  refine okT (A:=fun v0=>v0.length=data.length/\Sm (.sl (.sl af)) v0) (B:=fun _=>False) ?_ (fun v0 h_v0=>?_) (fun _ h=>h.elim)
  ·refine CY (fun(k:Nat) (v0:LLV)=>v0.length=data.length/\Sm (.sl (.sl af)) v0) ⟨au,au⟩ (fun i0 hz k v0 hk hI=>?_)
   obtain⟨i_0,i_1⟩:=hI
   obtain⟨z_a,z_b⟩:=fo.1 hz
   unfold F.iF
   refine okB (A:=fun e2=>e2.length=data.length/\Sm (.sl (.sl af)) e2) ?_ (fun e2 h_e2=>?_)
   ·refine okW (fun(k:Nat) (v2:Int×LLV)=>a<=v2.1/\v2.1<b/\v2.2.length=data.length/\Sm (.sl (.sl af)) v2.2/\v2.1-a<=(k:Int)) (fun k v2 hI=>?_) ((i0-a).toNat:Nat) _ ⟨au,au,au,au,au⟩
    obtain⟨i_0,i_1,i_2,i_3,i_4⟩:=hI
    unfold F.iK
    refine iG (fun c_0=>?_) (fun c_0=>?_)
    ·refine okG ?_
     refine okG ?_
     refine okG ?_
     refine okG ?_
     refine okG ?_
     refine okG ?_
     refine okD (fun c_1=>?_) (fun c_1=>?_)
     ·refine okL fun y1 ey1=>?_
      subst ey1
      exact cn ⟨k-1,by omega,au,au,au,au,au⟩
     ·exact cL ⟨au,au⟩
    ·exact cL ⟨au,au⟩
   ·obtain⟨e2_0,e2_1⟩:=h_e2
    exact cn ⟨au,au⟩
  ·obtain⟨v0_0,v0_1⟩:=h_v0
   exact dG
theorem F.wq (data:LLV) (a:Int) (b:Int) (h_data:Sm (Ty.sl (Ty.sl af)) data) (p0:0<=a) (p1:a<=b) (p2:b<=(data.length:Int)):F.cr data a b=some (M.cr data a b):=dD (F.pI data a b h_data p0 p1 p2)
theorem M.tU (data:LLV) (a:Int) (b:Int) (h_data:Sm (Ty.sl (Ty.sl af)) data) (p0:0<=a) (p1:a<=b) (p2:b<=(data.length:Int)):(M.cr data a b).length=data.length/\Sm (.sl (.sl af)) (M.cr data a b):=dF (F.pI data a b h_data p0 p1 p2)
theorem oz {α:Type} {K:α->Prop} {f:LLV->Option α} {data:LLV} {a:Int} {b:Int} (k:∀r,(r.length=data.length)->(Sm (.sl (.sl af)) r)->ok (f r) K) (h_data:Sm (Ty.sl (Ty.sl af)) data:=by exact au) (p0:0<=a:=by exact au) (p1:a<=b:=by exact au) (p2:b<=(data.length:Int):=by exact au):ok (aG (M.cr data a b) f) K:=by
 have h:=M.tU data a b h_data p0 p1 p2
 obtain⟨h0,h1⟩:=h
 exact k _ h0 h1
theorem F.vO (data:LLV) (a:Int) (b:Int) (n:Int) (h_data:Sm (Ty.sl (Ty.sl af)) data) (p0:0<=a) (p1:0<=b) (p2:0<=n) (p3:a+n<=(data.length:Int)) (p4:b+n<=(data.length:Int)):ok (F.dz data a b n) (fun r=>r.length=data.length/\Sm (.sl (.sl af)) r):=by
  unfold F.dz
  have hl:=h_data.1
  refine okG ?_ (by unfold eS;(try unfold wrap64);omega)
  refine okT (A:=fun v0=>v0.length=data.length/\Sm (.sl (.sl af)) v0) (B:=fun _=>False) ?_ (fun v0 h_v0=>?_) (fun _ h=>h.elim)
  ·refine CY (fun(k:Nat) (v0:LLV)=>v0.length=data.length/\Sm (.sl (.sl af)) v0) ⟨au,au⟩ (fun i0 hz k v0 hk hI=>?_)
   obtain⟨i_0,i_1⟩:=hI
   obtain⟨z_a,z_b⟩:=fo.1 hz
   unfold F.mz
   refine okG ?_
   refine okG ?_
   refine okG ?_
   refine okG ?_
   refine okL fun y1 ey1=>?_
   subst ey1
   exact cn ⟨au,au⟩
  ·obtain⟨v0_0,v0_1⟩:=h_v0
   exact dG
theorem F.Cs (data:LLV) (a:Int) (b:Int) (n:Int) (h_data:Sm (Ty.sl (Ty.sl af)) data) (p0:0<=a) (p1:0<=b) (p2:0<=n) (p3:a+n<=(data.length:Int)) (p4:b+n<=(data.length:Int)):F.dz data a b n=some (M.dz data a b n):=dD (F.vO data a b n h_data p0 p1 p2 p3 p4)
theorem M.Ac (data:LLV) (a:Int) (b:Int) (n:Int) (h_data:Sm (Ty.sl (Ty.sl af)) data) (p0:0<=a) (p1:0<=b) (p2:0<=n) (p3:a+n<=(data.length:Int)) (p4:b+n<=(data.length:Int)):(M.dz data a b n).length=data.length/\Sm (.sl (.sl af)) (M.dz data a b n):=dF (F.vO data a b n h_data p0 p1 p2 p3 p4)
theorem oD {α:Type} {K:α->Prop} {f:LLV->Option α} {data:LLV} {a:Int} {b:Int} {n:Int} (k:∀r,(r.length=data.length)->(Sm (.sl (.sl af)) r)->ok (f r) K) (h_data:Sm (Ty.sl (Ty.sl af)) data:=by exact au) (p0:0<=a:=by exact au) (p1:0<=b:=by exact au) (p2:0<=n:=by exact au) (p3:a+n<=(data.length:Int):=by exact au) (p4:b+n<=(data.length:Int):=by exact au):ok (aG (M.dz data a b n) f) K:=by
 have h:=M.Ac data a b n h_data p0 p1 p2 p3 p4
 obtain⟨h0,h1⟩:=h
 exact k _ h0 h1
theorem F.tB (data:LLV) (a:Int) (mi:Int) (b:Int) (h_data:Sm (Ty.sl (Ty.sl af)) data) (p0:0<=a) (p1:a<mi) (p2:mi<b) (p3:b<=(data.length:Int)):ok (F.dr data a mi b) (fun r=>r.length=data.length/\Sm (.sl (.sl af)) r):=by
  unfold F.dr
  have hl:=h_data.1
  have w_a:wrap64 (mi-a)=mi-a:=aF (by omega) (by omega)
  have w_b:wrap64 (b-mi)=b-mi:=aF (by omega) (by omega)
  refine okB (A:=fun e0=>1<=e0.1/\e0.1<=mi-a/\e0.1<=b-mi/\e0.2.length=data.length/\Sm (.sl (.sl af)) e0.2) ?_ (fun e0 h_e0=>?_)
  ·refine okW (fun(k:Nat) (v0:Int×Int×LLV)=>1<=v0.1/\v0.1<=mi-a/\1<=v0.2.1/\v0.2.1<=b-mi/\v0.2.2.length=data.length/\Sm (.sl (.sl af)) v0.2.2/\v0.1+v0.2.1<=(k:Int)) (fun k v0 hI=>?_) ((b-a).toNat:Nat) _ ⟨au,au,au,au,au,au,au⟩
   obtain⟨i_0,i_1,i_2,i_3,i_4,i_5,i_6⟩:=hI
   unfold F.kQ
   refine GC (fun c_0=>?_) (fun c_0=>?_)
   ·refine okD (fun c_1=>?_) (fun c_1=>?_)
    ·refine okG ?_
     refine okG ?_
     refine okG ?_
     refine okG ?_
     refine okG ?_
     refine okG ?_
     refine okG ?_
     refine oD fun r1 _ _=>?_
     refine okG ?_
     exact cn ⟨k-1,by omega,au,au,au,au,au,au,au⟩
    ·refine okG ?_
     refine okG ?_
     refine okG ?_
     refine okG ?_
     refine okG ?_
     refine okG ?_
     refine okG ?_
     refine oD fun r2 _ _=>?_
     refine okG ?_
     exact cn ⟨k-1,by omega,au,au,au,au,au,au,au⟩
   ·exact cL ⟨au,au,au,au,au⟩
  ·obtain⟨e0_0,e0_1,e0_2,e0_3,e0_4⟩:=h_e0
   refine okG ?_
   refine okG ?_
   refine okG ?_
   refine okG ?_
   refine okG ?_
   refine okG ?_
   refine okG ?_
   refine oD fun r3 _ _=>?_
   refine okG ?_
   exact dG
theorem F.Bn (data:LLV) (a:Int) (mi:Int) (b:Int) (h_data:Sm (Ty.sl (Ty.sl af)) data) (p0:0<=a) (p1:a<mi) (p2:mi<b) (p3:b<=(data.length:Int)):F.dr data a mi b=some (M.dr data a mi b):=dD (F.tB data a mi b h_data p0 p1 p2 p3)
theorem M.yw (data:LLV) (a:Int) (mi:Int) (b:Int) (h_data:Sm (Ty.sl (Ty.sl af)) data) (p0:0<=a) (p1:a<mi) (p2:mi<b) (p3:b<=(data.length:Int)):(M.dr data a mi b).length=data.length/\Sm (.sl (.sl af)) (M.dr data a mi b):=dF (F.tB data a mi b h_data p0 p1 p2 p3)
theorem rH {α:Type} {K:α->Prop} {f:LLV->Option α} {data:LLV} {a:Int} {mi:Int} {b:Int} (k:∀r,(r.length=data.length)->(Sm (.sl (.sl af)) r)->ok (f r) K) (h_data:Sm (Ty.sl (Ty.sl af)) data:=by exact au) (p0:0<=a:=by exact au) (p1:a<mi:=by exact au) (p2:mi<b:=by exact au) (p3:b<=(data.length:Int):=by exact au):ok (aG (M.dr data a mi b) f) K:=by
 have h:=M.yw data a mi b h_data p0 p1 p2 p3
 obtain⟨h0,h1⟩:=h
 exact k _ h0 h1
theorem aS {α:Type} {K:α->Prop} {f:LLV->Option α} {n_:Nat} (ih:∀(data:LLV),∀(a:Int),∀(mi:Int),∀(b:Int),(Sm (Ty.sl (Ty.sl af)) data)->(0<=a)->(a<mi)->(mi<b)->(b<=(data.length:Int))->((b-a).toNat<=2 ^ n_)->(M.aX n_ data a mi b).length=data.length/\Sm (.sl (.sl af)) (M.aX n_ data a mi b)) {data:LLV} {a:Int} {mi:Int} {b:Int} (k:∀r,(r.length=data.length)->(Sm (.sl (.sl af)) r)->ok (f r) K) (h_data:Sm (Ty.sl (Ty.sl af)) data:=by exact au) (p0:0<=a:=by exact au) (p1:a<mi:=by exact au) (p2:mi<b:=by exact au) (p3:b<=(data.length:Int):=by exact au) (p4:(b-a).toNat<=2 ^ n_:=by exact au):ok (aG (M.aX n_ data a mi b) f) K:=by
 have h:=ih data a mi b h_data p0 p1 p2 p3 p4
 obtain⟨h0,h1⟩:=h
 exact k _ h0 h1
theorem F.xY (n_:Nat) (ih:∀(data:LLV),∀(a:Int),∀(mi:Int),∀(b:Int),(Sm (Ty.sl (Ty.sl af)) data)->(0<=a)->(a<mi)->(mi<b)->(b<=(data.length:Int))->((b-a).toNat<=2 ^ n_)->(M.aX n_ data a mi b).length=data.length/\Sm (.sl (.sl af)) (M.aX n_ data a mi b)) (data:LLV) (a:Int) (mi:Int) (b:Int) (h_data:Sm (Ty.sl (Ty.sl af)) data) (p0:0<=a) (p1:a<mi) (p2:mi<b) (p3:b<=(data.length:Int)) (p4:(b-a).toNat<=2 ^ (n_+1)):ok (F.aX n_ data a mi b) (fun r=>r.length=data.length/\Sm (.sl (.sl af)) r):=by
  unfold F.aX
  unfold F.vU
  have hl:=h_data.1
  obtain⟨m_a,m_b⟩:=M.zC (a:=a) (b:=b) (by omega) (by omega) (by omega) (by omega)
  have w_a:wrap64 (mi-a)=mi-a:=aF (by omega) (by omega)
  have w_b:wrap64 (b-mi)=b-mi:=aF (by omega) (by omega)
  have w_n:wrap64 (M.mid a b+mi)=M.mid a b+mi:=aF (by omega) (by omega)
  have w_p:wrap64 (wrap64 (M.mid a b+mi)-(1:Int))=M.mid a b+mi-1:=by rw[w_n];exact aF (by omega) (by omega)
  have w_q:wrap64 (wrap64 (M.mid a b+mi)-b)=M.mid a b+mi-b:=by rw[w_n];exact aF (by omega) (by omega)
  have p5:(b-a).toNat<=2 * 2 ^ n_:=by rw[Nat.pow_succ] at p4;omega
  refine okD (fun c_7=>?_) (fun c_7=>?_)
  ·refine okB (A:=fun e0=>mi<=e0/\e0<=b) ?_ (fun e0 h_e0=>?_)
   ·refine okW (fun(k:Nat) (v0:Int×Int)=>mi<=v0.1/\v0.1<=v0.2/\v0.2<=b/\v0.2-v0.1<=(k:Int)) (fun k v0 hI=>?_) ((b-mi).toNat:Nat) _ ⟨au,au,au,au⟩
    obtain⟨i_0,i_1,i_2,i_3⟩:=hI
    obtain⟨n_a,n_b⟩:=M.zC (a:=v0.1) (b:=v0.2) (by omega) (by omega) (by omega) (by omega)
    have w_s:wrap64 (M.mid v0.1 v0.2+(1:Int))=M.mid v0.1 v0.2+1:=aF (by omega) (by omega)
    unfold F.nO
    refine okD (fun c_0=>?_) (fun c_0=>?_)
    ·refine okG ?_
     refine okG ?_
     refine okG ?_
     refine okG ?_
     refine okD (fun c_1=>?_) (fun c_1=>?_)
     ·exact cn ⟨k-1,by omega,au,au,au,au⟩
     ·exact cn ⟨k-1,by omega,au,au,au,au⟩
    ·exact cL ⟨au,au⟩
   ·obtain⟨e0_0,e0_1⟩:=h_e0
    refine okG ?_ (by unfold eS;(try unfold wrap64);omega)
    refine okT (A:=fun v2=>v2.length=data.length/\Sm (.sl (.sl af)) v2) (B:=fun _=>False) ?_ (fun v2 h_v2=>?_) (fun _ h=>h.elim)
    ·refine CY (fun(k:Nat) (v2:LLV)=>v2.length=data.length/\Sm (.sl (.sl af)) v2) ⟨au,au⟩ (fun i2 hz k v2 hk hI=>?_)
     obtain⟨i_0,i_1⟩:=hI
     obtain⟨z_a,z_b⟩:=fo.1 hz
     have w_z:wrap64 (e0-(1:Int))=e0-1:=aF (by omega) (by omega)
     have w_y:wrap64 (i2+(1:Int))=i2+1:=aF (by omega) (by omega)
     unfold F.og
     refine okG ?_
     refine okG ?_
     refine okG ?_
     refine okL fun y1 ey1=>?_
     subst ey1
     exact cn ⟨au,au⟩
    ·obtain⟨v2_0,v2_1⟩:=h_v2
     exact dG
  ·refine okD (fun c_8=>?_) (fun c_8=>?_)
   ·refine okB (A:=fun e4=>a<=e4/\e4<=mi) ?_ (fun e4 h_e4=>?_)
    ·refine okW (fun(k:Nat) (v4:Int×Int)=>a<=v4.1/\v4.1<=v4.2/\v4.2<=mi/\v4.2-v4.1<=(k:Int)) (fun k v4 hI=>?_) ((mi-a).toNat:Nat) _ ⟨au,au,au,au⟩
     obtain⟨i_0,i_1,i_2,i_3⟩:=hI
     obtain⟨n_a,n_b⟩:=M.zC (a:=v4.1) (b:=v4.2) (by omega) (by omega) (by omega) (by omega)
     have w_s:wrap64 (M.mid v4.1 v4.2+(1:Int))=M.mid v4.1 v4.2+1:=aF (by omega) (by omega)
     unfold F.om
     refine okD (fun c_2=>?_) (fun c_2=>?_)
     ·refine okG ?_
      refine okG ?_
      refine okG ?_
      refine okG ?_
      refine GC (fun c_3=>?_) (fun c_3=>?_)
      ·exact cn ⟨k-1,by omega,au,au,au,au⟩
      ·exact cn ⟨k-1,by omega,au,au,au,au⟩
     ·exact cL ⟨au,au⟩
    ·obtain⟨e4_0,e4_1⟩:=h_e4
     refine okB (A:=fun e6=>e6.length=data.length/\Sm (.sl (.sl af)) e6) ?_ (fun e6 h_e6=>?_)
     ·refine okW (fun(k:Nat) (v6:Int×LLV)=>e4<=v6.1/\v6.1<=mi/\v6.2.length=data.length/\Sm (.sl (.sl af)) v6.2/\v6.1-e4<=(k:Int)) (fun k v6 hI=>?_) ((mi-e4).toNat:Nat) _ ⟨au,au,au,au,au⟩
      obtain⟨i_0,i_1,i_2,i_3,i_4⟩:=hI
      unfold F.oo
      refine okD (fun c_4=>?_) (fun c_4=>?_)
      ·refine okG ?_
       refine okG ?_
       refine okG ?_
       refine okG ?_
       refine okL fun y2 ey2=>?_
       subst ey2
       exact cn ⟨k-1,by omega,au,au,au,au,au⟩
      ·exact cL ⟨au,au⟩
     ·obtain⟨e6_0,e6_1⟩:=h_e6
      exact dG
   ·refine okD (fun c_9=>?_) (fun c_9=>?_)
    ·refine okB (A:=fun e8=>a<=e8/\M.mid a b+mi-b<=e8/\e8<=M.mid a b/\e8<=mi) ?_ (fun e8 h_e8=>?_)
     ·refine okW (fun(k:Nat) (v8:Int×Int)=>a<=v8.1/\M.mid a b+mi-b<=v8.1/\v8.1<=v8.2/\v8.2<=M.mid a b/\v8.2<=mi/\v8.2-v8.1<=(k:Int)) (fun k v8 hI=>?_) ((b-a).toNat:Nat) _ ⟨au,au,au,au,au,au⟩
      obtain⟨i_0,i_1,i_2,i_3,i_4,i_5⟩:=hI
      obtain⟨n_a,n_b⟩:=M.zC (a:=v8.1) (b:=v8.2) (by omega) (by omega) (by omega) (by omega)
      have w_s:wrap64 (M.mid v8.1 v8.2+(1:Int))=M.mid v8.1 v8.2+1:=aF (by omega) (by omega)
      have w_t:wrap64 (wrap64 (wrap64 (M.mid a b+mi)-(1:Int))-M.mid v8.1 v8.2)=M.mid a b+mi-1-M.mid v8.1 v8.2:=by rw[w_p];exact aF (by omega) (by omega)
      unfold F.iw
      refine okD (fun c_5=>?_) (fun c_5=>?_)
      ·refine okG ?_
       refine okG ?_
       refine okG ?_
       refine okG ?_
       refine GC (fun c_6=>?_) (fun c_6=>?_)
       ·exact cn ⟨k-1,by omega,au,au,au,au,au,au⟩
       ·exact cn ⟨k-1,by omega,au,au,au,au,au,au⟩
      ·exact cL ⟨au,au,au,au⟩
     ·obtain⟨e8_0,e8_1,e8_2,e8_3⟩:=h_e8
      refine iG (fun c_10=>?_) (fun c_10=>?_)
      ·have w_e:wrap64 (wrap64 (M.mid a b+mi)-e8)=M.mid a b+mi-e8:=by rw[w_n];exact aF (by omega) (by omega)
       refine okD (fun c_11=>?_) (fun c_11=>?_)
       ·refine okG ?_
        refine okG ?_
        refine okG ?_
        refine okG ?_
        refine rH fun r1 h_40_5_0 h_40_5_1=>?_
        refine okG ?_
        refine iG (fun c_12=>?_) (fun c_12=>?_)
        ·refine okD (fun c_13=>?_) (fun c_13=>?_)
         ·refine okG ?_
          refine okG ?_
          refine okG ?_
          refine okG ?_
          refine okG ?_
          refine okG ?_
          refine aS ih fun r2 h_42_5_0 h_42_5_1=>?_
          refine okG ?_
          refine iG (fun c_14=>?_) (fun c_14=>?_)
          ·refine okD (fun c_15=>?_) (fun c_15=>?_)
           ·refine okG ?_
            refine okG ?_
            refine okG ?_
            refine okG ?_
            refine okG ?_
            refine okG ?_
            refine okG ?_
            refine aS ih fun r3 h_44_5_0 h_44_5_1=>?_
            refine okG ?_
            exact dG
           ·exact dG
          ·exact dG
         ·refine iG (fun c_16=>?_) (fun c_16=>?_)
          ·refine okD (fun c_17=>?_) (fun c_17=>?_)
           ·refine okG ?_
            refine okG ?_
            refine okG ?_
            refine okG ?_
            refine okG ?_
            refine okG ?_
            refine okG ?_
            refine aS ih fun r3 h_44_5_0 h_44_5_1=>?_
            refine okG ?_
            exact dG
           ·exact dG
          ·exact dG
        ·refine iG (fun c_18=>?_) (fun c_18=>?_)
         ·refine okD (fun c_19=>?_) (fun c_19=>?_)
          ·refine okG ?_
           refine okG ?_
           refine okG ?_
           refine okG ?_
           refine okG ?_
           refine okG ?_
           refine okG ?_
           refine aS ih fun r3 h_44_5_0 h_44_5_1=>?_
           refine okG ?_
           exact dG
          ·exact dG
         ·exact dG
       ·refine iG (fun c_20=>?_) (fun c_20=>?_)
        ·refine okD (fun c_21=>?_) (fun c_21=>?_)
         ·refine okG ?_
          refine okG ?_
          refine okG ?_
          refine okG ?_
          refine aS ih fun r2 h_42_5_0 h_42_5_1=>?_
          refine okG ?_
          refine iG (fun c_22=>?_) (fun c_22=>?_)
          ·refine okD (fun c_23=>?_) (fun c_23=>?_)
           ·refine okG ?_
            refine okG ?_
            refine okG ?_
            refine okG ?_
            refine okG ?_
            refine okG ?_
            refine okG ?_
            refine aS ih fun r3 h_44_5_0 h_44_5_1=>?_
            refine okG ?_
            exact dG
           ·exact dG
          ·exact dG
         ·refine iG (fun c_24=>?_) (fun c_24=>?_)
          ·refine okD (fun c_25=>?_) (fun c_25=>?_)
           ·refine okG ?_
            refine okG ?_
            refine okG ?_
            refine okG ?_
            refine aS ih fun r3 h_44_5_0 h_44_5_1=>?_
            refine okG ?_
            exact dG
           ·exact dG
          ·exact dG
        ·refine iG (fun c_26=>?_) (fun c_26=>?_)
         ·refine okD (fun c_27=>?_) (fun c_27=>?_)
          ·refine okG ?_
           refine okG ?_
           refine okG ?_
           refine okG ?_
           refine aS ih fun r3 h_44_5_0 h_44_5_1=>?_
           refine okG ?_
           exact dG
          ·exact dG
         ·exact dG
      ·have w_e:wrap64 (wrap64 (M.mid a b+mi)-e8)=M.mid a b+mi-e8:=by rw[w_n];exact aF (by omega) (by omega)
       refine iG (fun c_28=>?_) (fun c_28=>?_)
       ·refine okD (fun c_29=>?_) (fun c_29=>?_)
        ·refine okG ?_
         refine okG ?_
         refine okG ?_
         refine okG ?_
         refine aS ih fun r2 h_42_5_0 h_42_5_1=>?_
         refine okG ?_
         refine iG (fun c_30=>?_) (fun c_30=>?_)
         ·refine okD (fun c_31=>?_) (fun c_31=>?_)
          ·refine okG ?_
           refine okG ?_
           refine okG ?_
           refine okG ?_
           refine okG ?_
           refine okG ?_
           refine okG ?_
           refine aS ih fun r3 h_44_5_0 h_44_5_1=>?_
           refine okG ?_
           exact dG
          ·exact dG
         ·exact dG
        ·refine iG (fun c_32=>?_) (fun c_32=>?_)
         ·refine okD (fun c_33=>?_) (fun c_33=>?_)
          ·refine okG ?_
           refine okG ?_
           refine okG ?_
           refine okG ?_
           refine aS ih fun r3 h_44_5_0 h_44_5_1=>?_
           refine okG ?_
           exact dG
          ·exact dG
         ·exact dG
       ·refine iG (fun c_34=>?_) (fun c_34=>?_)
        ·refine okD (fun c_35=>?_) (fun c_35=>?_)
         ·refine okG ?_
          refine okG ?_
          refine okG ?_
          refine okG ?_
          refine aS ih fun r3 h_44_5_0 h_44_5_1=>?_
          refine okG ?_
          exact dG
         ·exact dG
        ·exact dG
    ·refine okB (A:=fun e8=>a<=e8/\M.mid a b+mi-b<=e8/\e8<=M.mid a b/\e8<=mi) ?_ (fun e8 h_e8=>?_)
     ·refine okW (fun(k:Nat) (v8:Int×Int)=>a<=v8.1/\M.mid a b+mi-b<=v8.1/\v8.1<=v8.2/\v8.2<=M.mid a b/\v8.2<=mi/\v8.2-v8.1<=(k:Int)) (fun k v8 hI=>?_) ((b-a).toNat:Nat) _ ⟨au,au,au,au,au,au⟩
      obtain⟨i_0,i_1,i_2,i_3,i_4,i_5⟩:=hI
      obtain⟨n_a,n_b⟩:=M.zC (a:=v8.1) (b:=v8.2) (by omega) (by omega) (by omega) (by omega)
      have w_s:wrap64 (M.mid v8.1 v8.2+(1:Int))=M.mid v8.1 v8.2+1:=aF (by omega) (by omega)
      have w_t:wrap64 (wrap64 (wrap64 (M.mid a b+mi)-(1:Int))-M.mid v8.1 v8.2)=M.mid a b+mi-1-M.mid v8.1 v8.2:=by rw[w_p];exact aF (by omega) (by omega)
      unfold F.iw
      refine okD (fun c_5=>?_) (fun c_5=>?_)
      ·refine okG ?_
       refine okG ?_
       refine okG ?_
       refine okG ?_
       refine GC (fun c_6=>?_) (fun c_6=>?_)
       ·exact cn ⟨k-1,by omega,au,au,au,au,au,au⟩
       ·exact cn ⟨k-1,by omega,au,au,au,au,au,au⟩
      ·exact cL ⟨au,au,au,au⟩
     ·obtain⟨e8_0,e8_1,e8_2,e8_3⟩:=h_e8
      refine iG (fun c_36=>?_) (fun c_36=>?_)
      ·have w_e:wrap64 (wrap64 (M.mid a b+mi)-e8)=M.mid a b+mi-e8:=by rw[w_n];exact aF (by omega) (by omega)
       refine okD (fun c_37=>?_) (fun c_37=>?_)
       ·refine okG ?_
        refine okG ?_
        refine okG ?_
        refine okG ?_
        refine rH fun r1 h_40_5_0 h_40_5_1=>?_
        refine okG ?_
        refine iG (fun c_38=>?_) (fun c_38=>?_)
        ·refine okD (fun c_39=>?_) (fun c_39=>?_)
         ·refine okG ?_
          refine okG ?_
          refine okG ?_
          refine okG ?_
          refine okG ?_
          refine okG ?_
          refine aS ih fun r2 h_42_5_0 h_42_5_1=>?_
          refine okG ?_
          refine iG (fun c_40=>?_) (fun c_40=>?_)
          ·refine okD (fun c_41=>?_) (fun c_41=>?_)
           ·refine okG ?_
            refine okG ?_
            refine okG ?_
            refine okG ?_
            refine okG ?_
            refine okG ?_
            refine okG ?_
            refine aS ih fun r3 h_44_5_0 h_44_5_1=>?_
            refine okG ?_
            exact dG
           ·exact dG
          ·exact dG
         ·refine iG (fun c_42=>?_) (fun c_42=>?_)
          ·refine okD (fun c_43=>?_) (fun c_43=>?_)
           ·refine okG ?_
            refine okG ?_
            refine okG ?_
            refine okG ?_
            refine okG ?_
            refine okG ?_
            refine okG ?_
            refine aS ih fun r3 h_44_5_0 h_44_5_1=>?_
            refine okG ?_
            exact dG
           ·exact dG
          ·exact dG
        ·refine iG (fun c_44=>?_) (fun c_44=>?_)
         ·refine okD (fun c_45=>?_) (fun c_45=>?_)
          ·refine okG ?_
           refine okG ?_
           refine okG ?_
           refine okG ?_
           refine okG ?_
           refine okG ?_
           refine okG ?_
           refine aS ih fun r3 h_44_5_0 h_44_5_1=>?_
           refine okG ?_
           exact dG
          ·exact dG
         ·exact dG
       ·refine iG (fun c_46=>?_) (fun c_46=>?_)
        ·refine okD (fun c_47=>?_) (fun c_47=>?_)
         ·refine okG ?_
          refine okG ?_
          refine okG ?_
          refine okG ?_
          refine aS ih fun r2 h_42_5_0 h_42_5_1=>?_
          refine okG ?_
          refine iG (fun c_48=>?_) (fun c_48=>?_)
          ·refine okD (fun c_49=>?_) (fun c_49=>?_)
           ·refine okG ?_
            refine okG ?_
            refine okG ?_
            refine okG ?_
            refine okG ?_
            refine okG ?_
            refine okG ?_
            refine aS ih fun r3 h_44_5_0 h_44_5_1=>?_
            refine okG ?_
            exact dG
           ·exact dG
          ·exact dG
         ·refine iG (fun c_50=>?_) (fun c_50=>?_)
          ·refine okD (fun c_51=>?_) (fun c_51=>?_)
           ·refine okG ?_
            refine okG ?_
            refine okG ?_
            refine okG ?_
            refine aS ih fun r3 h_44_5_0 h_44_5_1=>?_
            refine okG ?_
            exact dG
           ·exact dG
          ·exact dG
        ·refine iG (fun c_52=>?_) (fun c_52=>?_)
         ·refine okD (fun c_53=>?_) (fun c_53=>?_)
          ·refine okG ?_
           refine okG ?_
           refine okG ?_
           refine okG ?_
           refine aS ih fun r3 h_44_5_0 h_44_5_1=>?_
           refine okG ?_
           exact dG
          ·exact dG
         ·exact dG
      ·have w_e:wrap64 (wrap64 (M.mid a b+mi)-e8)=M.mid a b+mi-e8:=by rw[w_n];exact aF (by omega) (by omega)
       refine iG (fun c_54=>?_) (fun c_54=>?_)
       ·refine okD (fun c_55=>?_) (fun c_55=>?_)
        ·refine okG ?_
         refine okG ?_
         refine okG ?_
         refine okG ?_
         refine aS ih fun r2 h_42_5_0 h_42_5_1=>?_
         refine okG ?_
         refine iG (fun c_56=>?_) (fun c_56=>?_)
         ·refine okD (fun c_57=>?_) (fun c_57=>?_)
          ·refine okG ?_
           refine okG ?_
           refine okG ?_
           refine okG ?_
           refine okG ?_
           refine okG ?_
           refine okG ?_
           refine aS ih fun r3 h_44_5_0 h_44_5_1=>?_
           refine okG ?_
           exact dG
          ·exact dG
         ·exact dG
        ·refine iG (fun c_58=>?_) (fun c_58=>?_)
         ·refine okD (fun c_59=>?_) (fun c_59=>?_)
          ·refine okG ?_
           refine okG ?_
           refine okG ?_
           refine okG ?_
           refine aS ih fun r3 h_44_5_0 h_44_5_1=>?_
           refine okG ?_
           exact dG
          ·exact dG
         ·exact dG
       ·refine iG (fun c_60=>?_) (fun c_60=>?_)
        ·refine okD (fun c_61=>?_) (fun c_61=>?_)
         ·refine okG ?_
          refine okG ?_
          refine okG ?_
          refine okG ?_
          refine aS ih fun r3 h_44_5_0 h_44_5_1=>?_
          refine okG ?_
          exact dG
         ·exact dG
        ·exact dG
theorem M.oP:∀(n_:Nat),∀(data:LLV),∀(a:Int),∀(mi:Int),∀(b:Int),(Sm (Ty.sl (Ty.sl af)) data)->(0<=a)->(a<mi)->(mi<b)->(b<=(data.length:Int))->((b-a).toNat<=2 ^ n_)->(M.aX n_ data a mi b).length=data.length/\Sm (.sl (.sl af)) (M.aX n_ data a mi b)
 | 0,data,a,mi,b,h_data,p0,p1,p2,p3,p4=>by exfalso;simp at p4;omega
 | n_+1,data,a,mi,b,h_data,p0,p1,p2,p3,p4=>dF (F.xY n_ (M.oP n_) data a mi b h_data p0 p1 p2 p3 p4)
theorem F.DH (n_:Nat) (data:LLV) (a:Int) (mi:Int) (b:Int) (h_data:Sm (Ty.sl (Ty.sl af)) data) (p0:0<=a) (p1:a<mi) (p2:mi<b) (p3:b<=(data.length:Int)) (p4:(b-a).toNat<=2 ^ (n_+1)):F.aX n_ data a mi b=some (M.aX (n_+1) data a mi b):=dD (F.xY n_ (M.oP n_) data a mi b h_data p0 p1 p2 p3 p4)
theorem vC {α:Type} {K:α->Prop} {f:LLV->Option α} {n_:Nat} {data:LLV} {a:Int} {mi:Int} {b:Int} (k:∀r,(r.length=data.length)->(Sm (.sl (.sl af)) r)->ok (f r) K) (h_data:Sm (Ty.sl (Ty.sl af)) data:=by exact au) (p0:0<=a:=by exact au) (p1:a<mi:=by exact au) (p2:mi<b:=by exact au) (p3:b<=(data.length:Int):=by exact au) (p4:(b-a).toNat<=2 ^ n_:=by exact au):ok (aG (M.aX n_ data a mi b) f) K:=by
 have h:=M.oP n_ data a mi b h_data p0 p1 p2 p3 p4
 obtain⟨h0,h1⟩:=h
 exact k _ h0 h1
theorem F.tC (data:LLV) (n:Int) (h_data:Sm (Ty.sl (Ty.sl af)) data) (p0:n=(data.length:Int)):ok (F.eC data n) (fun r=>r.length=data.length/\Sm (.sl (.sl af)) r):=by
  unfold F.eC
  have hl:=h_data.1
  refine okB (A:=fun e0=>0<=e0.1/\e0.1<=n/\e0.2.length=data.length/\Sm (.sl (.sl af)) e0.2) ?_ (fun e0 h_e0=>?_)
  ·refine okW (fun(k:Nat) (v0:Int×Int×LLV)=>0<=v0.1/\v0.1<=n/\v0.2.1=v0.1+20/\v0.2.2.length=data.length/\Sm (.sl (.sl af)) v0.2.2/\n-v0.1<=(k:Int)) (fun k v0 hI=>?_) (data.length:Nat) _ ⟨au,au,au,au,au,au⟩
   obtain⟨i_0,i_1,i_2,i_3,i_4,i_5⟩:=hI
   unfold F.kT
   refine okD (fun c_0=>?_) (fun c_0=>?_)
   ·refine okG ?_
    refine okG ?_
    refine okG ?_
    refine okG ?_
    refine okG ?_
    refine oz fun r1 _ _=>?_
    refine okG ?_
    exact cn ⟨k-1,by omega,au,au,au,au,au,au⟩
   ·exact cL ⟨au,au,au,au⟩
  ·obtain⟨e0_0,e0_1,e0_2,e0_3⟩:=h_e0
   refine okG ?_
   refine okG ?_
   refine okG ?_
   refine okG ?_
   refine okG ?_
   refine oz fun r2 _ _=>?_
   refine okG ?_
   refine okB (A:=fun e2=>e2.length=data.length/\Sm (.sl (.sl af)) e2) ?_ (fun e2 h_e2=>?_)
   ·refine okW (fun(k:Nat) (v2:Int×LLV)=>1<=v2.1/\v2.1<=2097152/\v2.2.length=data.length/\Sm (.sl (.sl af)) v2.2/\n-v2.1<=(k:Int)) (fun k v2 hI=>?_) (data.length:Nat) _ ⟨au,au,au,au,au⟩
    obtain⟨i_0,i_1,i_2,i_3,i_4⟩:=hI
    unfold F.kP
    refine okD (fun c_2=>?_) (fun c_2=>?_)
    ·refine okB (A:=fun e4=>0<=e4.1/\e4.1<=n/\e4.2.length=data.length/\Sm (.sl (.sl af)) e4.2) ?_ (fun e4 h_e4=>?_)
     ·refine okW (fun(k:Nat) (v4:Int×Int×LLV)=>0<=v4.1/\v4.1<=n/\v4.2.1=v4.1+2 * v2.1/\v4.2.2.length=data.length/\Sm (.sl (.sl af)) v4.2.2/\n-v4.1<=(k:Int)) (fun k v4 hI=>?_) (data.length:Nat) _ ⟨au,au,au,au,au,au⟩
      obtain⟨i_0,i_1,i_2,i_3,i_4,i_5⟩:=hI
      unfold F.kV
      refine okD (fun c_1=>?_) (fun c_1=>?_)
      ·refine okG ?_
       refine okG ?_
       refine okG ?_
       refine okG ?_
       refine okG ?_
       refine okG ?_
       refine okG ?_
       refine vC fun r3 _ _=>?_
       refine okG ?_
       exact cn ⟨k-1,by omega,au,au,au,au,au,au⟩
      ·exact cL ⟨au,au,au,au⟩
     ·obtain⟨e4_0,e4_1,e4_2,e4_3⟩:=h_e4
      refine okD (fun c_3=>?_) (fun c_3=>?_)
      ·refine okG ?_
       refine okG ?_
       refine okG ?_
       refine okG ?_
       refine okG ?_
       refine okG ?_
       refine okG ?_
       refine vC fun r4 _ _=>?_
       refine okG ?_
       exact cn ⟨k-1,by omega,au,au,au,au,au⟩
      ·exact cn ⟨k-1,by omega,au,au,au,au,au⟩
    ·exact cL ⟨au,au⟩
   ·obtain⟨e2_0,e2_1⟩:=h_e2
    exact dG
theorem F.AP (data:LLV) (n:Int) (h_data:Sm (Ty.sl (Ty.sl af)) data) (p0:n=(data.length:Int)):F.eC data n=some (M.eC data n):=dD (F.tC data n h_data p0)
theorem M.yx (data:LLV) (n:Int) (h_data:Sm (Ty.sl (Ty.sl af)) data) (p0:n=(data.length:Int)):(M.eC data n).length=data.length/\Sm (.sl (.sl af)) (M.eC data n):=dF (F.tC data n h_data p0)
theorem zb {α:Type} {K:α->Prop} {f:LLV->Option α} {data:LLV} {n:Int} (k:∀r,(r.length=data.length)->(Sm (.sl (.sl af)) r)->ok (f r) K) (h_data:Sm (Ty.sl (Ty.sl af)) data:=by exact au) (p0:n=(data.length:Int):=by exact au):ok (aG (M.eC data n) f) K:=by
 have h:=M.yx data n h_data p0
 obtain⟨h0,h1⟩:=h
 exact k _ h0 h1
theorem F.tr (data:LLV) (h_data:Sm (Ty.sl (Ty.sl af)) data):ok (F.ez data) (fun r=>r.length=data.length/\Sm (.sl (.sl af)) r):=by
 unfold F.ez
 refine okG ?_
 refine zb fun r1 _ _=>?_
 refine okG ?_
 exact dG
theorem F.Bh (data:LLV) (h_data:Sm (Ty.sl (Ty.sl af)) data):F.ez data=some (M.ez data):=dD (F.tr data h_data)
theorem M.yf (data:LLV) (h_data:Sm (Ty.sl (Ty.sl af)) data):(M.ez data).length=data.length/\Sm (.sl (.sl af)) (M.ez data):=dF (F.tr data h_data)
theorem zz {α:Type} {K:α->Prop} {f:LLV->Option α} {data:LLV} (k:∀r,(r.length=data.length)->(Sm (.sl (.sl af)) r)->ok (f r) K) (h_data:Sm (Ty.sl (Ty.sl af)) data:=by exact au):ok (aG (M.ez data) f) K:=by
 have h:=M.yf data h_data
 obtain⟨h0,h1⟩:=h
 exact k _ h0 h1
theorem F.yZ (a:LLV) (b:LLV) (h_a:Sm (Ty.sl (Ty.sl af)) a) (h_b:Sm (Ty.sl (Ty.sl af)) b) (p0:a.length<=300) (p1:b.length<=300):ok (F.gp a b) (fun r=>r.length<=600/\(∀d∈r,Sm (.sl af) d.1)/\(a=b->r=[])):=by
  unfold F.gp
  refine okG ?_ (⟨by simp,fun x hx=>by simp at hx;rcases hx with rfl | rfl;exact h_a;exact h_b⟩)
  refine okL fun r1 er1=>?_
  have q_a:r1.length=a.length+b.length:=by rw[er1];simp
  have q_b:Sm (.sl (.sl af)) r1:=⟨by omega,fun x hx=>by rw[er1] at hx;simp at hx;exact hx.elim (h_a.2 x) (h_b.2 x)⟩
  refine okG ?_
  refine okL fun r2 er2=>?_
  have q_c:Sm (.sl (.sl af)) r2:=by rw[er2];exact⟨Nat.le_trans (M.vo _).1 q_b.1,fun x hx=>q_b.2 x ((M.vo _).2 x hx)⟩
  have q_d:r2.length<=600:=by rw[er2];exact Nat.le_trans (M.vo r1).1 (by omega)
  have hR:(aT (0:Int) (r2.length:Int)).length=r2.length:=by simp[aT]
  refine okG ?_
  refine zz fun r3 _ h_3_1_1=>?_
  refine okG ?_
  refine okG ?_ (by unfold eS;(try unfold wrap64);omega)
  refine okT (A:=fun v0=>v0.length<=(aT (0:Int) (r2.length:Int)).length/\(∀d∈v0,Sm (.sl af) d.1)/\(a=b->v0=[])) (B:=fun _=>False) ?_ (fun v0 h_v0=>?_) (fun _ h=>h.elim)
  ·refine CY (fun(k:Nat) (v0:(List cO.D))=>v0.length<=k/\(∀d∈v0,Sm (.sl af) d.1)/\(a=b->v0=[])) ⟨au,au,au⟩ (fun i0 hz k v0 hk hI=>?_)
   obtain⟨i_0,i_1,i_2⟩:=hI
   obtain⟨z_a,z_b⟩:=fo.1 hz
   have q_s:Sm (.sl af) (nth (t:=.sl af) r3 i0):=aO (t:=.sl af) h_3_1_1 i0
   rw[hR] at hk
   unfold F.qb
   refine okG ?_
   refine okG ?_
   refine GC (fun c_0=>?_) (fun c_0=>?_)
   ·refine okG ?_
    exact cn ⟨au,by first | assumption | exact CO i_1 (all_cons q_s all_nil),by first | exact i_2 | exact fun q=>absurd (by rw[q,Int.sub_self];rfl) c_0⟩
   ·exact cn ⟨au,by first | assumption | exact CO i_1 (all_cons q_s all_nil),by first | exact i_2 | exact fun q=>absurd (by rw[q,Int.sub_self];rfl) c_0⟩
  ·obtain⟨v0_0,v0_1,v0_2⟩:=h_v0
   refine okS ?_
   rw[M.iS]
   exact⟨by omega,v0_1,v0_2⟩
theorem F.Ft (a:LLV) (b:LLV) (h_a:Sm (Ty.sl (Ty.sl af)) a) (h_b:Sm (Ty.sl (Ty.sl af)) b) (p0:a.length<=300) (p1:b.length<=300):F.gp a b=some (M.gp a b):=dD (F.yZ a b h_a h_b p0 p1)
theorem M.uy (a:LLV) (b:LLV) (h_a:Sm (Ty.sl (Ty.sl af)) a) (h_b:Sm (Ty.sl (Ty.sl af)) b) (p0:a.length<=300) (p1:b.length<=300):(M.gp a b).length<=600/\(∀d∈(M.gp a b),Sm (.sl af) d.1)/\(a=b->(M.gp a b)=[]):=dF (F.yZ a b h_a h_b p0 p1)
theorem Km {α:Type} {K:α->Prop} {f:(List cO.D)->Option α} {a:LLV} {b:LLV} (k:∀r,(r.length<=600)->(∀d∈r,Sm (.sl af) d.1)->(a=b->r=[])->ok (f r) K) (h_a:Sm (Ty.sl (Ty.sl af)) a:=by exact au) (h_b:Sm (Ty.sl (Ty.sl af)) b:=by exact au) (p0:a.length<=300:=by exact au) (p1:b.length<=300:=by exact au):ok (aG (M.gp a b) f) K:=by
 have h:=M.uy a b h_a h_b p0 p1
 obtain⟨h0,h1,h2⟩:=h
 exact k _ h0 h1 h2
theorem F.Bi (row:LV) (list:(List Int)) (h_row:Sm (Ty.sl af) row) (h_list:Sm (Ty.sl (Ty.int .i64)) list) (p0:M.BJ row list):F.tJ row list=some (M.taken row list):=by
 unfold F.tJ
 rw[uN (fun i=>@nth af row i) (fun x hx s hs=>by
  have hl:=h_list.1
  obtain⟨h0,h1⟩:=p0 x hx
  simp only[F.kW]
  rw[aq h0,aq h1,aq (by unfold lim;simp;omega)])]
 show aa (Sm (.sl af) (M.taken row list)) (aG (M.taken row list) fun r:List af.D=>some (aj r (some ((0:Int),(r.length:Int)))))=_
 rw[aq (M.IU h_row h_list)]
 simp only[bX,M.iS]
theorem F.Ag (n:Int) (p0:0<=n) (p1:n<=1099511627776):F.rD n=some ([]:List af.D):=by
 unfold F.rD
 have e:wrap64 (n-wrap64 ((0:Int)-(0:Int)))=n:=by
  rw[show wrap64 ((0:Int)-(0:Int))=0 by decide,Int.sub_zero]
  exact aF (by omega) (by omega)
 rw[decide_eq_false (by omega),e]
 by_cases h:0<n
 ·rw[decide_eq_true h]
  simp only[cond_true,cond_false]
  rw[aq p0,aq (by unfold lim;omega)]
  rfl
 ·rw[decide_eq_false h]
  rfl
theorem F.wL (xss:LLV) (h_xss:Sm (Ty.sl (Ty.sl af)) xss):F.pn xss=some (List.flatten xss):=by
 unfold F.pn
 exact M.tQ (t:=af) h_xss (fun z v h0 h1=>by
  unfold F.iV
  rw[aF (n:=v+(z.length:Int)) (by omega) (by omega),decide_eq_false (by omega)]
  rfl) (fun z v h1=>by
  unfold F.iJ
  rw[aq (by unfold lim;omega)])
theorem F.Av (a:LV) (b:LV) (h_a:Sm (Ty.sl af) a) (h_b:Sm (Ty.sl af) b) (p0:a.length+b.length<=1048576):F.rO a b=some (a++b):=by
 unfold F.rO
 have h1:=h_a.1
 have h2:=h_b.1
 have hs:Sm (.sl af) (a++b):=⟨by rw[List.length_append];omega,fun x hx=>by
  rcases List.mem_append.1 hx with h | h
  ·exact h_a.2 x h
  ·exact h_b.2 x h⟩
 rw[aq (show Sm (.sl (.sl af)) [a,b] from⟨by simp,fun x hx=>by
  rcases List.mem_cons.1 hx with rfl | hx
  ·exact h_a
  ·cases List.mem_singleton.1 hx
   exact h_b⟩),bX,List.flatten_cons,List.flatten_cons,List.flatten_nil,List.append_nil,aq hs,bX,M.je]
theorem F.vI (s:ah.D) (LK:LTb) (LN:(List LLV)) (h_s:Sm ah s) (LO:Sm (Ty.sl ai) LK) (h_ahead:Sm (Ty.sl (Ty.sl (Ty.sl af))) LN) (p0:M.sI LK LN s):F.ng s LK LN=some (M.cu LK LN s):=by
 obtain⟨r1,rin,rfew,r2,r3,r4⟩:=p0
 unfold F.ng M.cu
 by_cases h1:s.1=(1:Int)
 ·obtain⟨n0,n1⟩:=r1 h1
  have hsm:=(aO LO s.2.2.2.1).2.1
  have hl:=hsm.1
  simp only[h1,decide_true,cond_true]
  rw[aq n0,aq n1]
 obtain⟨⟨a0,a1⟩,⟨b0,b1⟩⟩:=rin h1
 obtain⟨fa,fb⟩:=rfew h1
 have ha:=fa.1
 have hb:=fb.1
 have sa:Sm (.sl (.sl af)) (nth (t:=.sl (.sl af)) LN s.2.1):=aO h_ahead _
 have sb:Sm (.sl (.sl af)) (nth (t:=.sl (.sl af)) LN s.2.2.1):=aO h_ahead _
 by_cases h2:s.1=(2:Int)
 ·simp only[h2,decide_true,cond_true,Int.reduceEq,decide_false,cond_false]
  rw[aq a0,aq a1,vV (fun x:List af.D=>cond (M.holds x s.2.2.2.2.1) [x] []) (nth (t:=.sl (.sl af)) LN s.2.1) 1 (fun x _=>by cases M.holds x s.2.2.2.2.1<;>simp) [] (fun x hx v hv=>by
   unfold F.gZ
   rw[aq (r2 h2 _ hx)]
   cases M.holds x s.2.2.2.2.1
   ·rw[cond_false,cond_false,List.append_nil]
   ·rw[cond_true,cond_true,aq (by simp at hv;unfold lim;simp;omega)]),xq]
  rfl
 by_cases h3:s.1=(3:Int)
 ·simp only[h3,decide_true,cond_true,Int.reduceEq,decide_false,cond_false]
  rw[aq a0,aq a1,vV (fun x:List af.D=>[M.taken x s.2.2.2.2.2.1]) (nth (t:=.sl (.sl af)) LN s.2.1) 1 (fun x _=>Nat.le_refl _) [] (fun x hx v hv=>by
   unfold F.gR
   rw[aq (r3 h3 _ hx),bX,aq (by simp at hv;unfold lim;simp;omega)]),Ea]
  rfl
 by_cases h4:s.1=(4:Int)
 ·simp only[h4,decide_true,cond_true,Int.reduceEq,decide_false,cond_false]
  rw[aq a0,aq a1,FI (t:=.sl af) (fun r=>M.joined s.2.2.2.2.1 r (nth (t:=.sl (.sl af)) LN s.2.2.1)) (nth (t:=.sl (.sl af)) LN s.2.1) ((nth (t:=.sl (.sl af)) LN s.2.2.1):List (List af.D)).length (fun r _=>M.Aj _ _ _) [] (fun i v i0 i1 hv=>by
   have hv9:v.length<=300 * 300:=Nat.le_trans (by simpa using hv) (Nat.mul_le_mul ha hb)
   have hrm:=hU (t:=.sl af) i0 i1
   unfold F.hD
   rw[aq b0,aq b1,vV (fun q:List af.D=>cond (M.holds (nth (t:=.sl af) (nth (t:=.sl (.sl af)) LN s.2.1) i++q:List af.D) s.2.2.2.2.1) [(nth (t:=.sl af) (nth (t:=.sl (.sl af)) LN s.2.1) i++q:List af.D)] []) (nth (t:=.sl (.sl af)) LN s.2.2.1) 1 (fun q _=>by cases M.holds (nth (t:=.sl af) (nth (t:=.sl (.sl af)) LN s.2.1) i++q:List af.D) s.2.2.2.2.1<;>simp) v (fun q hqm w hw=>by
    have l1:=fa.2 _ hrm
    have l2:=fb.2 _ hqm
    unfold F.gU
    rw[aq (show (nth (t:=.sl af) (nth (t:=.sl (.sl af)) LN s.2.1) i:List af.D).length+q.length<=1048576 by omega),bX]
    simp only[M.iS]
    rw[aq (show Sm (.sl af) (nth (t:=.sl af) (nth (t:=.sl (.sl af)) LN s.2.1) i++q) from⟨by rw[List.length_append];omega,fun x hx=>(List.mem_append.1 hx).elim ((sa.2 _ hrm).2 x) ((sb.2 _ hqm).2 x)⟩),aq (r4 h4 _ hrm _ hqm)]
    cases M.holds (nth (t:=.sl af) (nth (t:=.sl (.sl af)) LN s.2.1) i++q:List af.D) s.2.2.2.2.1
    ·rw[cond_false,cond_false,List.append_nil]
    ·rw[cond_true,cond_true,aq (by simp at hw;unfold lim;simp;omega)]),xT]
   rfl)]
  rfl
 by_cases h5:s.1=(5:Int)
 ·simp only[h5,decide_true,cond_true,Int.reduceEq,decide_false,cond_false]
  rw[aq a0,aq a1,aq b0,aq b1,aq (show Sm (.sl (.sl (.sl af))) [(nth (t:=.sl (.sl af)) LN s.2.1),(nth (t:=.sl (.sl af)) LN s.2.2.1)] from⟨by simp,fun x hx=>by
   rcases List.mem_cons.1 hx with rfl | hx
   ·exact sa
   ·cases List.mem_singleton.1 hx
    exact sb⟩)]
  simp only[bX,List.flatten_cons,List.flatten_nil,List.append_nil,M.iS,M.je]
 by_cases h6:s.1=(6:Int)
 ·simp only[h6,decide_true,cond_true,Int.reduceEq,decide_false,cond_false]
  rw[aq a0,aq a1]
  simp only[bX,M.iS,M.je]
 simp only[h1,h2,h3,h4,h5,h6,decide_false,cond_false]
theorem F.xb (LK:LTb) (plan:LS) (LO:Sm (Ty.sl ai) LK) (LQ:Sm (Ty.sl ah) plan) (p0:M.bU LK plan=true):F.oZ LK plan=some (M.dZ LK plan):=by
 unfold F.oZ M.dZ
 rw[p0,cond_true]
 have hl:=LQ.1
 have hpos:=(M.ot p0).1
 obtain⟨h1,h2⟩:=GH (f:=F.fW LK plan) LO LQ p0 (fun z v h1 h2 h3=>by
  unfold F.fW M.fD
  rw[aq h1,aq h2,bX,aq (by unfold lim;simp;omega)])
 obtain⟨st,_,hR⟩:=Ay LO LQ p0
 have hsm:=Ch hR (by show (plan.foldl (M.fD LK) []).length<=1048576;rw[h2];exact hl)
 rw[h1,bE,h2,gI _ hl,aq (by omega),aq (by omega),show plan.foldl (M.fD LK) []=M.cQ LK plan from rfl,aq (aO hsm _),bX,M.je]
theorem F.vE (LK:LTb) (plan:LS) (c:aK.D) (LO:Sm (Ty.sl ai) LK) (LQ:Sm (Ty.sl ah) plan) (h_c:Sm aK c):F.nu LK plan c=some (M.iN LK plan c):=by
 unfold F.nu M.iN
 cases h1:M.bU LK plan with
 | false=>rfl
 | true=>
 cases h2:M.cJ LK c with
 | false=>rfl
 | true=>
  have sA:=M.Du LO h_c h2
  have h3:M.bU (M.bP LK c) plan=true:=by rw[M.FT (M.tW h2)];exact h1
  have s1:=nL LO LQ
  have s2:=nL sA LQ
  simp only[bX,M.iS,Bool.not_true,cond_false,cond_true,show ((false:Bool)==false)=true from rfl,Bool.and_self]
  rw[M.Dx,aq sA,aq h3]
  repeat rw[aq (by first | exact s1 | exact s2 | exact M.mE LO LQ | exact M.mE sA LQ)]
theorem F.nF (code:(List Int)) (h_code:Ln (Ty.sl (Ty.int .u8)) code) (p0:M.ay code):F.gm code=some true:=by
 unfold F.gm
 by_cases hc:(1048576:Int)<(code.length:Int)
 ·rw[decide_eq_true hc]
  rfl
 rw[decide_eq_false hc,cond_false]
 have hs:Sm (.sl (.int .u8)) code:=⟨by omega,fun _ _=>trivial⟩
 rw[aq hs,bX]
 obtain⟨d0,d1,d2,d3,d4,d5,d6,d7,d8,d9,d10⟩:=M.pG code hs p0
 generalize M.cz code=r at *
 obtain⟨ts,gs,plan,c⟩:=r
 simp only at d0 d1 d2 d3 d4 d5 d6 d7 d8 d9 d10 ⊢
 have st:Sm (.sl ai) ts:=M.Gd d0 d2 (by decide)
 have sg:Sm (.sl aI) gs:=M.BQ d3 d4 (by decide)
 have sp:Sm (.sl ah) plan:=M.rC d5 d6 (by decide)
 have sc:Sm aK c:=M.Hr ⟨d7,d8⟩
 simp only[bX]
 rw[aq st,aq sg,aq sp]
 have sq:Sm (.sl ah) (M.bB ts gs plan).1:=M.ES sg sp
 cases h:(M.bB ts gs plan).2 with
 | false=>rfl
 | true=>
  have hgl:=sg.1
  simp only[Bool.not_true,cond_false]
  rw[aq (show (gs.length:Int)<=eS by unfold eS;omega),HD (fun z:aI.D=>decide (z.1=c.1)&&!M.ld (@nth ai ts c.1).1 c.2.1 z.2.1) true (fun z hz=>by
   unfold F.dW
   by_cases e:z.1=c.1
   ·rw[decide_eq_true e]
    simp only[cond_true,Bool.true_and,show ((true:Bool)==true)=true from rfl]
    rw[aq d9,aq d10,aq (aO (t:=ai) st c.1).1,aq sc.2.1,aq (sg.2 z hz).2.1]
    cases hh:M.ld (@nth ai ts c.1).1 c.2.1 z.2.1 with
    | true=>rfl
    | false=>
     simp only[Bool.not_false,cond_true,bX,M.iS]
     rw[aq st,aq sq,aq sc]
     have hv:(M.iN ts (M.bB ts gs plan).1 c).2=true->(M.iN ts (M.bB ts gs plan).1 c).1=[]:=by
      unfold M.iN
      cases hb:M.bU ts (M.bB ts gs plan).1&&M.cJ ts c with
      | false=>intro q;cases q
      | true=>
       intro _
       obtain⟨b1,b2⟩:=Bool.and_eq_true_iff.1 hb
       have sA:=M.Du st sc b2
       exact(M.uy _ _ (nL st sq) (nL sA sq) (M.mE st sq) (M.mE sA sq)).2.2 (M.hidden h b2 hz e hh)
     cases hf:(M.iN ts (M.bB ts gs plan).1 c).2 with
     | false=>rfl
     | true=>
      rw[hv hf]
      rfl
   ·rw[decide_eq_false e]
    rfl)]
  cases gs.any (fun z:aI.D=>decide (z.1=c.1)&&!M.ld (@nth ai ts c.1).1 c.2.1 z.2.1)<;>rfl
end Go.AE
