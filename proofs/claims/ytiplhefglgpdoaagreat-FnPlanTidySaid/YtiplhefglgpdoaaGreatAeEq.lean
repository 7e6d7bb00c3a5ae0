/- What the functions compute is what is said. -/
import Derived.Test.YtiplhefglgpdoaaGreatAeF
import Derived.Test.YtiplhefglgpdoaaGreatAeMR
import Derived.Test.YtiplhefglgpdoaaGreatAeEqI
import Derived.Test.YtiplhefglgpdoaaGreatAeEqR
import Derived.Test.YtiplhefglgpdoaaGreatAeRQ
import Derived.Test.YtiplhefglgpdoaaGreatAeRQ
import Derived.Test.YtiplhefglgpdoaaGreatAeRQ
import Derived.Test.YtiplhefglgpdoaaGreatAeEqI
namespace Go.AE
open Go Go.RowKit
set_option linter.unusedVariables false
set_option linter.unusedSimpArgs false
set_option maxHeartbeats 2000000
theorem F.xw (n:Int) (low:Int) (high:Int)  : F.qb n low high=some (M.inR n low high):=by
 unfold F.qb M.inR
 cases decide (low<=n)<;>rfl
theorem F.xI (s:ByteArray) (h_s:Sm Ty.str s):F.pq s=some (M.lower (bR s)):=by
 unfold F.pq M.lower
 rw[jz (fun n=>M.inR n 97 122) () (fun x hx=>by
  obtain⟨h0,h1⟩:=HH hx
  simp only[F.iO,oS,dn,aI (n:=x) (by omega) (by omega)])]
 cases (bR s).all fun n=>M.inR n 97 122<;>rfl
theorem F.vw (v:af.D) (h_v:Sm af v):F.nO v=some (M.aR v):=by
 unfold F.nO M.aR M.text
 simp only[jT]
 rw[show decide ((v.2.2.1.size:Int)<=6)=decide (v.2.2.1.size<=6) from decide_eq_decide.2 (by omega)]
 simp only[Ty.beq]
 cases h0:decide (v.1=(0:Int))
 ·generalize decide (v.1=(1:Int))=b1
  generalize decide (v.1=(2:Int))=b2
  generalize decide (v.1=(3:Int))=b3
  generalize decide (v.2.1=(0:Int))=c0
  generalize decide (v.2.2.1.size<=6)=c6
  generalize M.inR v.2.1 (-9999) 9999=c1
  generalize M.inR v.2.1 0 1=c3
  generalize decide (v.2.2.1=M.none_)=e0
  cases b1<;>cases b2<;>cases b3<;>cases c0<;>cases c6<;>cases c1<;>cases c3<;>cases e0<;>rfl
 ·simp only[cond_true,Bool.true_and,Bool.and_true]
theorem F.xB (v:af.D) (h_v:Sm af v):F.tJ v=some (M.aR v):=by
 rfl
theorem F.Ad   : F.sG  = some true:=by
 unfold F.sG
 rw[show M.aR ((1:Int),((3:Int),((⟨#[]⟩:ByteArray),())))=true from rfl,show M.aR ((9:Int),((0:Int),((⟨#[]⟩:ByteArray),())))=false from rfl]
 rfl
theorem F.uR (b:(List Int)) (p:Int) (n:Int) (h_b:Sm (Ty.sl (Ty.int .u8)) b) (p0:M.aq b) (p1:0<=p) (p2:p<=1000000000000000):ok (F.oI b p n) (fun r=>0<=r.1/\(1<=n->r.1<n)/\(n<1->r.1=0)/\r.2=p+1):=by
 unfold F.oI
 have hw:wrap64 (p+1)=p+1:=aI (by omega) (by omega)
 have hw2:wrap64 (p+1-1)=p:=by rw[show p+1-1=p by omega];exact aI (by omega) (by omega)
 simp only[hw,hw2]
 refine JG (fun c0=>?_) (fun c0=>?_)
 ·refine okD (fun c1=>?_) (fun c1=>?_)
  ·exact okS ⟨by dsimp only;omega,fun h=>by dsimp only;omega,fun h=>rfl,rfl⟩
  ·have hl:1<=(b.length:Int):=by omega
   refine okD (fun c2=>?_) (fun c2=>?_)
   ·refine okG (okG (okG (okS ?_)))
    have:=M.FX (M.vW p0 p) (n:=n) (by omega)
    exact⟨this.1,fun _=>this.2,fun h=>by omega,rfl⟩
   ·obtain⟨t0,t1⟩:=M.rQ p1 hl
    have h7:wrap64 (wrap64 (p * 7)+3)=p * 7+3:=by rw[aI (n:=p * 7) (by omega) (by omega),aI (by omega) (by omega)]
    obtain⟨t2,t3⟩:=M.rQ (a:=p * 7+3) (by omega) hl
    rw[h7]
    refine okG (okG (okG (okG (okG (okG (okS ?_))))))
    have:=M.Hh (M.vW p0 (p.tmod (b.length:Int))) (M.vW p0 ((p * 7+3).tmod (b.length:Int))) p1 p2 (M.Fm p1 hl) (n:=n) (by omega)
    exact⟨this.1,fun _=>this.2,fun h=>by omega,rfl⟩
 ·exact okS ⟨by dsimp only;omega,fun h=>by omega,fun h=>rfl,rfl⟩
theorem F.BE (b:(List Int)) (p:Int) (n:Int) (h_b:Sm (Ty.sl (Ty.int .u8)) b) (p0:M.aq b) (p1:0<=p) (p2:p<=1000000000000000):F.oI b p n=some (M.pick b p n):=ig (F.uR b p n h_b p0 p1 p2)
theorem M.Gm (b:(List Int)) (p:Int) (n:Int) (h_b:Sm (Ty.sl (Ty.int .u8)) b) (p0:M.aq b) (p1:0<=p) (p2:p<=1000000000000000):0<=(M.pick b p n).1/\(1<=n->(M.pick b p n).1<n)/\(n<1->(M.pick b p n).1=0)/\(M.pick b p n).2=p+1:=iq (F.uR b p n h_b p0 p1 p2)
theorem aA {α:Type} {K:α->Prop} {f:Int×Int->Option α} {b:(List Int)} {p:Int} {n:Int} (k:∀r,(0<=r.1)->(1<=n->r.1<n)->(n<1->r.1=0)->(r.2=p+1)->ok (f r) K) (h_b:Sm (Ty.sl (Ty.int .u8)) b:=by exact au) (p0:M.aq b:=by exact au) (p1:0<=p:=by exact au) (p2:p<=1000000000000000:=by exact au):ok (aJ (M.pick b p n) f) K:=by
 have h:=M.Gm b p n h_b p0 p1 p2
 obtain⟨h0,h1,h2,h3⟩:=h
 exact k _ h0 h1 h2 h3
theorem F.wI (b:(List Int)) (p:Int) (n:Int) (h_b:Sm (Ty.sl (Ty.int .u8)) b) (p0:M.aq b) (p1:0<=p) (p2:p<=999000000000000):ok (F.qL b p n) (fun r=>(n<1->r.1=false)/\p<=r.2/\r.2<=p+1):=by
  unfold F.qL
  refine FO (fun c_0=>?_) (fun c_0=>?_)
  ·refine okG ?_
   refine aA fun r1 h_1_5_0 h_1_5_1 h_1_5_2 h_1_5_3=>?_
   exact rZ
  ·exact rZ
theorem F.Dn (b:(List Int)) (p:Int) (n:Int) (h_b:Sm (Ty.sl (Ty.int .u8)) b) (p0:M.aq b) (p1:0<=p) (p2:p<=999000000000000):F.qL b p n=some (M.odd b p n):=ig (F.wI b p n h_b p0 p1 p2)
theorem M.HS (b:(List Int)) (p:Int) (n:Int) (h_b:Sm (Ty.sl (Ty.int .u8)) b) (p0:M.aq b) (p1:0<=p) (p2:p<=999000000000000):(n<1->(M.odd b p n).1=false)/\p<=(M.odd b p n).2/\(M.odd b p n).2<=p+1:=iq (F.wI b p n h_b p0 p1 p2)
theorem jq {α:Type} {K:α->Prop} {f:Bool×Int->Option α} {b:(List Int)} {p:Int} {n:Int} (k:∀r,(n<1->r.1=false)->(p<=r.2)->(r.2<=p+1)->ok (f r) K) (h_b:Sm (Ty.sl (Ty.int .u8)) b:=by exact au) (p0:M.aq b:=by exact au) (p1:0<=p:=by exact au) (p2:p<=999000000000000:=by exact au):ok (aJ (M.odd b p n) f) K:=by
 have h:=M.HS b p n h_b p0 p1 p2
 obtain⟨h0,h1,h2⟩:=h
 exact k _ h0 h1 h2
theorem F.mB (b:(List Int)) (p:Int) (n:Int) (h_b:Sm (Ty.sl (Ty.int .u8)) b) (p0:M.aq b) (p1:0<=p) (p2:p<=998000000000000):ok (F.gd b p n) (fun r=>1<=r.1.length/\r.1.length<=6/\p<=r.2/\r.2<=p+20):=by
  unfold F.gd
  refine okG ?_
  refine aA fun r1 h_2_1_0 h_2_1_1 h_2_1_2 h_2_1_3=>?_
  refine okB (A:=fun e0=>p<=e0.1/\e0.1<=p+10/\1<=e0.2.length/\e0.2.length<=3) ?_ (fun e0 h_e0=>?_)
  ·refine okW (fun(k:Nat) (v0:Int×Int×LC)=>0<=v0.1/\v0.1<=(k:Int)/\(v0.2.2.length:Int)+v0.1<=3/\1<=(v0.2.2.length:Int)+v0.1/\p<=v0.2.1/\v0.2.1+2 * v0.1<=p+10) (fun k v0 hI=>?_) (3:Nat) _ ⟨au,au,au,au,au,au⟩
   obtain⟨i_0,i_1,i_2,i_3,i_4,i_5⟩:=hI
   unfold F.fP
   refine okD (fun c_0=>?_) (fun c_0=>?_)
   ·refine okG ?_
    refine okG ?_
    refine okG ?_
    refine aA fun r2 h_5_3_0 h_5_3_1 h_5_3_2 h_5_3_3=>?_
    refine okG ?_
    refine okG ?_
    refine okG ?_
    refine okG ?_
    refine aA fun r3 h_5_7_0 h_5_7_1 h_5_7_2 h_5_7_3=>?_
    refine okG ?_
    exact fK ⟨k-1,by omega,au,au,au,au,au,au⟩
   ·exact dD ⟨au,au,au,au⟩
  ·obtain⟨e0_0,e0_1,e0_2,e0_3⟩:=h_e0
   refine okG ?_
   refine okG ?_
   refine jq fun r4 h_6_2_0 h_6_2_1 h_6_2_2=>?_
   refine okC (fun c_1=>?_) (fun c_1=>?_)
   ·refine okG ?_
    refine okG ?_
    refine aA fun r5 h_7_2_0 h_7_2_1 h_7_2_2 h_7_2_3=>?_
    refine okG ?_
    exact JP
   ·exact JP
theorem F.tB (b:(List Int)) (p:Int) (n:Int) (h_b:Sm (Ty.sl (Ty.int .u8)) b) (p0:M.aq b) (p1:0<=p) (p2:p<=998000000000000):F.gd b p n=some (M.fQ b p n):=ig (F.mB b p n h_b p0 p1 p2)
theorem M.xz (b:(List Int)) (p:Int) (n:Int) (h_b:Sm (Ty.sl (Ty.int .u8)) b) (p0:M.aq b) (p1:0<=p) (p2:p<=998000000000000):1<=(M.fQ b p n).1.length/\(M.fQ b p n).1.length<=6/\p<=(M.fQ b p n).2/\(M.fQ b p n).2<=p+20:=iq (F.mB b p n h_b p0 p1 p2)
theorem rY {α:Type} {K:α->Prop} {f:LC×Int->Option α} {b:(List Int)} {p:Int} {n:Int} (k:∀r,(1<=r.1.length)->(r.1.length<=6)->(p<=r.2)->(r.2<=p+20)->ok (f r) K) (h_b:Sm (Ty.sl (Ty.int .u8)) b:=by exact au) (p0:M.aq b:=by exact au) (p1:0<=p:=by exact au) (p2:p<=998000000000000:=by exact au):ok (aJ (M.fQ b p n) f) K:=by
 have h:=M.xz b p n h_b p0 p1 p2
 obtain⟨h0,h1,h2,h3⟩:=h
 exact k _ h0 h1 h2 h3
theorem F.qp (b:(List Int)) (p:Int) (c:ag.D) (h_b:Sm (Ty.sl (Ty.int .u8)) b) (p0:M.aq b) (p1:0<=p) (p2:p<=998000000000000):ok (F.jj b p c) (fun r=>r.1.2.2.1.size<=20/\p<=r.2/\r.2<=p+3):=by
  unfold F.jj
  refine okC (fun c_0=>?_) (fun c_0=>?_)
  ·refine okG ?_
   refine aA fun r1 h_1_4_0 h_1_4_1 h_1_4_2 h_1_4_3=>?_
   refine okD (fun c_1=>?_) (fun c_1=>?_)
   ·exact rZ
   ·refine okD (fun c_2=>?_) (fun c_2=>?_)
    ·refine okG ?_
     refine okG ?_
     refine aA fun r2 h_5_1_0 h_5_1_1 h_5_1_2 h_5_1_3=>?_
     exact rZ
    ·refine okD (fun c_3=>?_) (fun c_3=>?_)
     ·refine okG ?_
      refine okG ?_
      refine aA fun r3 h_7_2_0 h_7_2_1 h_7_2_2 h_7_2_3=>?_
      refine okG ?_
      refine okG ?_
      exact rZ
     ·refine okG ?_
      refine okG ?_
      refine aA fun r4 h_8_1_0 h_8_1_1 h_8_1_2 h_8_1_3=>?_
      exact rZ
  ·refine okD (fun c_4=>?_) (fun c_4=>?_)
   ·refine okG ?_
    refine aA fun r2 h_5_1_0 h_5_1_1 h_5_1_2 h_5_1_3=>?_
    exact rZ
   ·refine okD (fun c_5=>?_) (fun c_5=>?_)
    ·refine okG ?_
     refine aA fun r3 h_7_2_0 h_7_2_1 h_7_2_2 h_7_2_3=>?_
     refine okG ?_
     refine okG ?_
     exact rZ
    ·refine okG ?_
     refine aA fun r4 h_8_1_0 h_8_1_1 h_8_1_2 h_8_1_3=>?_
     exact rZ
theorem F.xS (b:(List Int)) (p:Int) (c:ag.D) (h_b:Sm (Ty.sl (Ty.int .u8)) b) (p0:M.aq b) (p1:0<=p) (p2:p<=998000000000000):F.jj b p c=some (M.ki b p c):=ig (F.qp b p c h_b p0 p1 p2)
theorem M.Cs (b:(List Int)) (p:Int) (c:ag.D) (h_b:Sm (Ty.sl (Ty.int .u8)) b) (p0:M.aq b) (p1:0<=p) (p2:p<=998000000000000):(M.ki b p c).1.2.2.1.size<=20/\p<=(M.ki b p c).2/\(M.ki b p c).2<=p+3:=iq (F.qp b p c h_b p0 p1 p2)
theorem ow {α:Type} {K:α->Prop} {f:af.D×Int->Option α} {b:(List Int)} {p:Int} {c:ag.D} (k:∀r,(r.1.2.2.1.size<=20)->(p<=r.2)->(r.2<=p+3)->ok (f r) K) (h_b:Sm (Ty.sl (Ty.int .u8)) b:=by exact au) (p0:M.aq b:=by exact au) (p1:0<=p:=by exact au) (p2:p<=998000000000000:=by exact au):ok (aJ (M.ki b p c) f) K:=by
 have h:=M.Cs b p c h_b p0 p1 p2
 obtain⟨h0,h1,h2⟩:=h
 exact k _ h0 h1 h2
theorem F.oR (b:(List Int)) (p:Int) (n:Int) (h_b:Sm (Ty.sl (Ty.int .u8)) b) (p0:M.aq b) (p1:0<=p) (p2:p<=998000000000000):ok (F.iJ b p n) (fun r=>r.1.2.2.1.size<=20/\p<=r.2/\r.2<=p+20):=by
  unfold F.iJ
  refine okG ?_
  refine aA fun r1 h_2_1_0 h_2_1_1 h_2_1_2 h_2_1_3=>?_
  refine okB (A:=fun e0=>p<=e0.1/\e0.1<=p+12/\e0.2.2.2.size<=3) ?_ (fun e0 h_e0=>?_)
  ·refine okW (fun(_:Nat) (_:Unit)=>True) (fun _ v0 _=>?_) 0 _ trivial
   unfold F.ir
   refine okD (fun c_1=>?_) (fun c_1=>?_)
   ·exact dD ⟨au,au,au⟩
   ·refine okD (fun c_2=>?_) (fun c_2=>?_)
    ·refine okG ?_
     refine okG ?_
     refine okG ?_
     refine aA fun r2 h_8_1_0 h_8_1_1 h_8_1_2 h_8_1_3=>?_
     refine okG ?_
     refine okG ?_
     refine aA fun r3 h_9_1_0 h_9_1_1 h_9_1_2 h_9_1_3=>?_
     refine okD (fun c_3=>?_) (fun c_3=>?_)
     ·refine okG ?_
      refine okG ?_
      refine aA fun r4 h_10_2_0 h_10_2_1 h_10_2_2 h_10_2_3=>?_
      refine okG ?_
      refine okG ?_
      exact dD ⟨au,au,au⟩
     ·exact dD ⟨au,au,au⟩
    ·refine okD (fun c_4=>?_) (fun c_4=>?_)
     ·refine okG ?_
      refine okG ?_
      refine okG ?_
      refine aA fun r2 h_8_1_0 h_8_1_1 h_8_1_2 h_8_1_3=>?_
      refine okG ?_
      refine okG ?_
      refine aA fun r3 h_9_1_0 h_9_1_1 h_9_1_2 h_9_1_3=>?_
      refine okD (fun c_5=>?_) (fun c_5=>?_)
      ·refine okG ?_
       refine okG ?_
       refine aA fun r4 h_10_2_0 h_10_2_1 h_10_2_2 h_10_2_3=>?_
       refine okG ?_
       refine okG ?_
       exact dD ⟨au,au,au⟩
      ·exact dD ⟨au,au,au⟩
     ·refine okD (fun c_6=>?_) (fun c_6=>?_)
      ·refine okG ?_
       refine okG ?_
       refine okG ?_
       refine aA fun r2 h_8_1_0 h_8_1_1 h_8_1_2 h_8_1_3=>?_
       refine okG ?_
       refine okG ?_
       refine aA fun r3 h_9_1_0 h_9_1_1 h_9_1_2 h_9_1_3=>?_
       refine okD (fun c_7=>?_) (fun c_7=>?_)
       ·refine okG ?_
        refine okG ?_
        refine aA fun r4 h_10_2_0 h_10_2_1 h_10_2_2 h_10_2_3=>?_
        refine okG ?_
        refine okG ?_
        exact dD ⟨au,au,au⟩
       ·exact dD ⟨au,au,au⟩
      ·refine okD (fun c_8=>?_) (fun c_8=>?_)
       ·refine okG ?_
        refine okG ?_
        refine okG ?_
        refine aA fun r5 h_14_1_0 h_14_1_1 h_14_1_2 h_14_1_3=>?_
        refine okB (A:=fun e1=>p<=e1.1/\e1.1<=p+8/\e1.2.size<=3) ?_ (fun e1 h_e1=>?_)
        ·refine okW (fun(k:Nat) (v1:Int×Int×ByteArray)=>0<=v1.1/\v1.1<=(k:Int)/\(v1.2.2.size:Int)+v1.1<=3/\p<=v1.2.1/\v1.2.1+v1.1<=p+8) (fun k v1 hI=>?_) (3:Nat) _ ⟨au,au,au,au,au⟩
         obtain⟨i_0,i_1,i_2,i_3,i_4⟩:=hI
         unfold F.eH
         refine okD (fun c_0=>?_) (fun c_0=>?_)
         ·refine okG ?_
          refine okG ?_
          refine okG ?_
          refine aA fun r6 h_17_3_0 h_17_3_1 h_17_3_2 h_17_3_3=>?_
          refine okG ?_
          exact fK ⟨k-1,by omega,au,au,au,au,au⟩
         ·exact dD ⟨au,au,au⟩
        ·obtain⟨e1_0,e1_1,e1_2⟩:=h_e1
         exact dD ⟨au,au,au⟩
       ·refine okD (fun c_9=>?_) (fun c_9=>?_)
        ·refine okG ?_
         refine okG ?_
         refine okG ?_
         refine aA fun r5 h_14_1_0 h_14_1_1 h_14_1_2 h_14_1_3=>?_
         refine okB (A:=fun e1=>p<=e1.1/\e1.1<=p+8/\e1.2.size<=3) ?_ (fun e1 h_e1=>?_)
         ·refine okW (fun(k:Nat) (v1:Int×Int×ByteArray)=>0<=v1.1/\v1.1<=(k:Int)/\(v1.2.2.size:Int)+v1.1<=3/\p<=v1.2.1/\v1.2.1+v1.1<=p+8) (fun k v1 hI=>?_) (3:Nat) _ ⟨au,au,au,au,au⟩
          obtain⟨i_0,i_1,i_2,i_3,i_4⟩:=hI
          unfold F.eH
          refine okD (fun c_0=>?_) (fun c_0=>?_)
          ·refine okG ?_
           refine okG ?_
           refine okG ?_
           refine aA fun r6 h_17_3_0 h_17_3_1 h_17_3_2 h_17_3_3=>?_
           refine okG ?_
           exact fK ⟨k-1,by omega,au,au,au,au,au⟩
          ·exact dD ⟨au,au,au⟩
         ·obtain⟨e1_0,e1_1,e1_2⟩:=h_e1
          exact dD ⟨au,au,au⟩
        ·refine okG ?_
         refine okG ?_
         refine okG ?_
         refine aA fun r7 h_3_1_0 h_3_1_1 h_3_1_2 h_3_1_3=>?_
         exact dD ⟨au,au,au⟩
  ·obtain⟨e0_0,e0_1,e0_2⟩:=h_e0
   refine okG ?_
   refine okG ?_
   refine jq fun r8 h_18_2_0 h_18_2_1 h_18_2_2=>?_
   refine okC (fun c_10=>?_) (fun c_10=>?_)
   ·refine okG ?_
    refine okG ?_
    refine aA fun r9 h_19_1_0 h_19_1_1 h_19_1_2 h_19_1_3=>?_
    refine okD (fun c_11=>?_) (fun c_11=>?_)
    ·exact rZ
    ·refine okD (fun c_12=>?_) (fun c_12=>?_)
     ·refine okG ?_
      exact rZ
     ·refine okD (fun c_13=>?_) (fun c_13=>?_)
      ·refine okG ?_
       refine okG ?_
       refine aA fun r10 h_26_1_0 h_26_1_1 h_26_1_2 h_26_1_3=>?_
       exact rZ
      ·refine okG ?_
       exact rZ
   ·exact rZ
theorem F.vV (b:(List Int)) (p:Int) (n:Int) (h_b:Sm (Ty.sl (Ty.int .u8)) b) (p0:M.aq b) (p1:0<=p) (p2:p<=998000000000000):F.iJ b p n=some (M.eT b p n):=ig (F.oR b p n h_b p0 p1 p2)
theorem M.Ae (b:(List Int)) (p:Int) (n:Int) (h_b:Sm (Ty.sl (Ty.int .u8)) b) (p0:M.aq b) (p1:0<=p) (p2:p<=998000000000000):(M.eT b p n).1.2.2.1.size<=20/\p<=(M.eT b p n).2/\(M.eT b p n).2<=p+20:=iq (F.oR b p n h_b p0 p1 p2)
theorem gD {α:Type} {K:α->Prop} {f:af.D×Int->Option α} {b:(List Int)} {p:Int} {n:Int} (k:∀r,(r.1.2.2.1.size<=20)->(p<=r.2)->(r.2<=p+20)->ok (f r) K) (h_b:Sm (Ty.sl (Ty.int .u8)) b:=by exact au) (p0:M.aq b:=by exact au) (p1:0<=p:=by exact au) (p2:p<=998000000000000:=by exact au):ok (aJ (M.eT b p n) f) K:=by
 have h:=M.Ae b p n h_b p0 p1 p2
 obtain⟨h0,h1,h2⟩:=h
 exact k _ h0 h1 h2
theorem F.rD (b:(List Int)) (p:Int) (columns:LC) (n:Int) (h_b:Sm (Ty.sl (Ty.int .u8)) b) (h_columns:Sm (Ty.sl ag) columns) (p0:M.aq b) (p1:0<=p) (p2:p<=997000000000000):ok (F.kQ b p columns n) (fun r=>r.1.length<=columns.length+3/\(∀v∈r.1,v.2.2.1.size<=20)/\p<=r.2/\r.2<=p+3 * columns.length+70/\(n<1->r.1.length=columns.length)):=by
  unfold F.kQ
  have hl:=h_columns.1
  refine okT (A:=fun v0=>p<=v0.1/\v0.1<=p+3 * (columns.length:Int)/\v0.2.length=columns.length/\(∀v∈v0.2,v.2.2.1.size<=20)) (B:=fun _=>False) ?_ (fun v0 h_v0=>?_) (fun _ h=>h.elim)
  ·refine Jm (fun(k:Nat) (v0:Int×LV)=>p<=v0.1/\v0.1<=p+3 * (k:Int)/\v0.2.length=k/\(∀v∈v0.2,v.2.2.1.size<=20)) ⟨au,au,au,au⟩ (fun z0 hz k v0 hk hI=>?_)
   obtain⟨i_0,i_1,i_2,i_3⟩:=hI
   unfold F.jr
   refine okG ?_
   refine okG ?_
   refine okG ?_
   refine ow fun r1 h_5_6_0 h_5_6_1 h_5_6_2=>?_
   refine okG ?_
   exact fK ⟨au,au,au,au⟩
  ·obtain⟨v0_0,v0_1,v0_2,v0_3⟩:=h_v0
   refine okG ?_
   refine okG ?_
   refine jq fun r2 h_6_2_0 h_6_2_1 h_6_2_2=>?_
   refine okC (fun c_0=>?_) (fun c_0=>?_)
   ·have n_a:¬n<1:=fun q=>by rw[h_6_2_0 q] at c_0;cases c_0
    refine okG ?_
    refine okG ?_
    refine aA fun r3 h_7_1_0 h_7_1_1 h_7_1_2 h_7_1_3=>?_
    refine okD (fun c_1=>?_) (fun c_1=>?_)
    ·refine okG ?_
     exact qv
    ·refine okD (fun c_2=>?_) (fun c_2=>?_)
     ·refine okD (fun c_3=>?_) (fun c_3=>?_)
      ·refine okG ?_
       refine okG ?_
       refine aA fun r4 h_13_4_0 h_13_4_1 h_13_4_2 h_13_4_3=>?_
       refine okG ?_
       refine okG ?_
       refine gD fun r5 h_13_6_0 h_13_6_1 h_13_6_2=>?_
       refine okG ?_
       refine okG ?_
       exact qv
      ·exact qv
     ·refine okG ?_
      refine okG ?_
      refine gD fun r6 h_8_2_0 h_8_2_1 h_8_2_2=>?_
      refine okG ?_
      refine okG ?_
      refine gD fun r7 h_8_4_0 h_8_4_1 h_8_4_2=>?_
      refine okG ?_
      refine okG ?_
      refine gD fun r8 h_8_6_0 h_8_6_1 h_8_6_2=>?_
      refine okG ?_
      exact qv
   ·exact qv
theorem F.zK (b:(List Int)) (p:Int) (columns:LC) (n:Int) (h_b:Sm (Ty.sl (Ty.int .u8)) b) (h_columns:Sm (Ty.sl ag) columns) (p0:M.aq b) (p1:0<=p) (p2:p<=997000000000000):F.kQ b p columns n=some (M.lC b p columns n):=ig (F.rD b p columns n h_b h_columns p0 p1 p2)
theorem M.Dw (b:(List Int)) (p:Int) (columns:LC) (n:Int) (h_b:Sm (Ty.sl (Ty.int .u8)) b) (h_columns:Sm (Ty.sl ag) columns) (p0:M.aq b) (p1:0<=p) (p2:p<=997000000000000):(M.lC b p columns n).1.length<=columns.length+3/\(∀v∈(M.lC b p columns n).1,v.2.2.1.size<=20)/\p<=(M.lC b p columns n).2/\(M.lC b p columns n).2<=p+3 * columns.length+70/\(n<1->(M.lC b p columns n).1.length=columns.length):=iq (F.rD b p columns n h_b h_columns p0 p1 p2)
theorem ql {α:Type} {K:α->Prop} {f:LV×Int->Option α} {b:(List Int)} {p:Int} {columns:LC} {n:Int} (k:∀r,(r.1.length<=columns.length+3)->(∀v∈r.1,v.2.2.1.size<=20)->(p<=r.2)->(r.2<=p+3 * columns.length+70)->(n<1->r.1.length=columns.length)->ok (f r) K) (h_b:Sm (Ty.sl (Ty.int .u8)) b:=by exact au) (h_columns:Sm (Ty.sl ag) columns:=by exact au) (p0:M.aq b:=by exact au) (p1:0<=p:=by exact au) (p2:p<=997000000000000:=by exact au):ok (aJ (M.lC b p columns n) f) K:=by
 have h:=M.Dw b p columns n h_b h_columns p0 p1 p2
 obtain⟨h0,h1,h2,h3,h4⟩:=h
 exact k _ h0 h1 h2 h3 h4
theorem F.Ay (row:LV) (h_row:Sm (Ty.sl af) row):F.yo row=some row:=by
 rfl
theorem F.qJ (b:(List Int)) (p:Int) (c:LC) (n:Int) (h_b:Sm (Ty.sl (Ty.int .u8)) b) (h_c:Sm (Ty.sl ag) c) (p0:M.aq b) (p1:0<=p) (p2:p<=996000000000000) (p3:c.length<=6) (p4:n=0):ok (F.kL b p c n) (fun r=>r.1.length<=6/\(∀w∈r.1,M.ug w)/\p<=r.2/\r.2<=p+1000/\(∀w∈r.1,w.length=c.length)):=by
  unfold F.kL
  have hl:=p3
  refine okG ?_
  refine aA fun r1 h_2_1_0 h_2_1_1 h_2_1_2 h_2_1_3=>?_
  refine okB (A:=fun e0=>p<=e0.1/\e0.1<=p+700/\e0.2.length<=6/\(∀w∈e0.2,M.ug w)/\(∀w∈e0.2,w.length=c.length)) ?_ (fun e0 h_e0=>?_)
  ·refine okW (fun(k:Nat) (v0:Int×Int×LLV)=>0<=v0.1/\v0.1<=(k:Int)/\(v0.2.2.length:Int)+v0.1<=6/\(∀w∈v0.2.2,M.ug w)/\p<=v0.2.1/\v0.2.1+100 * v0.1<=p+700/\(∀w∈v0.2.2,w.length=c.length)) (fun k v0 hI=>?_) (6:Nat) _ ⟨au,au,au,au,au,au,au⟩
   obtain⟨i_0,i_1,i_2,i_3,i_4,i_5,i_6⟩:=hI
   unfold F.jB
   refine okD (fun c_0=>?_) (fun c_0=>?_)
   ·refine FO (fun c_1=>?_) (fun c_1=>?_)
    ·refine okG ?_
     refine okG ?_
     refine okG ?_
     refine aA fun r2 h_5_5_0 h_5_5_1 h_5_5_2 h_5_5_3=>?_
     refine okD (fun c_2=>?_) (fun c_2=>?_)
     ·refine okG ?_
      refine okG ?_
      refine aA fun r3 h_6_5_0 h_6_5_1 h_6_5_2 h_6_5_3=>?_
      refine okG ?_
      refine okG ?_
      refine okG ?_
      refine okL fun r4 er4=>?_
      have w_a:M.ug r4:=er4▸M.zE i_3 _
      have w_b:r4.length=c.length:=by rw[er4];exact i_6 _ (oQ (t:=.sl af) h_6_5_0 (h_6_5_1 (by omega)))
      refine okG ?_
      exact fK ⟨k-1,by omega,au,au,au,au,au,au,au⟩
     ·refine okG ?_
      refine okG ?_
      refine ql fun r5 h_7_4_0 h_7_4_1 h_7_4_2 h_7_4_3 h_7_4_4=>?_
      have w_c:r5.1.length=c.length:=h_7_4_4 (by omega)
      refine okG ?_
      exact fK ⟨k-1,by omega,au,au,au,au,au,au,au⟩
    ·refine okG ?_
     refine okG ?_
     refine okG ?_
     refine ql fun r5 h_7_4_0 h_7_4_1 h_7_4_2 h_7_4_3 h_7_4_4=>?_
     have w_c:r5.1.length=c.length:=h_7_4_4 (by omega)
     refine okG ?_
     exact fK ⟨k-1,by omega,au,au,au,au,au,au,au⟩
   ·exact dD ⟨au,au,au,au,au⟩
  ·obtain⟨e0_0,e0_1,e0_2,e0_3,e0_4⟩:=h_e0
   exact qv
theorem F.ze (b:(List Int)) (p:Int) (c:LC) (n:Int) (h_b:Sm (Ty.sl (Ty.int .u8)) b) (h_c:Sm (Ty.sl ag) c) (p0:M.aq b) (p1:0<=p) (p2:p<=996000000000000) (p3:c.length<=6) (p4:n=0):F.kL b p c n=some (M.ot b p c n):=ig (F.qJ b p c n h_b h_c p0 p1 p2 p3 p4)
theorem M.CC (b:(List Int)) (p:Int) (c:LC) (n:Int) (h_b:Sm (Ty.sl (Ty.int .u8)) b) (h_c:Sm (Ty.sl ag) c) (p0:M.aq b) (p1:0<=p) (p2:p<=996000000000000) (p3:c.length<=6) (p4:n=0):(M.ot b p c n).1.length<=6/\(∀w∈(M.ot b p c n).1,M.ug w)/\p<=(M.ot b p c n).2/\(M.ot b p c n).2<=p+1000/\(∀w∈(M.ot b p c n).1,w.length=c.length):=iq (F.qJ b p c n h_b h_c p0 p1 p2 p3 p4)
theorem xD {α:Type} {K:α->Prop} {f:LLV×Int->Option α} {b:(List Int)} {p:Int} {c:LC} {n:Int} (k:∀r,(r.1.length<=6)->(∀w∈r.1,M.ug w)->(p<=r.2)->(r.2<=p+1000)->(∀w∈r.1,w.length=c.length)->ok (f r) K) (h_b:Sm (Ty.sl (Ty.int .u8)) b:=by exact au) (h_c:Sm (Ty.sl ag) c:=by exact au) (p0:M.aq b:=by exact au) (p1:0<=p:=by exact au) (p2:p<=996000000000000:=by exact au) (p3:c.length<=6:=by exact au) (p4:n=0:=by exact au):ok (aJ (M.ot b p c n) f) K:=by
 have h:=M.CC b p c n h_b h_c p0 p1 p2 p3 p4
 obtain⟨h0,h1,h2,h3,h4⟩:=h
 exact k _ h0 h1 h2 h3 h4
theorem F.nB (b:(List Int)) (p:Int) (n:Int) (h_b:Sm (Ty.sl (Ty.int .u8)) b) (p0:M.aq b) (p1:0<=p) (p2:p<=995000000000000):ok (F.gR b p n) (fun r=>r.1.length<=6/\1<=r.1.length/\(∀t∈r.1,M.iA t)/\p<=r.2/\r.2<=p+10000/\(n<1->r.1.length<=3)/\(n<1->(∀t∈r.1,M.xP t))):=by
  unfold F.gR
  refine okG ?_
  refine aA fun r1 h_2_1_0 h_2_1_1 h_2_1_2 h_2_1_3=>?_
  refine okB (A:=fun e0=>p<=e0.1/\e0.1<=p+6100/\e0.2.length<=3/\1<=e0.2.length/\(∀t∈e0.2,M.iA t)/\(∀t∈e0.2,M.xP t)) ?_ (fun e0 h_e0=>?_)
  ·refine okW (fun(k:Nat) (v0:Int×Int×LTb)=>0<=v0.1/\v0.1<=(k:Int)/\(v0.2.2.length:Int)+v0.1<=3/\1<=(v0.2.2.length:Int)+v0.1/\(∀t∈v0.2.2,M.iA t)/\p<=v0.2.1/\v0.2.1+2000 * v0.1<=p+6100/\(∀t∈v0.2.2,M.xP t)) (fun k v0 hI=>?_) (3:Nat) _ ⟨au,au,au,au,au,au,au,au⟩
   obtain⟨i_0,i_1,i_2,i_3,i_4,i_5,i_6,i_7⟩:=hI
   unfold F.gz
   refine okD (fun c_0=>?_) (fun c_0=>?_)
   ·refine okG ?_
    refine okG ?_
    refine okG ?_
    refine rY fun r2 h_5_1_0 h_5_1_1 h_5_1_2 h_5_1_3=>?_
    refine okG ?_
    refine okG ?_
    refine aA fun r3 h_6_2_0 h_6_2_1 h_6_2_2 h_6_2_3=>?_
    refine okG ?_
    refine okG ?_
    refine okG ?_
    refine okG ?_
    refine okG ?_
    refine okG ?_
    refine okG ?_
    refine okG ?_
    refine xD fun r4 h_7_3_0 h_7_3_1 h_7_3_2 h_7_3_3 h_7_3_4=>?_
    have q_a:=M.JS h_6_2_0 (h_6_2_1 (by decide)) (n:=(r2.1.length:Int)) (by omega)
    have q_b:(ay r2.1 (some ((0:Int),wrap64 ((1:Int)+(r3.1.tmod (r2.1.length:Int)))))).length<=2:=M.Js q_a
    have q_c:M.xP ((ay r2.1 (some ((0:Int),wrap64 ((1:Int)+(r3.1.tmod (r2.1.length:Int)))))),(r4.1,())):=⟨Nat.le_trans q_b (by decide),by omega,fun w hw=>by rw[h_7_3_4 w hw];omega⟩
    refine okG ?_
    exact fK ⟨k-1,by omega,au,au,au,au,au,au,au,au⟩
   ·exact dD ⟨au,au,au,au,au,au⟩
  ·obtain⟨e0_0,e0_1,e0_2,e0_3,e0_4,e0_5⟩:=h_e0
   refine okG ?_
   refine okG ?_
   refine jq fun r5 h_9_2_0 h_9_2_1 h_9_2_2=>?_
   refine okC (fun c_1=>?_) (fun c_1=>?_)
   ·have n_a:¬n<1:=fun q=>by rw[h_9_2_0 q] at c_1;cases c_1
    obtain⟨t_1,t_2,_⟩:=M.zL e0_5 (0:Int)
    refine okG ?_
    refine okG ?_
    refine aA fun r6 h_10_1_0 h_10_1_1 h_10_1_2 h_10_1_3=>?_
    refine okD (fun c_2=>?_) (fun c_2=>?_)
    ·refine okG ?_
     exact BS
    ·refine okD (fun c_3=>?_) (fun c_3=>?_)
     ·have t_a:=M.Gv (i:=0) (k:=(0:Int).toNat) (w:=[[((9:Int),((0:Int),((⟨#[]⟩:ByteArray),())))]]) e0_4 e0_5 (by exact cl) (by decide)
      refine okG ?_
      refine okG ?_ (by simp only[List.length_cons,List.length_nil,List.length_append,lim];omega)
      refine okG ?_ (by rw[List.length_set];omega)
      refine okL fun y1 ey1=>?_
      subst ey1
      exact BS
     ·have t_a:=M.Gu (i:=0) (k:=(0:Int).toNat) (w:=[((1:Int),(false,()))]) e0_4 e0_5 (by decide)
      refine okG ?_
      refine okG ?_ (by simp only[List.length_cons,List.length_nil,List.length_append,lim];omega)
      refine okG ?_ (by rw[List.length_set];omega)
      refine okL fun y2 ey2=>?_
      subst ey2
      exact BS
   ·have t_b:n<1->∀t∈e0.2,M.xP t:=fun _=>e0_5
    exact BS
theorem F.ud (b:(List Int)) (p:Int) (n:Int) (h_b:Sm (Ty.sl (Ty.int .u8)) b) (p0:M.aq b) (p1:0<=p) (p2:p<=995000000000000):F.gR b p n=some (M.dU b p n):=ig (F.nB b p n h_b p0 p1 p2)
theorem M.yC (b:(List Int)) (p:Int) (n:Int) (h_b:Sm (Ty.sl (Ty.int .u8)) b) (p0:M.aq b) (p1:0<=p) (p2:p<=995000000000000):(M.dU b p n).1.length<=6/\1<=(M.dU b p n).1.length/\(∀t∈(M.dU b p n).1,M.iA t)/\p<=(M.dU b p n).2/\(M.dU b p n).2<=p+10000/\(n<1->(M.dU b p n).1.length<=3)/\(n<1->(∀t∈(M.dU b p n).1,M.xP t)):=iq (F.nB b p n h_b p0 p1 p2)
theorem mI {α:Type} {K:α->Prop} {f:LTb×Int->Option α} {b:(List Int)} {p:Int} {n:Int} (k:∀r,(r.1.length<=6)->(1<=r.1.length)->(∀t∈r.1,M.iA t)->(p<=r.2)->(r.2<=p+10000)->(n<1->r.1.length<=3)->(n<1->(∀t∈r.1,M.xP t))->ok (f r) K) (h_b:Sm (Ty.sl (Ty.int .u8)) b:=by exact au) (p0:M.aq b:=by exact au) (p1:0<=p:=by exact au) (p2:p<=995000000000000:=by exact au):ok (aJ (M.dU b p n) f) K:=by
 have h:=M.yC b p n h_b p0 p1 p2
 obtain⟨h0,h1,h2,h3,h4,h5,h6⟩:=h
 exact k _ h0 h1 h2 h3 h4 h5 h6
theorem F.qm (b:(List Int)) (p:Int) (columns:LC) (kind:Int) (h_b:Sm (Ty.sl (Ty.int .u8)) b) (h_columns:Sm (Ty.sl ag) columns) (p0:M.aq b) (p1:0<=p) (p2:p<=997000000000000):ok (F.jE b p columns kind) (fun r=>r.1.2.2.1.2.2.1.size<=20/\p<=r.2/\r.2<=p+20):=by
  unfold F.jE
  have hl:=h_columns.1
  refine okT (A:=fun e0=>p<=e0/\e0<=p+8) (B:=fun q0=>p<=q0.1/\q0.1<=p+10) ?_ (fun e0 h_e0=>?_) (fun q0 h_q0=>?_)
  ·refine okW (fun(k:Nat) (v0:Int×Int)=>0<=v0.1/\v0.1<=4/\4<=v0.1+(k:Int)/\p<=v0.2/\v0.2<=p+2 * v0.1) (fun k v0 hI=>?_) (4:Nat) _ ⟨au,au,au,au,au⟩
   obtain⟨i_0,i_1,i_2,i_3,i_4⟩:=hI
   unfold F.iN
   refine FO (fun c_0=>?_) (fun c_0=>?_)
   ·refine okD (fun c_1=>?_) (fun c_1=>?_)
    ·refine okG ?_
     refine okG ?_
     refine okG ?_
     refine aA fun r1 h_4_3_0 h_4_3_1 h_4_3_2 h_4_3_3=>?_
     refine okG ?_
     refine okG ?_
     refine FO (fun c_2=>?_) (fun c_2=>?_)
     ·refine okG ?_
      refine okG ?_
      refine aA fun r2 h_5_9_0 h_5_9_1 h_5_9_2 h_5_9_3=>?_
      refine okD (fun c_3=>?_) (fun c_3=>?_)
      ·exact Hu ⟨au,au⟩
      ·exact fK ⟨k-1,by omega,au,au,au,au,au⟩
     ·exact fK ⟨k-1,by omega,au,au,au,au,au⟩
    ·exact Em ⟨au,au⟩
   ·exact Em ⟨au,au⟩
  ·obtain⟨e0_0,e0_1⟩:=h_e0
   refine okG ?_
   refine okG ?_
   refine ow fun r3 h_7_3_0 h_7_3_1 h_7_3_2=>?_
   exact rZ
  ·obtain⟨q0_0,q0_1⟩:=h_q0
   exact rZ
theorem F.xC (b:(List Int)) (p:Int) (columns:LC) (kind:Int) (h_b:Sm (Ty.sl (Ty.int .u8)) b) (h_columns:Sm (Ty.sl ag) columns) (p0:M.aq b) (p1:0<=p) (p2:p<=997000000000000):F.jE b p columns kind=some (M.dK b p columns kind):=ig (F.qm b p columns kind h_b h_columns p0 p1 p2)
theorem M.Ci (b:(List Int)) (p:Int) (columns:LC) (kind:Int) (h_b:Sm (Ty.sl (Ty.int .u8)) b) (h_columns:Sm (Ty.sl ag) columns) (p0:M.aq b) (p1:0<=p) (p2:p<=997000000000000):(M.dK b p columns kind).1.2.2.1.2.2.1.size<=20/\p<=(M.dK b p columns kind).2/\(M.dK b p columns kind).2<=p+20:=iq (F.qm b p columns kind h_b h_columns p0 p1 p2)
theorem fF {α:Type} {K:α->Prop} {f:aE.D×Int->Option α} {b:(List Int)} {p:Int} {columns:LC} {kind:Int} (k:∀r,(r.1.2.2.1.2.2.1.size<=20)->(p<=r.2)->(r.2<=p+20)->ok (f r) K) (h_b:Sm (Ty.sl (Ty.int .u8)) b:=by exact au) (h_columns:Sm (Ty.sl ag) columns:=by exact au) (p0:M.aq b:=by exact au) (p1:0<=p:=by exact au) (p2:p<=997000000000000:=by exact au):ok (aJ (M.dK b p columns kind) f) K:=by
 have h:=M.Ci b p columns kind h_b h_columns p0 p1 p2
 obtain⟨h0,h1,h2⟩:=h
 exact k _ h0 h1 h2
theorem dm {α:Type} {K:α->Prop} {f:LPt×Int->Option α} {n_:Nat} (ih:∀(b:(List Int)),∀(p:Int),∀(columns:LC),∀(kind:Int),∀(deep:Int),(Sm (Ty.sl (Ty.int .u8)) b)->(Sm (Ty.sl ag) columns)->(M.aq b)->(0<=p)->(p+40 * (M.eB deep:Int)<=996000000000000)->(deep<=3)->(deep.toNat<n_)->1<=(M.bG n_ b p columns kind deep).1.length/\(M.bG n_ b p columns kind deep).1.length<=M.eB deep/\(∀v∈(M.bG n_ b p columns kind deep).1,v.2.2.1.2.2.1.size<=20)/\p<=(M.bG n_ b p columns kind deep).2/\(M.bG n_ b p columns kind deep).2<=p+40 * M.eB deep) {b:(List Int)} {p:Int} {columns:LC} {kind:Int} {deep:Int} (k:∀r,(1<=r.1.length)->(r.1.length<=M.eB deep)->(∀v∈r.1,v.2.2.1.2.2.1.size<=20)->(p<=r.2)->(r.2<=p+40 * M.eB deep)->ok (f r) K) (h_b:Sm (Ty.sl (Ty.int .u8)) b:=by exact au) (h_columns:Sm (Ty.sl ag) columns:=by exact au) (p0:M.aq b:=by exact au) (p1:0<=p:=by exact au) (p2:p+40 * (M.eB deep:Int)<=996000000000000:=by exact au) (p3:deep<=3:=by exact au) (p4:deep.toNat<n_:=by exact au):ok (aJ (M.bG n_ b p columns kind deep) f) K:=by
 have h:=ih b p columns kind deep h_b h_columns p0 p1 p2 p3 p4
 obtain⟨h0,h1,h2,h3,h4⟩:=h
 exact k _ h0 h1 h2 h3 h4
theorem F.qq (n_:Nat) (ih:∀(b:(List Int)),∀(p:Int),∀(columns:LC),∀(kind:Int),∀(deep:Int),(Sm (Ty.sl (Ty.int .u8)) b)->(Sm (Ty.sl ag) columns)->(M.aq b)->(0<=p)->(p+40 * (M.eB deep:Int)<=996000000000000)->(deep<=3)->(deep.toNat<n_)->1<=(M.bG n_ b p columns kind deep).1.length/\(M.bG n_ b p columns kind deep).1.length<=M.eB deep/\(∀v∈(M.bG n_ b p columns kind deep).1,v.2.2.1.2.2.1.size<=20)/\p<=(M.bG n_ b p columns kind deep).2/\(M.bG n_ b p columns kind deep).2<=p+40 * M.eB deep) (b:(List Int)) (p:Int) (columns:LC) (kind:Int) (deep:Int) (h_b:Sm (Ty.sl (Ty.int .u8)) b) (h_columns:Sm (Ty.sl ag) columns) (p0:M.aq b) (p1:0<=p) (p2:p+40 * (M.eB deep:Int)<=996000000000000) (p3:deep<=3) (p4:deep.toNat<(n_+1)):ok (F.lR n_ b p columns kind deep) (fun r=>1<=r.1.length/\r.1.length<=M.eB deep/\(∀v∈r.1,v.2.2.1.2.2.1.size<=20)/\p<=r.2/\r.2<=p+40 * M.eB deep):=by
  unfold F.lR
  have hE0:=M.Fp (d:=deep)
  have hE1:=M.Fp (d:=wrap64 (deep-(1:Int)))
  have hE2:=M.Fp (d:=wrap64 (deep-(2:Int)))
  have hE3:=M.JF (d:=deep) p3
  have hE4:=M.JE (d:=deep) p3
  refine JG (fun c_0=>?_) (fun c_0=>?_)
  ·refine okG ?_
   refine aA fun r1 h_1_4_0 h_1_4_1 h_1_4_2 h_1_4_3=>?_
   refine okD (fun c_1=>?_) (fun c_1=>?_)
   ·refine okG ?_
    refine okG ?_
    refine fF fun r2 h_2_3_0 h_2_3_1 h_2_3_2=>?_
    exact qv
   ·refine okD (fun c_2=>?_) (fun c_2=>?_)
    ·refine okG ?_
     refine okG ?_
     refine okG ?_
     refine okG ?_
     refine dm ih fun r3 h_4_5_0 h_4_5_1 h_4_5_2 h_4_5_3 h_4_5_4=>?_
     refine okG ?_
     refine okG ?_
     refine fF fun r4 h_4_9_0 h_4_9_1 h_4_9_2=>?_
     refine okG ?_
     refine okG ?_
     exact qv
    ·refine okD (fun c_3=>?_) (fun c_3=>?_)
     ·refine okG ?_
      refine okG ?_
      refine fF fun r5 h_6_3_0 h_6_3_1 h_6_3_2=>?_
      exact qv
     ·refine okG ?_
      refine okG ?_
      refine aA fun r6 h_7_1_0 h_7_1_1 h_7_1_2 h_7_1_3=>?_
      refine okD (fun c_4=>?_) (fun c_4=>?_)
      ·refine okG ?_
       refine okG ?_
       refine okG ?_
       refine okG ?_
       refine dm ih fun r7 h_9_4_0 h_9_4_1 h_9_4_2 h_9_4_3 h_9_4_4=>?_
       refine okG ?_
       refine okG ?_
       refine okG ?_
       refine okG ?_
       refine dm ih fun r8 h_9_9_0 h_9_9_1 h_9_9_2 h_9_9_3 h_9_9_4=>?_
       refine okG ?_
       refine okG ?_
       refine okG ?_
       refine aA fun r9 h_9_12_0 h_9_12_1 h_9_12_2 h_9_12_3=>?_
       refine okG ?_
       exact qv
      ·refine okD (fun c_5=>?_) (fun c_5=>?_)
       ·refine okG ?_
        refine okG ?_
        refine okG ?_
        refine okG ?_
        refine dm ih fun r10 h_11_4_0 h_11_4_1 h_11_4_2 h_11_4_3 h_11_4_4=>?_
        refine okG ?_
        exact qv
       ·refine okD (fun c_6=>?_) (fun c_6=>?_)
        ·refine okG ?_
         refine okG ?_
         refine aA fun r11 h_13_3_0 h_13_3_1 h_13_3_2 h_13_3_3=>?_
         refine okG ?_
         refine okG ?_
         refine okG ?_
         refine okG ?_
         refine dm ih fun r12 h_13_7_0 h_13_7_1 h_13_7_2 h_13_7_3 h_13_7_4=>?_
         refine okG ?_
         exact qv
        ·refine okG ?_
         refine okG ?_
         refine aA fun r13 h_14_1_0 h_14_1_1 h_14_1_2 h_14_1_3=>?_
         refine okG ?_
         refine okG ?_
         refine okG ?_
         refine okG ?_
         refine dm ih fun r14 h_15_5_0 h_15_5_1 h_15_5_2 h_15_5_3 h_15_5_4=>?_
         refine okG ?_
         refine okG ?_
         refine fF fun r15 h_15_9_0 h_15_9_1 h_15_9_2=>?_
         refine okG ?_
         refine okG ?_
         refine okG ?_
         refine aA fun r16 h_15_13_0 h_15_13_1 h_15_13_2 h_15_13_3=>?_
         refine okG ?_
         exact qv
  ·refine okG ?_
   refine fF fun r2 h_2_3_0 h_2_3_1 h_2_3_2=>?_
   exact qv
theorem M.pE:∀(n_:Nat),∀(b:(List Int)),∀(p:Int),∀(columns:LC),∀(kind:Int),∀(deep:Int),(Sm (Ty.sl (Ty.int .u8)) b)->(Sm (Ty.sl ag) columns)->(M.aq b)->(0<=p)->(p+40 * (M.eB deep:Int)<=996000000000000)->(deep<=3)->(deep.toNat<n_)->1<=(M.bG n_ b p columns kind deep).1.length/\(M.bG n_ b p columns kind deep).1.length<=M.eB deep/\(∀v∈(M.bG n_ b p columns kind deep).1,v.2.2.1.2.2.1.size<=20)/\p<=(M.bG n_ b p columns kind deep).2/\(M.bG n_ b p columns kind deep).2<=p+40 * M.eB deep
 | 0,b,p,columns,kind,deep,h_b,h_columns,p0,p1,p2,p3,p4=>absurd p4 (Nat.not_lt_zero _)
 | n_+1,b,p,columns,kind,deep,h_b,h_columns,p0,p1,p2,p3,p4=>iq (F.qq n_ (M.pE n_) b p columns kind deep h_b h_columns p0 p1 p2 p3 p4)
theorem F.xO (n_:Nat) (b:(List Int)) (p:Int) (columns:LC) (kind:Int) (deep:Int) (h_b:Sm (Ty.sl (Ty.int .u8)) b) (h_columns:Sm (Ty.sl ag) columns) (p0:M.aq b) (p1:0<=p) (p2:p+40 * (M.eB deep:Int)<=996000000000000) (p3:deep<=3) (p4:deep.toNat<(n_+1)):F.lR n_ b p columns kind deep=some (M.bG (n_+1) b p columns kind deep):=ig (F.qq n_ (M.pE n_) b p columns kind deep h_b h_columns p0 p1 p2 p3 p4)
theorem eC {α:Type} {K:α->Prop} {f:LPt×Int->Option α} {n_:Nat} {b:(List Int)} {p:Int} {columns:LC} {kind:Int} {deep:Int} (k:∀r,(1<=r.1.length)->(r.1.length<=M.eB deep)->(∀v∈r.1,v.2.2.1.2.2.1.size<=20)->(p<=r.2)->(r.2<=p+40 * M.eB deep)->ok (f r) K) (h_b:Sm (Ty.sl (Ty.int .u8)) b:=by exact au) (h_columns:Sm (Ty.sl ag) columns:=by exact au) (p0:M.aq b:=by exact au) (p1:0<=p:=by exact au) (p2:p+40 * (M.eB deep:Int)<=996000000000000:=by exact au) (p3:deep<=3:=by exact au) (p4:deep.toNat<n_:=by exact au):ok (aJ (M.bG n_ b p columns kind deep) f) K:=by
 have h:=M.pE n_ b p columns kind deep h_b h_columns p0 p1 p2 p3 p4
 obtain⟨h0,h1,h2,h3,h4⟩:=h
 exact k _ h0 h1 h2 h3 h4
theorem F.BK (n:Int) (low:Int) (high:Int)  : F.vK n low high=some (M.inR n low high):=by
 unfold F.vK M.inR
 cases decide (low<=n)<;>rfl
theorem F.tF (columns:LC) (h_columns:Sm (Ty.sl ag) columns):F.mq columns=some (M.bD columns):=by
 unfold F.mq M.bD
 rw[jz M.ez () (fun x _=>by simp only[F.gn,oS,dn]<;>rfl),show decide ((columns.length:Int)<=4)=decide (columns.length<=4) from decide_eq_decide.2 (by omega)]
 cases columns.all M.ez<;>simp
theorem F.yw (s:ByteArray) (h_s:Sm Ty.str s):F.qK s=some (M.text s):=by
 unfold F.qK M.text M.lower
 have key:∀c:Int,(cond ((decide (c<97))==false) (cond (decide (122<c)) (some (Sum.inr ())) (some (Sum.inl ()))) (some (Sum.inr ())):Option (Sum Unit Unit))=some (cond (M.inR c 97 122) (.inl ()) (.inr ())):=by
  intro c
  unfold M.inR
  by_cases h2:c<97
  ·simp[h2,show ¬ 97<=c by omega]
  ·by_cases h3:122<c
   ·simp[h2,h3,show 97<=c by omega,show ¬c<=122 by omega]
   ·simp[h2,h3,show 97<=c by omega,show c<=122 by omega]
 rw[jz (fun i=>M.inR (nth (t:=.int .u8) (bR s) i) 97 122) () (fun i hi=>by
  obtain⟨h0,h1⟩:=eJ.1 hi
  simp only[F.jh,BY h0 h1]
  exact key _)]
 rw[<-lB,Gh (t:=.int .u8) (bR s) (fun n=>M.inR n 97 122),show decide (((bR s).length:Int)<=6)=decide ((bR s).length<=6) from decide_eq_decide.2 (by omega)]
 cases (bR s).all fun n=>M.inR n 97 122<;>simp
theorem F.xJ (v:af.D) (h_v:Sm af v):F.pG v=some (M.aR v):=by
 unfold F.pG M.aR
 simp only[jT]
 simp only[dn]
theorem F.yl (columns:LC) (kinds:(List Int)) (p:aE.D) (h_columns:Sm (Ty.sl ag) columns) (h_kinds:Sm (Ty.sl (Ty.int .i64)) kinds) (h_p:Sm aE p) (p0:kinds.length<=1000):F.kO columns kinds p=some (M.vX columns kinds p):=by
 obtain⟨o,s,e,_⟩:=uV (columns:=columns) p p0 h_columns.1
 unfold M.vX
 rw[e]
 rfl
theorem F.wj (columns:LC) (e:LPt) (h_columns:Sm (Ty.sl ag) columns) (h_e:Sm (Ty.sl aE) e):F.nL columns e=some (M.cW columns e):=by
 unfold F.nL M.cW
 cases M.bD columns
 ·rfl
 by_cases hl:e.length<=12
 ·rw[decide_eq_false (show ¬(12:Int)<(e.length:Int) by omega),decide_eq_true hl]
  obtain⟨o,s,h1,h2⟩:=Ag (columns:=columns) (E:=e) (by omega) h_columns.1 e.length 0 [] (by omega) (by omega) (by simp;omega)
  rw[show (0:Int)=((0:Nat):Int) from rfl,h1]
  rw[List.drop_zero] at h2
  unfold om at h2
  cases hk:M.ji columns e [] with
  | none=>
   rw[hk] at h2
   simp only at h2
   subst h2
   rfl
  | some s'=>
   rw[hk] at h2
   obtain⟨rfl,rfl⟩:=h2
   match s with
   | []=>rfl
   | [a]=>exact ai (by simp)
   | a::b::l=>
    have:¬((a::b::l).length:Int)=1:=by simp;omega
    simp only[Option.bind_some,this,decide_false]
    rfl
 ·rw[decide_eq_true (show (12:Int)<(e.length:Int) by omega),decide_eq_false hl]
  rfl
theorem F.vC (s:ah.D) (h_s:Sm ah s):F.oh s=some (M.bJ s):=by
 unfold F.oh M.bJ M.two
 generalize decide (s.2.1=(0:Int))=a0
 generalize decide (s.2.2.1=(0:Int))=b0
 generalize decide (s.2.2.2.1=(0:Int))=n0
 generalize decide ((s.2.2.2.2.1.length:Int)=(0:Int))=e0
 generalize decide ((s.2.2.2.2.2.1.length:Int)=(0:Int))=l0
 by_cases h1:s.1=(1:Int)
 ·simp only[h1,Int.reduceEq,decide_true,decide_false]
  cases a0<;>cases b0<;>cases n0<;>cases e0<;>cases l0<;>rfl
 by_cases h2:s.1=(2:Int)
 ·simp only[h2,Int.reduceEq,decide_true,decide_false]
  cases a0<;>cases b0<;>cases n0<;>cases e0<;>cases l0<;>rfl
 by_cases h3:s.1=(3:Int)
 ·simp only[h3,Int.reduceEq,decide_true,decide_false]
  cases a0<;>cases b0<;>cases n0<;>cases e0<;>cases l0<;>rfl
 by_cases h4:s.1=(4:Int)
 ·simp only[h4,Int.reduceEq,decide_true,decide_false]
  cases a0<;>cases b0<;>cases n0<;>cases e0<;>cases l0<;>rfl
 by_cases h5:s.1=(5:Int)
 ·simp only[h5,Int.reduceEq,decide_true,decide_false]
  cases a0<;>cases b0<;>cases n0<;>cases e0<;>cases l0<;>rfl
 simp only[h1,h2,h3,h4,h5,decide_false]
 cases a0<;>cases b0<;>cases n0<;>cases e0<;>cases l0<;>rfl
theorem F.uy (tables:LTb) (ahead:LLC) (s:ah.D) (h_tables:Sm (Ty.sl ax) tables) (h_ahead:Sm (Ty.sl (Ty.sl ag)) ahead) (h_s:Sm ah s):F.gU tables ahead s=some (M.fJ tables ahead s):=by
 obtain⟨r,h1,_⟩:=yM h_tables h_ahead h_s
 unfold M.fJ
 rw[h1]
 rfl
theorem F.zH (ahead:(List Int)) (s:ah.D) (h_ahead:Sm (Ty.sl (Ty.int .i64)) ahead) (h_s:Sm ah s) (p0:M.fI (ahead.length:Int) s):F.ru ahead s=some (M.aP ahead s):=by
 unfold F.ru M.aP
 by_cases h1:s.1=(1:Int)
 ·simp only[h1,decide_true,cond_true]
 obtain⟨⟨a0,a1⟩,⟨b0,b1⟩⟩:=p0 h1
 rw[decide_eq_false h1]
 repeat rw[ai a0]
 repeat rw[ai a1]
 repeat rw[ai b0]
 repeat rw[ai b1]
 cases decide (s.1=(4:Int))<;>cases decide (s.1=(5:Int))<;>rfl
theorem F.Ab (tables:LTb) (plan:LS) (h_tables:Sm (Ty.sl ax) tables) (h_plan:Sm (Ty.sl ah) plan):F.tf tables plan=some (M.cY tables plan):=by
 unfold F.tf M.cY M.jt
 obtain⟨o,h1,h2⟩:=M.AU (f:=F.iH tables plan) (M.bQ tables) (fun t=>t) (fun n (st:fk)=>st.1.length=n/\st.2.length=n/\∀x∈st.1,x.length<=1048576) plan plan [] ([],[]) rfl ⟨rfl,rfl,fun x h=>by cases h⟩ (fun m st hm hI=>by
  obtain⟨l1,l2,hx⟩:=hI
  have hp:=h_plan.1
  have hc:Sm (.sl (.sl ag)) st.1:=⟨by omega,fun x h=>M.yD (hx x h)⟩
  have hstep:=aQ h_plan (m:Int)
  have hl6:=JN h_tables hc hstep
  unfold F.iH M.bQ
  rw[ai hc,bF,<-hl6]
  cases hb:(M.fJ tables st.1 (nth (t:=ah) plan (m:Int))).2 with
  | false=>exact⟨.inr (),rfl,rfl⟩
  | true=>
   rw[hb,cond_true] at hl6
   have hin:=M.mX hl6.symm
   have hsm:=M.xb h_tables hx hl6.symm
   have e12:(st.1.length:Int)=(st.2.length:Int):=by omega
   rw[e12] at hin
   simp only[Bool.not_true,cond_false,cond_true]
   rw[ai (by unfold lim;simp;omega),ai (show Sm (.sl (.int .i64)) st.2 from⟨by omega,fun x _=>trivial⟩),ai hin,ai (by unfold lim;simp;omega),ai (by simp;omega)]
   have hn:nth (t:=.int .i64) (st.2++[M.aP st.2 (nth (t:=ah) plan (m:Int))]) (m:Int)=M.aP st.2 (nth (t:=ah) plan (m:Int)):=by
    unfold nth
    rw[List.getD_eq_getElem?_getD]
    simp[<-l2]
   rw[hn]
   cases hd:decide ((300:Int)<M.aP st.2 (nth (t:=ah) plan (m:Int))) with
   | true=>exact⟨.inr (),rfl,rfl⟩
   | false=>
    refine⟨_,rfl,rfl,by simp[l1],by simp[l2],fun x h=>?_⟩
    rcases List.mem_append.1 h with h | h
    ·exact hx x h
    ·cases List.mem_singleton.1 h
     exact hsm)
 rw[show (aK (0:Int) (plan.length:Int))=aK ((([]:List ah.D).length:Nat):Int) (plan.length:Int) from rfl,h1]
 match o with
 | .inl st=>
  simp only at h2
  rw[h2.1]
  rfl
 | .inr _=>
  simp only at h2
  rw[h2]
  rfl
theorem F.qo (b:(List Int)) (p:Int) (tables:LTb) (h_b:Sm (Ty.sl (Ty.int .u8)) b) (h_tables:Sm (Ty.sl ax) tables) (p0:M.aq b) (p1:0<=p) (p2:p<=995000000000000) (p3:(∀t∈tables,M.iA t)):ok (F.jo b p tables) (fun r=>r.1.length<=6/\1<=r.1.length/\(∀s∈r.1,M.eS s)/\p<=r.2/\r.2<=p+100000):=by
  unfold F.jo
  have hE:=M.Fp (d:=(2:Int))
  have hE2:M.eB (2:Int)=27:=by decide
  refine okG ?_
  refine aA fun r1 h_1_3_0 h_1_3_1 h_1_3_2 h_1_3_3=>?_
  refine okG ?_
  refine okG ?_
  refine aA fun r2 h_2_1_0 h_2_1_1 h_2_1_2 h_2_1_3=>?_
  refine okT (A:=fun e0=>p<=e0.1/\e0.1<=p+16000/\e0.2.length<=6/\1<=e0.2.length/\(∀s∈e0.2,M.eS s)) (B:=fun q0=>p<=q0.1/\q0.1<=p+16000/\q0.2.length<=6/\1<=q0.2.length/\(∀s∈q0.2,M.eS s)) ?_ (fun e0 h_e0=>?_) (fun q0 h_q0=>?_)
  ·refine okW (fun(k:Nat) (v0:Int×Int×LS)=>0<=v0.1/\v0.1<=(k:Int)/\(v0.2.2.length:Int)+v0.1<=6/\1<=v0.2.2.length/\(∀s∈v0.2.2,M.eS s)/\p<=v0.2.1/\v0.2.1+3000 * v0.1<=p+16000) (fun k v0 hI=>?_) (6:Nat) _ ⟨au,au,au,au,au,au,au⟩
   obtain⟨i_0,i_1,i_2,i_3,i_4,i_5,i_6⟩:=hI
   unfold F.iT
   refine okD (fun c_11=>?_) (fun c_11=>?_)
   ·refine okG ?_ (M.qQ (n:=1000) (by first | omega | (simp only[List.length_append,List.length_cons,List.length_nil];omega)) (by exact cl) (by decide))
    refine okL fun r3 er3=>?_
    have k_a:=M.BD p3 er3
    refine okC (fun c_12=>?_) (fun c_12=>?_)
    ·exact Hu ⟨au,au,au,au,au⟩
    ·have l_a:=M.Dh er3 c_12
     have l_b:r3.1.length<=6:=by omega
     refine okG ?_
     refine okG ?_
     refine okG ?_
     refine aA fun r4 h_9_3_0 h_9_3_1 h_9_3_2 h_9_3_3=>?_
     have t_a:=M.Jv h_9_3_0 (h_9_3_1 (by decide)) (n:=(v0.2.2.length:Int)) (by omega) (by omega)
     refine okD (fun c_13=>?_) (fun c_13=>?_)
     ·refine okG ?_
      refine okG ?_
      refine aA fun r5 h_12_3_0 h_12_3_1 h_12_3_2 h_12_3_3=>?_
      refine okG ?_
      refine okG ?_
      refine aA fun r6 h_13_1_0 h_13_1_1 h_13_1_2 h_13_1_3=>?_
      refine okB (A:=fun e2=>v0.2.1<=e2.1/\e2.1<=v0.2.1+2000/\e2.2.2.2.2.2.1.length<=81/\(∀v∈e2.2.2.2.2.2.1,v.2.2.1.2.2.1.size<=20)/\e2.2.2.2.2.2.2.length<=3) ?_ (fun e2 h_e2=>?_)
      ·refine okW (fun(_:Nat) (_:Unit)=>True) (fun _ v2 _=>?_) 0 _ trivial
       unfold F.ee
       refine okD (fun c_3=>?_) (fun c_3=>?_)
       ·refine okG ?_
        refine okG ?_
        refine okG ?_ (M.lK rfl (M.lW k_a _) (by decide))
        refine okG ?_
        refine okG ?_
        refine okG ?_
        refine okG ?_
        refine okG ?_
        refine eC fun r7 h_15_6_0 h_15_6_1 h_15_6_2 h_15_6_3 h_15_6_4=>?_
        exact dD ⟨au,au,au,au,au⟩
       ·refine okD (fun c_4=>?_) (fun c_4=>?_)
        ·refine okG ?_
         refine okG ?_
         refine okG ?_
         refine aA fun r8 h_18_1_0 h_18_1_1 h_18_1_2 h_18_1_3=>?_
         refine okB (A:=fun e3=>v0.2.1<=e3.1/\e3.1<=v0.2.1+30/\e3.2.length<=3) ?_ (fun e3 h_e3=>?_)
         ·refine okW (fun(k:Nat) (v3:Int×Int×(List Int))=>0<=v3.1+1/\v3.1+1<=(k:Int)/\(v3.2.2.length:Int)+v3.1<=2/\v0.2.1<=v3.2.1/\v3.2.1+v3.1<=v0.2.1+20) (fun k v3 hI=>?_) (3:Nat) _ ⟨au,au,au,au,au⟩
          obtain⟨i_0,i_1,i_2,i_3,i_4⟩:=hI
          unfold F.fX
          refine FO (fun c_0=>?_) (fun c_0=>?_)
          ·refine okG ?_
           refine okG ?_
           refine okD (fun c_1=>?_) (fun c_1=>?_)
           ·refine okG ?_
            refine okG ?_
            refine okG ?_
            refine aA fun r9 h_21_8_0 h_21_8_1 h_21_8_2 h_21_8_3=>?_
            refine okG ?_ (by simp only[List.length_cons,List.length_nil,List.length_append,lim];omega)
            exact fK ⟨k-1,by omega,au,au,au,au,au⟩
           ·exact dD ⟨au,au,au⟩
          ·exact dD ⟨au,au,au⟩
         ·obtain⟨e3_0,e3_1,e3_2⟩:=h_e3
          exact dD ⟨au,au,au,au,au⟩
        ·refine okD (fun c_5=>?_) (fun c_5=>?_)
         ·refine okG ?_
          refine okG ?_
          refine okG ?_
          refine aA fun r10 h_24_2_0 h_24_2_1 h_24_2_2 h_24_2_3=>?_
          refine okG ?_
          refine okG ?_
          refine okG ?_
          refine okG ?_
          refine okG ?_ (M.jl1 k_a)
          refine okG ?_ (M.jl2 k_a)
          refine okD (fun c_6=>?_) (fun c_6=>?_)
          ·refine okG ?_ (M.jl3 k_a)
           refine okG ?_
           refine okG ?_
           refine okG ?_
           refine okG ?_
           refine eC fun r11 h_27_4_0 h_27_4_1 h_27_4_2 h_27_4_3 h_27_4_4=>?_
           exact dD ⟨au,au,au,au,au⟩
          ·exact dD ⟨au,au,au,au,au⟩
         ·refine okD (fun c_7=>?_) (fun c_7=>?_)
          ·refine okG ?_
           refine okG ?_
           refine okG ?_
           refine aA fun r10 h_24_2_0 h_24_2_1 h_24_2_2 h_24_2_3=>?_
           refine okG ?_
           refine okG ?_
           refine okG ?_
           refine okG ?_
           refine okG ?_ (M.jl1 k_a)
           refine okG ?_ (M.jl2 k_a)
           refine okD (fun c_8=>?_) (fun c_8=>?_)
           ·refine okG ?_ (M.jl3 k_a)
            refine okG ?_
            refine okG ?_
            refine okG ?_
            refine okG ?_
            refine eC fun r11 h_27_4_0 h_27_4_1 h_27_4_2 h_27_4_3 h_27_4_4=>?_
            exact dD ⟨au,au,au,au,au⟩
           ·exact dD ⟨au,au,au,au,au⟩
          ·refine okD (fun c_9=>?_) (fun c_9=>?_)
           ·refine okG ?_ (by unfold ew;omega)
            refine okT (A:=fun v5=>(0:Int)<=0/\(0:Int)<=0) (B:=fun _=>False) ?_ (fun v5 h_v5=>?_) (fun _ h=>h.elim)
            ·refine Jm (fun(k:Nat) (v5:Int×Int×Int×Int)=>(0:Int)<=0/\(0:Int)<=0) ⟨au,au⟩ (fun z5 hz k v5 hk hI=>?_)
             obtain⟨i_0,i_1⟩:=hI
             unfold F.ga
             refine okG ?_ (M.Cg l_b k_a (by decide))
             refine okL fun r12 er12=>?_
             refine okC (fun c_2=>?_) (fun c_2=>?_)
             ·exact fK ⟨au,au⟩
             ·exact fK ⟨au,au⟩
            ·obtain⟨v5_0,v5_1⟩:=h_v5
             exact dD ⟨au,au,au,au,au⟩
           ·refine okD (fun c_10=>?_) (fun c_10=>?_)
            ·exact dD ⟨au,au,au,au,au⟩
            ·exact dD ⟨au,au,au,au,au⟩
      ·obtain⟨e2_0,e2_1,e2_2,e2_3,e2_4⟩:=h_e2
       refine okG ?_ (by simp only[List.length_cons,List.length_nil,List.length_append,lim];omega)
       refine okG ?_ (by simp only[List.length_cons,List.length_nil,List.length_append,lim];omega)
       refine okG ?_ (M.qQ (n:=1000) (by first | omega | (simp only[List.length_append,List.length_cons,List.length_nil];omega)) (by exact cl) (by decide))
       refine okL fun r13 er13=>?_
       refine okC (fun c_14=>?_) (fun c_14=>?_)
       ·refine okG ?_ (by simp only[List.length_cons,List.length_nil,List.length_append,lim];omega)
        exact fK ⟨k-1,by omega,au,au,au,au,au,au,au⟩
       ·exact fK ⟨k-1,by omega,au,au,au,au,au,au,au⟩
     ·refine okG ?_
      refine okG ?_
      refine aA fun r5 h_12_3_0 h_12_3_1 h_12_3_2 h_12_3_3=>?_
      refine okG ?_
      refine okG ?_
      refine aA fun r6 h_13_1_0 h_13_1_1 h_13_1_2 h_13_1_3=>?_
      refine okB (A:=fun e2=>v0.2.1<=e2.1/\e2.1<=v0.2.1+2000/\e2.2.2.2.2.2.1.length<=81/\(∀v∈e2.2.2.2.2.2.1,v.2.2.1.2.2.1.size<=20)/\e2.2.2.2.2.2.2.length<=3) ?_ (fun e2 h_e2=>?_)
      ·refine okW (fun(_:Nat) (_:Unit)=>True) (fun _ v2 _=>?_) 0 _ trivial
       unfold F.ee
       refine okD (fun c_3=>?_) (fun c_3=>?_)
       ·refine okG ?_
        refine okG ?_
        refine okG ?_ (M.lK rfl (M.lW k_a _) (by decide))
        refine okG ?_
        refine okG ?_
        refine okG ?_
        refine okG ?_
        refine okG ?_
        refine eC fun r7 h_15_6_0 h_15_6_1 h_15_6_2 h_15_6_3 h_15_6_4=>?_
        exact dD ⟨au,au,au,au,au⟩
       ·refine okD (fun c_4=>?_) (fun c_4=>?_)
        ·refine okG ?_
         refine okG ?_
         refine okG ?_
         refine aA fun r8 h_18_1_0 h_18_1_1 h_18_1_2 h_18_1_3=>?_
         refine okB (A:=fun e3=>v0.2.1<=e3.1/\e3.1<=v0.2.1+30/\e3.2.length<=3) ?_ (fun e3 h_e3=>?_)
         ·refine okW (fun(k:Nat) (v3:Int×Int×(List Int))=>0<=v3.1+1/\v3.1+1<=(k:Int)/\(v3.2.2.length:Int)+v3.1<=2/\v0.2.1<=v3.2.1/\v3.2.1+v3.1<=v0.2.1+20) (fun k v3 hI=>?_) (3:Nat) _ ⟨au,au,au,au,au⟩
          obtain⟨i_0,i_1,i_2,i_3,i_4⟩:=hI
          unfold F.fX
          refine FO (fun c_0=>?_) (fun c_0=>?_)
          ·refine okG ?_
           refine okG ?_
           refine okD (fun c_1=>?_) (fun c_1=>?_)
           ·refine okG ?_
            refine okG ?_
            refine okG ?_
            refine aA fun r9 h_21_8_0 h_21_8_1 h_21_8_2 h_21_8_3=>?_
            refine okG ?_ (by simp only[List.length_cons,List.length_nil,List.length_append,lim];omega)
            exact fK ⟨k-1,by omega,au,au,au,au,au⟩
           ·exact dD ⟨au,au,au⟩
          ·exact dD ⟨au,au,au⟩
         ·obtain⟨e3_0,e3_1,e3_2⟩:=h_e3
          exact dD ⟨au,au,au,au,au⟩
        ·refine okD (fun c_5=>?_) (fun c_5=>?_)
         ·refine okG ?_
          refine okG ?_
          refine okG ?_
          refine aA fun r10 h_24_2_0 h_24_2_1 h_24_2_2 h_24_2_3=>?_
          refine okG ?_
          refine okG ?_
          refine okG ?_
          refine okG ?_
          refine okG ?_ (M.jl1 k_a)
          refine okG ?_ (M.jl2 k_a)
          refine okD (fun c_6=>?_) (fun c_6=>?_)
          ·refine okG ?_ (M.jl3 k_a)
           refine okG ?_
           refine okG ?_
           refine okG ?_
           refine okG ?_
           refine eC fun r11 h_27_4_0 h_27_4_1 h_27_4_2 h_27_4_3 h_27_4_4=>?_
           exact dD ⟨au,au,au,au,au⟩
          ·exact dD ⟨au,au,au,au,au⟩
         ·refine okD (fun c_7=>?_) (fun c_7=>?_)
          ·refine okG ?_
           refine okG ?_
           refine okG ?_
           refine aA fun r10 h_24_2_0 h_24_2_1 h_24_2_2 h_24_2_3=>?_
           refine okG ?_
           refine okG ?_
           refine okG ?_
           refine okG ?_
           refine okG ?_ (M.jl1 k_a)
           refine okG ?_ (M.jl2 k_a)
           refine okD (fun c_8=>?_) (fun c_8=>?_)
           ·refine okG ?_ (M.jl3 k_a)
            refine okG ?_
            refine okG ?_
            refine okG ?_
            refine okG ?_
            refine eC fun r11 h_27_4_0 h_27_4_1 h_27_4_2 h_27_4_3 h_27_4_4=>?_
            exact dD ⟨au,au,au,au,au⟩
           ·exact dD ⟨au,au,au,au,au⟩
          ·refine okD (fun c_9=>?_) (fun c_9=>?_)
           ·refine okG ?_ (by unfold ew;omega)
            refine okT (A:=fun v5=>(0:Int)<=0/\(0:Int)<=0) (B:=fun _=>False) ?_ (fun v5 h_v5=>?_) (fun _ h=>h.elim)
            ·refine Jm (fun(k:Nat) (v5:Int×Int×Int×Int)=>(0:Int)<=0/\(0:Int)<=0) ⟨au,au⟩ (fun z5 hz k v5 hk hI=>?_)
             obtain⟨i_0,i_1⟩:=hI
             unfold F.ga
             refine okG ?_ (M.Cg l_b k_a (by decide))
             refine okL fun r12 er12=>?_
             refine okC (fun c_2=>?_) (fun c_2=>?_)
             ·exact fK ⟨au,au⟩
             ·exact fK ⟨au,au⟩
            ·obtain⟨v5_0,v5_1⟩:=h_v5
             exact dD ⟨au,au,au,au,au⟩
           ·refine okD (fun c_10=>?_) (fun c_10=>?_)
            ·exact dD ⟨au,au,au,au,au⟩
            ·exact dD ⟨au,au,au,au,au⟩
      ·obtain⟨e2_0,e2_1,e2_2,e2_3,e2_4⟩:=h_e2
       refine okG ?_ (by simp only[List.length_cons,List.length_nil,List.length_append,lim];omega)
       refine okG ?_ (by simp only[List.length_cons,List.length_nil,List.length_append,lim];omega)
       refine okG ?_ (M.qQ (n:=1000) (by first | omega | (simp only[List.length_append,List.length_cons,List.length_nil];omega)) (by exact cl) (by decide))
       refine okL fun r13 er13=>?_
       refine okC (fun c_15=>?_) (fun c_15=>?_)
       ·refine okG ?_ (by simp only[List.length_cons,List.length_nil,List.length_append,lim];omega)
        exact fK ⟨k-1,by omega,au,au,au,au,au,au,au⟩
       ·exact fK ⟨k-1,by omega,au,au,au,au,au,au,au⟩
   ·exact Em ⟨au,au,au,au,au⟩
  ·obtain⟨e0_0,e0_1,e0_2,e0_3,e0_4⟩:=h_e0
   exact qv
  ·obtain⟨q0_0,q0_1,q0_2,q0_3,q0_4⟩:=h_q0
   exact qv
theorem F.xy (b:(List Int)) (p:Int) (tables:LTb) (h_b:Sm (Ty.sl (Ty.int .u8)) b) (h_tables:Sm (Ty.sl ax) tables) (p0:M.aq b) (p1:0<=p) (p2:p<=995000000000000) (p3:(∀t∈tables,M.iA t)):F.jo b p tables=some (M.kg b p tables):=ig (F.qo b p tables h_b h_tables p0 p1 p2 p3)
theorem M.BF (b:(List Int)) (p:Int) (tables:LTb) (h_b:Sm (Ty.sl (Ty.int .u8)) b) (h_tables:Sm (Ty.sl ax) tables) (p0:M.aq b) (p1:0<=p) (p2:p<=995000000000000) (p3:(∀t∈tables,M.iA t)):(M.kg b p tables).1.length<=6/\1<=(M.kg b p tables).1.length/\(∀s∈(M.kg b p tables).1,M.eS s)/\p<=(M.kg b p tables).2/\(M.kg b p tables).2<=p+100000:=iq (F.qo b p tables h_b h_tables p0 p1 p2 p3)
theorem vI {α:Type} {K:α->Prop} {f:LS×Int->Option α} {b:(List Int)} {p:Int} {tables:LTb} (k:∀r,(r.1.length<=6)->(1<=r.1.length)->(∀s∈r.1,M.eS s)->(p<=r.2)->(r.2<=p+100000)->ok (f r) K) (h_b:Sm (Ty.sl (Ty.int .u8)) b:=by exact au) (h_tables:Sm (Ty.sl ax) tables:=by exact au) (p0:M.aq b:=by exact au) (p1:0<=p:=by exact au) (p2:p<=995000000000000:=by exact au) (p3:(∀t∈tables,M.iA t):=by exact au):ok (aJ (M.kg b p tables) f) K:=by
 have h:=M.BF b p tables h_b h_tables p0 p1 p2 p3
 obtain⟨h0,h1,h2,h3,h4⟩:=h
 exact k _ h0 h1 h2 h3 h4
theorem F.qn (b:(List Int)) (p:Int) (n:Int) (h_b:Sm (Ty.sl (Ty.int .u8)) b) (p0:M.aq b) (p1:0<=p) (p2:p<=994000000000000):ok (F.jy b p n) (fun r=>r.1.length<=6/\1<=r.1.length/\(∀t∈r.1,M.iA t)/\r.2.1.length<=6/\(∀s∈r.2.1,M.eS s)/\p<=r.2.2/\r.2.2<=p+200000):=by
  unfold F.jy
  refine okG ?_
  refine mI fun r1 h_1_1_0 h_1_1_1 h_1_1_2 h_1_1_3 h_1_1_4 h_1_1_5 h_1_1_6=>?_
  have q_a:=h_1_1_5 (by decide)
  have q_b:=h_1_1_6 (by decide)
  refine okG ?_
  refine okG ?_
  refine okG ?_
  refine okG ?_
  refine vI fun r2 h_2_2_0 h_2_2_1 h_2_2_2 h_2_2_3 h_2_2_4=>?_
  refine okG ?_
  refine okG ?_
  refine jq fun r3 h_3_2_0 h_3_2_1 h_3_2_2=>?_
  refine okC (fun c_0=>?_) (fun c_0=>?_)
  ·refine okG ?_
   refine okG ?_
   refine aA fun r4 h_4_1_0 h_4_1_1 h_4_1_2 h_4_1_3=>?_
   refine okD (fun c_1=>?_) (fun c_1=>?_)
   ·exact BS
   ·refine okD (fun c_2=>?_) (fun c_2=>?_)
    ·refine okG ?_
     refine okG ?_
     refine aA fun r5 h_9_4_0 h_9_4_1 h_9_4_2 h_9_4_3=>?_
     refine okG ?_
     refine okG ?_
     refine aA fun r6 h_9_6_0 h_9_6_1 h_9_6_2 h_9_6_3=>?_
     have s_a:=M.JO (k:=r5.1.toNat) (i:=r5.1) (v:=wrap64 (r6.1-(1:Int))) h_2_2_2
     refine okG ?_
     refine okG ?_
     refine okL fun y1 ey1=>?_
     subst ey1
     exact BS
    ·refine okD (fun c_3=>?_) (fun c_3=>?_)
     ·refine okG ?_
      refine okG ?_
      refine aA fun r7 h_11_4_0 h_11_4_1 h_11_4_2 h_11_4_3=>?_
      refine okG ?_
      refine okG ?_
      refine aA fun r8 h_11_6_0 h_11_6_1 h_11_6_2 h_11_6_3=>?_
      have s_b:=M.JD (k:=r7.1.toNat) (i:=r7.1) (v:=r8.1) h_2_2_2
      refine okG ?_
      refine okG ?_
      exact BS
     ·refine okG ?_
      refine okG ?_
      refine mI fun r9 h_5_1_0 h_5_1_1 h_5_1_2 h_5_1_3 h_5_1_4 h_5_1_5 h_5_1_6=>?_
      exact BS
  ·exact BS
theorem F.xg (b:(List Int)) (p:Int) (n:Int) (h_b:Sm (Ty.sl (Ty.int .u8)) b) (p0:M.aq b) (p1:0<=p) (p2:p<=994000000000000):F.jy b p n=some (M.gE b p n):=ig (F.qn b p n h_b p0 p1 p2)
theorem M.Ck (b:(List Int)) (p:Int) (n:Int) (h_b:Sm (Ty.sl (Ty.int .u8)) b) (p0:M.aq b) (p1:0<=p) (p2:p<=994000000000000):(M.gE b p n).1.length<=6/\1<=(M.gE b p n).1.length/\(∀t∈(M.gE b p n).1,M.iA t)/\(M.gE b p n).2.1.length<=6/\(∀s∈(M.gE b p n).2.1,M.eS s)/\p<=(M.gE b p n).2.2/\(M.gE b p n).2.2<=p+200000:=iq (F.qn b p n h_b p0 p1 p2)
theorem oz {α:Type} {K:α->Prop} {f:LTb×LS×Int->Option α} {b:(List Int)} {p:Int} {n:Int} (k:∀r,(r.1.length<=6)->(1<=r.1.length)->(∀t∈r.1,M.iA t)->(r.2.1.length<=6)->(∀s∈r.2.1,M.eS s)->(p<=r.2.2)->(r.2.2<=p+200000)->ok (f r) K) (h_b:Sm (Ty.sl (Ty.int .u8)) b:=by exact au) (p0:M.aq b:=by exact au) (p1:0<=p:=by exact au) (p2:p<=994000000000000:=by exact au):ok (aJ (M.gE b p n) f) K:=by
 have h:=M.Ck b p n h_b p0 p1 p2
 obtain⟨h0,h1,h2,h3,h4,h5,h6⟩:=h
 exact k _ h0 h1 h2 h3 h4 h5 h6
theorem F.kM (code:(List Int)) (h_code:Sm (Ty.sl (Ty.int .u8)) code) (p0:M.aq code):ok (F.eZ code) (fun r=>r.1.length<=6/\1<=r.1.length/\(∀t∈r.1,M.iA t)/\r.2.length<=6/\(∀s∈r.2,M.eS s)):=by
  unfold F.eZ
  refine okD (fun c_0=>?_) (fun c_0=>?_)
  ·refine okG ?_
   refine okG ?_
   refine okG ?_
   refine okG ?_
   refine okG ?_
   refine oz fun r1 h_1_2_0 h_1_2_1 h_1_2_2 h_1_2_3 h_1_2_4 h_1_2_5 h_1_2_6=>?_
   exact qv
  ·refine okG ?_
   refine okG ?_
   refine oz fun r1 h_1_2_0 h_1_2_1 h_1_2_2 h_1_2_3 h_1_2_4 h_1_2_5 h_1_2_6=>?_
   exact qv
theorem F.qG (code:(List Int)) (h_code:Sm (Ty.sl (Ty.int .u8)) code) (p0:M.aq code):F.eZ code=some (M.de code):=ig (F.kM code h_code p0)
theorem M.nq (code:(List Int)) (h_code:Sm (Ty.sl (Ty.int .u8)) code) (p0:M.aq code):(M.de code).1.length<=6/\1<=(M.de code).1.length/\(∀t∈(M.de code).1,M.iA t)/\(M.de code).2.length<=6/\(∀s∈(M.de code).2,M.eS s):=iq (F.kM code h_code p0)
theorem Cv {α:Type} {K:α->Prop} {f:LTb×LS->Option α} {code:(List Int)} (k:∀r,(r.1.length<=6)->(1<=r.1.length)->(∀t∈r.1,M.iA t)->(r.2.length<=6)->(∀s∈r.2,M.eS s)->ok (f r) K) (h_code:Sm (Ty.sl (Ty.int .u8)) code:=by exact au) (p0:M.aq code:=by exact au):ok (aJ (M.de code) f) K:=by
 have h:=M.nq code h_code p0
 obtain⟨h0,h1,h2,h3,h4⟩:=h
 exact k _ h0 h1 h2 h3 h4
theorem F.si (c:ag.D)  : F.oE c=some (!M.ez c):=by
 rfl
theorem F.kU (xs:LC) (h_xs:Sm (Ty.sl ag) xs):F.gZ xs=some (M.idx (t:=ag) (fun e=>!M.ez e) xs):=by
 exact jF (t:=ag) (p:=(fun e=>!M.ez e)) (fun i h0 h1=>by simp only[F.cJ,dn])
theorem F.jm (xs:LC) (h_xs:Sm (Ty.sl ag) xs):F.dR xs=some (List.any xs (fun e=>!M.ez e)):=by
 unfold F.dR
 exact gf (t:=ag)
theorem F.uc (columns:LC) (h_columns:Sm (Ty.sl ag) columns):F.mE columns=some (M.bD columns):=by
 unfold F.mE M.bD
 rw[jT,show decide ((columns.length:Int)<=4)=decide (columns.length<=4) from decide_eq_decide.2 (by omega)]
 rw[List.all_eq_not_any_not]
theorem F.xu (v:af.D) (h_v:Sm af v):F.uq v=some (!M.aR v):=by
 rfl
theorem F.mV (xs:LV) (h_xs:Sm (Ty.sl af) xs):F.jw xs=some (M.idx (t:=af) (fun e=>!M.aR e) xs):=by
 exact jF (t:=af) (p:=(fun e=>!M.aR e)) (fun i h0 h1=>by simp only[F.dy,dn])
theorem F.lF (xs:LV) (h_xs:Sm (Ty.sl af) xs):F.eR xs=some (List.any xs (fun e=>!M.aR e)):=by
 unfold F.eR
 exact gf (t:=af)
theorem F.Av (row:LV) (h_row:Sm (Ty.sl af) row):F.sF row=some (M.oU row):=by
 unfold F.sF M.oU
 rw[jT,show decide ((row.length:Int)<=4)=decide (row.length<=4) from decide_eq_decide.2 (by omega)]
 rw[List.all_eq_not_any_not]
theorem F.xQ (columns:LC) (row:LV) (h_columns:Sm (Ty.sl ag) columns) (h_row:Sm (Ty.sl af) row):F.qc columns row=some (M.cw columns row):=by
 unfold F.qc M.cw
 cases M.bD columns
 ·rfl
 cases M.oU row
 ·rfl
 by_cases hl:row.length=columns.length
 ·rw[jz (M.tn columns row) () (fun i hi=>by
   obtain⟨h0,h1⟩:=eJ.1 hi
   have h2:i<(columns.length:Int):=by omega
   simp only[F.iS,ai h2]
   unfold M.tn
   cases decide ((nth (t:=af) row i).1=(nth (t:=ag) columns i).1)<;>cases decide ((nth (t:=af) row i).1=(0:Int))<;>cases (nth (t:=ag) columns i).2.1<;>rfl)]
  simp only[hl,Bool.not_true,decide_true,Bool.true_and,cond_true,cond_false]
  cases (aK 0 (columns.length:Int)).all (M.tn columns row)<;>rfl
 ·have h3:¬(row.length:Int)=(columns.length:Int):=by omega
  simp[hl,h3]
theorem F.wq (r:LV) (columns:LC) (h_r:Sm (Ty.sl af) r) (h_columns:Sm (Ty.sl ag) columns):F.sA r columns=some (!M.cw columns r):=by
 rfl
theorem F.mM (xs:LLV) (k0:LC) (h_xs:Sm (Ty.sl (Ty.sl af)) xs) (h_k0:Sm (Ty.sl ag) k0):F.jb xs k0=some (M.idx (t:=(Ty.sl af)) (fun e=>!M.cw k0 e) xs):=by
 exact jF (t:=(Ty.sl af)) (p:=(fun e=>!M.cw k0 e)) (fun i h0 h1=>by simp only[F.dj,dn])
theorem F.kT (xs:LLV) (k0:LC) (h_xs:Sm (Ty.sl (Ty.sl af)) xs) (h_k0:Sm (Ty.sl ag) k0):F.eL xs k0=some (List.any xs (fun e=>!M.cw k0 e)):=by
 unfold F.eL
 exact gf (t:=(Ty.sl af))
theorem F.yj (columns:LC) (rows:LLV) (h_columns:Sm (Ty.sl ag) columns) (h_rows:Sm (Ty.sl (Ty.sl af)) rows):F.qN columns rows=some (M.gN columns rows):=by
 unfold F.qN M.gN
 rw[jT,List.all_eq_not_any_not]
theorem F.tC (t:ax.D) (h_t:Sm ax t):F.lg t=some (!M.dz t):=by
 unfold F.lg M.dz
 cases hc:M.bD t.1
 ·have:M.gN t.1 t.2.1=false:=by unfold M.gN;rw[hc];rfl
  rw[this]
  simp
 by_cases h:t.2.1.length<=6
 ·have h2:¬(6:Int)<(t.2.1.length:Int):=by omega
  simp[h2,h]
 ·have h2:(6:Int)<(t.2.1.length:Int):=by omega
  simp[h2,h]
theorem F.kX (xs:LTb) (h_xs:Sm (Ty.sl ax) xs):F.iy xs=some (M.idx (t:=ax) (fun e=>!M.dz e) xs):=by
 exact jF (t:=ax) (p:=(fun e=>!M.dz e)) (fun i h0 h1=>by simp only[F.cP,dn])
theorem F.jG (xs:LTb) (h_xs:Sm (Ty.sl ax) xs):F.eg xs=some (List.any xs (fun e=>!M.dz e)):=by
 unfold F.eg
 exact gf (t:=ax)
theorem F.vo (tables:LTb) (h_tables:Sm (Ty.sl ax) tables):F.nN tables=some (M.cO tables):=by
 unfold F.nN M.cO
 rw[jT,show decide ((tables.length:Int)<=3)=decide (tables.length<=3) from decide_eq_decide.2 (by omega)]
 rw[List.all_eq_not_any_not]
theorem F.sJ (p:aE.D) (h_p:Sm aE p):F.lq p=some (M.takes p):=by
 unfold F.lq M.takes
 generalize decide (p.1=(3:Int))=c3
 generalize decide (p.1=(4:Int))=c4
 generalize decide (p.1=(5:Int))=c5
 generalize decide (p.1=(6:Int))=c6
 generalize decide (p.1=(7:Int))=c7
 generalize decide (p.1=(8:Int))=c8
 cases c3<;>cases c4<;>cases c5<;>cases c6<;>cases c7<;>cases c8<;>rfl
theorem F.sB (p:aE.D) (columns:LC) (h_p:Sm aE p) (h_columns:Sm (Ty.sl ag) columns):F.lD p columns=some (M.lI p columns):=by
 unfold F.lD M.lI M.noV
 rw[fE _ h_columns.1]
 simp only[jT,show Ty.beq af p.2.2.1 ((0:Int),(0:Int),(⟨#[]⟩:ByteArray),())=Ty.beq af p.2.2.1 M.zeroV from rfl]
 generalize Ty.beq af p.2.2.1 M.zeroV=nv
 by_cases e1:p.1=(1:Int)
 ·simp only[e1,decide_true,cond_true]
 by_cases e2:p.1=(2:Int)
 ·simp only[e2,decide_true,cond_true,Int.reduceEq,decide_false,cond_false]
 by_cases e4:p.1=(4:Int)
 ·simp only[e4,decide_true,cond_true,Int.reduceEq,decide_false,cond_false]
 by_cases e3:p.1=(3:Int)
 ·simp only[e3,decide_true,cond_true,Int.reduceEq,decide_false,cond_false]
  rfl
 by_cases e5:p.1=(5:Int)
 ·simp only[e5,decide_true,cond_true,Int.reduceEq,decide_false,cond_false]
  rfl
 by_cases e6:p.1=(6:Int)
 ·simp only[e6,decide_true,cond_true,Int.reduceEq,decide_false,cond_false]
  rfl
 by_cases e7:p.1=(7:Int)
 ·simp only[e7,decide_true,cond_true,Int.reduceEq,decide_false,cond_false]
  rfl
 by_cases e8:p.1=(8:Int)
 ·simp only[e8,decide_true,cond_true,Int.reduceEq,decide_false,cond_false]
  rfl
 simp only[e1,e2,e3,e4,e5,e6,e7,e8,decide_false,cond_false,FD e3 e4 e5 e6 e7 e8]
theorem F.qu (k:Int) (kind:Int)  : F.mo k kind=some (!decide (k=kind)):=by
 rfl
theorem F.jH (xs:(List Int)) (k0:Int) (h_xs:Sm (Ty.sl (Ty.int .i64)) xs):F.gb xs k0=some (M.idx (t:=(Ty.int .i64)) (fun e=>!decide (e=k0)) xs):=by
 exact jF (t:=(Ty.int .i64)) (p:=(fun e=>!decide (e=k0))) (fun i h0 h1=>by simp only[F.cu,dn])
theorem F.iX (xs:(List Int)) (k0:Int) (h_xs:Sm (Ty.sl (Ty.int .i64)) xs):F.dx xs k0=some (List.any xs (fun e=>!decide (e=k0))):=by
 unfold F.dx
 exact gf (t:=(Ty.int .i64))
theorem F.rW (kind:Int) (ins:(List Int)) (h_ins:Sm (Ty.sl (Ty.int .i64)) ins):F.jR kind ins=some (List.all ins (fun k=>decide (k=kind))):=by
 unfold F.jR
 rw[List.all_eq_not_any_not]
theorem F.ve (p:aE.D) (columns:LC) (inp:(List Int)) (h_p:Sm aE p) (h_columns:Sm (Ty.sl ag) columns) (h_inp:Sm (Ty.sl (Ty.int .i64)) inp) (p0:M.lI p columns=true) (p1:(inp.length:Int)=M.takes p):F.mu p columns inp=some (M.cK p columns inp):=by
 unfold F.mu M.cK
 obtain⟨_,hc⟩:=yf p0
 by_cases e1:p.1=(1:Int)
 ·simp only[e1,decide_true,cond_true]
 by_cases e2:p.1=(2:Int)
 ·obtain⟨c0,c1⟩:=hc e2
  simp only[e2,decide_true,cond_true,Int.reduceEq,decide_false,cond_false]
  rw[ai c0,ai c1]
 by_cases e4:p.1=(4:Int)
 ·rw[jY (.inr (.inl e4))] at p1
  simp only[e4,decide_true,cond_true,Int.reduceEq,decide_false,cond_false]
  repeat rw[ai (by omega)]
 cases decide (p.1=(3:Int))<;>cases decide (p.1=(8:Int))<;>simp[e1,e2,e4]
theorem F.wk (columns:LC) (e:LPt) (h_columns:Sm (Ty.sl ag) columns) (h_e:Sm (Ty.sl aE) e):F.nU columns e=some (M.cW columns e):=by
 unfold F.nU M.cW
 cases M.bD columns
 ·rfl
 by_cases hl:e.length<=12
 ·rw[decide_eq_false (show ¬(12:Int)<(e.length:Int) by omega),decide_eq_true hl]
  rw[sk e [] (by simp;omega)]
  cases M.ji columns e [] with
  | none=>rfl
  | some s=>
   match s with
   | []=>rfl
   | [a]=>exact ai (by simp)
   | a::b::l=>
    have:¬((a::b::l).length:Int)=1:=by simp;omega
    simp only[this,decide_false]
    rfl
 ·rw[decide_eq_true (show (12:Int)<(e.length:Int) by omega),decide_eq_false hl]
  rfl
theorem F.vJ (xs:LC) (h_xs:Sm (Ty.sl ag) xs):F.so xs=some xs:=by
 exact M.rP (t:=ag)
theorem F.th (s:ah.D) (h_s:Sm ah s):F.lf s=some (M.bJ s):=by
 unfold F.lf M.bJ M.two
 generalize decide (s.2.1=(0:Int))=a0
 generalize decide (s.2.2.1=(0:Int))=b0
 generalize decide (s.2.2.2.1=(0:Int))=n0
 generalize decide ((s.2.2.2.2.1.length:Int)=(0:Int))=e0
 generalize decide ((s.2.2.2.2.2.1.length:Int)=(0:Int))=l0
 by_cases h1:s.1=(1:Int)
 ·simp only[h1,Int.reduceEq,decide_true,decide_false]
  cases a0<;>cases b0<;>cases n0<;>cases e0<;>cases l0<;>rfl
 by_cases h2:s.1=(2:Int)
 ·simp only[h2,Int.reduceEq,decide_true,decide_false]
  cases a0<;>cases b0<;>cases n0<;>cases e0<;>cases l0<;>rfl
 by_cases h3:s.1=(3:Int)
 ·simp only[h3,Int.reduceEq,decide_true,decide_false]
  cases a0<;>cases b0<;>cases n0<;>cases e0<;>cases l0<;>rfl
 by_cases h4:s.1=(4:Int)
 ·simp only[h4,Int.reduceEq,decide_true,decide_false]
  cases a0<;>cases b0<;>cases n0<;>cases e0<;>cases l0<;>rfl
 by_cases h5:s.1=(5:Int)
 ·simp only[h5,Int.reduceEq,decide_true,decide_false]
  cases a0<;>cases b0<;>cases n0<;>cases e0<;>cases l0<;>rfl
 simp only[h1,h2,h3,h4,h5,decide_false]
 cases a0<;>cases b0<;>cases n0<;>cases e0<;>cases l0<;>rfl
theorem F.xM (n:Int) (p0:0<=n) (p1:n<=1099511627776):F.oZ n=some ([]:List ag.D):=by
 unfold F.oZ
 have e:wrap64 (n-wrap64 ((0:Int)-(0:Int)))=n:=by
  rw[show wrap64 ((0:Int)-(0:Int))=0 by decide,Int.sub_zero]
  exact aI (by omega) (by omega)
 rw[decide_eq_false (by omega),e]
 by_cases h:0<n
 ·rw[decide_eq_true h]
  simp only[cond_true,cond_false]
  rw[ai p0,ai (by unfold lim;omega)]
  rfl
 ·rw[decide_eq_false h]
  rfl
theorem F.uU (xss:LLC) (h_xss:Sm (Ty.sl (Ty.sl ag)) xss):F.mU xss=some (List.flatten xss):=by
 unfold F.mU
 exact M.tg (t:=ag) h_xss (fun z v h0 h1=>by
  unfold F.gG
  rw[aI (n:=v+(z.length:Int)) (by omega) (by omega),decide_eq_false (by omega)]
  rfl) (fun z v h1=>by
  unfold F.gu
  rw[ai (by unfold lim;omega)])
theorem F.tX (s:ah.D) (tables:LTb) (ahead:(List aF.D)) (h_s:Sm ah s) (h_tables:Sm (Ty.sl ax) tables) (h_ahead:Sm (Ty.sl aF) ahead):F.gL s tables ahead=some (M.make s tables ahead):=by
 obtain⟨r,h1,_⟩:=tT h_s h_tables h_ahead
 unfold M.make
 rw[h1]
 rfl
theorem F.zZ (tables:LTb) (plan:LS) (h_tables:Sm (Ty.sl ax) tables) (h_plan:Sm (Ty.sl ah) plan):F.mw tables plan=some (M.makes tables plan):=by
 obtain⟨r,h1,_⟩:=su h_tables h_plan
 unfold M.makes
 rw[h1]
 rfl
theorem F.zM (tables:LTb) (plan:LS) (h_tables:Sm (Ty.sl ax) tables) (h_plan:Sm (Ty.sl ah) plan):F.qO tables plan=some (M.bC tables plan):=by
 unfold F.qO
 rw[bF]
 exact congrArg some (HP h_tables h_plan)
theorem F.Au (plan:LS) (h_plan:Sm (Ty.sl ah) plan) (p0:M.iW plan):F.tr plan=some (M.cn plan):=by
 unfold F.tr M.cn
 have hl:=h_plan.1
 have hw:wrap64 ((plan.length:Int)-(1:Int))=(plan.length:Int)-1:=fE _ hl
 have h0:=p0.1
 rw[hw,ai (by omega),ai (by simp;omega),bF]
 have e1:(plan.length:Int).toNat=plan.length:=by simp
 have e2:((plan.length:Int)-1).toNat=plan.length-1:=by omega
 rw[e1,e2,(M.sD (M.bu plan) (fun u:List Bool=>u.length=plan.length) plan.length (fun k u k0 k1 hI=>by
   refine⟨?_,by rw[M.lU];exact hI⟩
   unfold F.kz M.bu
   have hin:=p0.2 k k0 k1
   have hu:k<(u.length:Int):=by rw[hI];exact k1
   simp only
   rw[decide_eq_true k0,cond_true,ai k0,ai k1,ai hu,aI (n:=k-1) (by omega) (by omega)]
   cases nth (t:=.bool) u k
   ·rfl
   by_cases h1:(nth (t:=ah) plan k).1=(1:Int)
   ·rw[decide_eq_true h1]
    rfl
   obtain⟨⟨a0,a1⟩,⟨b0,b1⟩⟩:=hin h1
   have a2:(nth (t:=ah) plan k).2.1<(u.length:Int):=by rw[hI];exact Int.lt_trans a1 k1
   have b2:(nth (t:=ah) plan k).2.2.1<((u.set (nth (t:=ah) plan k).2.1.toNat true).length:Int):=by rw[List.length_set,hI];exact Int.lt_trans b1 k1
   rw[decide_eq_false h1]
   simp only[Bool.not_false,Bool.and_true,cond_true,bF,show ((true:Bool)==true)=true from rfl]
   rw[ai a0,ai a2]
   repeat rw[ai b0]
   repeat rw[ai b2]
   unfold M.two
   cases decide ((nth (t:=ah) plan k).1=(4:Int))<;>cases decide ((nth (t:=ah) plan k).1=(5:Int))<;>rfl) (fun u hI=>rfl) plan.length _ (Nat.le_refl _) (by simp)).1]
 rfl
theorem F.zR (xs:LPt) (h_xs:Sm (Ty.sl aE) xs):F.xd xs=some xs:=by
 exact M.rP (t:=aE)
theorem F.xR (xs:(List Int)) (h_xs:Sm (Ty.sl (Ty.int .i64)) xs):F.tV xs=some xs:=by
 exact M.rP (t:=(Ty.int .i64))
theorem F.yy (kind:Int)  : F.ri kind=some (M.two kind):=by
 unfold F.ri M.two
 cases decide (kind=(4:Int))<;>rfl
theorem F.Cq (plan:LS) (h_plan:Sm (Ty.sl ah) plan) (p0:M.iW plan):F.vt plan=some (M.tidy plan):=by
 unfold F.vt M.tidy
 have hl:=h_plan.1
 have e1:(plan.length:Int).toNat=plan.length:=by simp
 rw[bF,M.oH,ai (by unfold ew;omega),e1]
 have hfold:=M.qz (f:=F.jD plan (plan.length:Int) (M.cn plan)) (fun(v:List ah.D×List Int) k=>((M.bt plan (M.cn plan) (v.2,v.1) k).2,(M.bt plan (M.cn plan) (v.2,v.1) k).1)) (fun k v=>v.2.length=plan.length/\(v.1.length:Int)<=k/\∀s∈v.1,Sm ah s) plan.length (s:=([],List.replicate plan.length (0:Int))) ⟨by simp,by simp,fun s h=>by cases h⟩ (fun k v k0 k1 hI=>by
   have hnext:=M.zc (need:=M.cn plan) h_plan (st:=(v.2,v.1)) k0 hI
   refine⟨?_,hnext⟩
   clear hnext
   have hin:=p0.2 k k0 k1
   obtain⟨hI1,hI2,hI3⟩:=hI
   have hs1:k<(v.2.length:Int):=by rw[hI1];exact k1
   have hnd:k<((M.cn plan).length:Int):=by rw[M.oH];exact k1
   have hl:=h_plan.1
   unfold F.jD M.bt M.ren
   rw[ai hnd]
   cases nth (t:=.bool) (M.cn plan) k
   ·rfl
   simp only[cond_true]
   rw[ai hs1,ai k1]
   simp only[bF,M.nA]
   have hlim:∀s:ah.D,(v.1.length+[s].length) * 80<=lim:=fun s=>by unfold lim;simp;omega
   by_cases h1:(nth (t:=ah) plan k).1=(1:Int)
   ·have ht:M.two (1:Int)=false:=rfl
    rw[decide_eq_true h1,h1,ht]
    simp only[Bool.not_true,cond_true,cond_false]
    rw[ai (hlim _),<-h1]
   obtain⟨⟨a0,a1⟩,⟨b0,b1⟩⟩:=hin h1
   have a2:(nth (t:=ah) plan k).2.1<((v.2.set k.toNat (v.1.length:Int)).length:Int):=by rw[List.length_set,hI1];exact Int.lt_trans a1 k1
   have b2:(nth (t:=ah) plan k).2.2.1<((v.2.set k.toNat (v.1.length:Int)).length:Int):=by rw[List.length_set,hI1];exact Int.lt_trans b1 k1
   rw[decide_eq_false h1,M.bV (t:=.int .i64) k0 a0 (Int.ne_of_gt a1)]
   simp only[Bool.not_false,cond_true,cond_false]
   rw[ai a0,ai a2]
   cases M.two (nth (t:=ah) plan k).1
   ·simp only[cond_false]
    rw[ai (hlim _)]
   ·simp only[cond_true]
    rw[M.bV (t:=.int .i64) k0 b0 (Int.ne_of_gt b1),ai b0,ai b2,ai (hlim _)])
 rw[hfold.1,aU,M.zi (M.bt plan (M.cn plan)) (fun(v:List ah.D×List Int) k=>((M.bt plan (M.cn plan) (v.2,v.1) k).2,(M.bt plan (M.cn plan) (v.2,v.1) k).1)) (fun a b x=>rfl)]
 simp only[M.gP]
theorem F.vE (tables:LTb) (plan:LS) (h_tables:Sm (Ty.sl ax) tables) (h_plan:Sm (Ty.sl ah) plan):F.nF tables plan=some (M.cM tables plan):=by
 unfold F.nF M.cM
 cases hp:M.bC tables plan
 ·rfl
 simp only[Bool.not_true,cond_true,cond_false,bF,M.gP]
 exact ai (M.cT hp)
theorem F.tW (a:LPt) (b:LPt) (h_a:Sm (Ty.sl aE) a) (h_b:Sm (Ty.sl aE) b) (p0:a=b):F.mC a b=some true:=by
 subst p0
 unfold F.mC
 exact M.eq_eq (fun i h0 h1=>by
  unfold F.gJ
  rw[ai h1,(beq_iff (t:=aE) rfl _ _).2 rfl]
  rfl)
theorem F.vF (a:(List Int)) (b:(List Int)) (h_a:Sm (Ty.sl (Ty.int .i64)) a) (h_b:Sm (Ty.sl (Ty.int .i64)) b) (p0:a=b):F.og a b=some true:=by
 subst p0
 unfold F.og
 exact M.eq_eq (fun i h0 h1=>by
  unfold F.hO
  rw[ai h1]
  simp only[decide_true,Bool.not_true,show ((false:Bool)==false)=true from rfl,cond_true,cond_false,eq_self,M.hD])
theorem F.uF (a:LS) (b:LS) (h_a:Sm (Ty.sl ah) a) (h_b:Sm (Ty.sl ah) b) (p0:a=b):F.mH a b=some true:=by
 subst p0
 unfold F.mH
 exact M.eq_eq (fun i h0 h1=>by
  unfold F.gw
  rw[ai h1]
  simp only[decide_true,Bool.not_true,show ((false:Bool)==false)=true from rfl,cond_true,cond_false,eq_self,M.hD])
theorem F.AH (row:LV) (h_row:Sm (Ty.sl af) row):F.sE row=some (M.oU row):=by
 unfold F.sE M.oU
 rw[jz M.aR () (fun x _=>by simp only[F.kj,oS,dn]<;>rfl),show decide ((row.length:Int)<=4)=decide (row.length<=4) from decide_eq_decide.2 (by omega)]
 cases row.all M.aR<;>simp
theorem F.xE (columns:LC) (row:LV) (h_columns:Sm (Ty.sl ag) columns) (h_row:Sm (Ty.sl af) row):F.pW columns row=some (M.cw columns row):=by
 unfold F.pW M.cw
 cases M.bD columns
 ·rfl
 cases M.oU row
 ·rfl
 by_cases hl:row.length=columns.length
 ·rw[jz (M.tn columns row) () (fun i hi=>by
   obtain⟨h0,h1⟩:=eJ.1 hi
   have h2:i<(columns.length:Int):=by omega
   simp only[F.iU,ai h2]
   unfold M.tn
   cases decide ((nth (t:=af) row i).1=(nth (t:=ag) columns i).1)<;>cases decide ((nth (t:=af) row i).1=(0:Int))<;>cases (nth (t:=ag) columns i).2.1<;>rfl)]
  simp only[hl,Bool.not_true,decide_true,Bool.true_and,cond_true,cond_false]
  cases (aK 0 (columns.length:Int)).all (M.tn columns row)<;>rfl
 ·have h3:¬(row.length:Int)=(columns.length:Int):=by omega
  simp[hl,h3]
theorem F.zN (columns:LC) (rows:LLV) (h_columns:Sm (Ty.sl ag) columns) (h_rows:Sm (Ty.sl (Ty.sl af)) rows):F.rE columns rows=some (M.gN columns rows):=by
 unfold F.rE M.gN
 rw[jz (M.cw columns) () (fun x _=>by simp only[F.js,oS,dn])]
 cases rows.all (M.cw columns)<;>simp
theorem F.vL (tables:LTb) (h_tables:Sm (Ty.sl ax) tables):F.nE tables=some (M.cO tables):=by
 unfold F.nE M.cO
 rw[jz M.dz () (fun x _=>by
  simp only[F.ij]
  unfold M.dz
  by_cases h:x.2.1.length<=6
  ·have h2:¬(6:Int)<(x.2.1.length:Int):=by omega
   simp only[h2,h,decide_true,decide_false,Bool.true_and]
   cases M.gN x.1 x.2.1<;>rfl
  ·have h2:(6:Int)<(x.2.1.length:Int):=by omega
   simp[h2,h]),show decide ((tables.length:Int)<=3)=decide (tables.length<=3) from decide_eq_decide.2 (by omega)]
 cases tables.all M.dz<;>simp
theorem F.yx (tables:LTb) (plan:LS) (h_tables:Sm (Ty.sl ax) tables) (h_plan:Sm (Ty.sl ah) plan):F.rj tables plan=some (M.bC tables plan):=by
 unfold F.rj M.bC
 rw[bF]
 cases (M.cY tables plan).2<;>cases M.cO tables<;>rfl
theorem F.AF (plan:LS) (h_plan:Sm (Ty.sl ah) plan):F.tv plan=some plan:=by
 unfold F.tv
 rw[yU (fun r=>r) (fun x hx s hs=>by
  have hl:=h_plan.1
  simp only[F.ko,List.nil_append]
  rw[ai (by unfold lim;simp;omega)]),M.Dm]
 rfl
theorem F.wu (tables:LTb) (plan:LS) (h_tables:Sm (Ty.sl ax) tables) (h_plan:Sm (Ty.sl ah) plan):F.nH tables plan=some (M.cM tables plan):=by
 unfold F.nH M.cM
 cases hp:M.bC tables plan
 ·rfl
 have p0:=M.cT hp
 have hl:=h_plan.1
 have hw:wrap64 ((plan.length:Int)-(1:Int))=(plan.length:Int)-1:=fE _ hl
 have h0:=p0.1
 simp only[Bool.not_true,cond_true,cond_false,bF]
 rw[hw,ai (by omega),ai (by simp;omega)]
 have e1:(plan.length:Int).toNat=plan.length:=by simp
 have e2:((plan.length:Int)-1).toNat=plan.length-1:=by omega
 rw[e1,e2,(M.sD (M.bu plan) (fun u:List Bool=>u.length=plan.length) plan.length (fun k u k0 k1 hI=>by
   refine⟨?_,by rw[M.lU];exact hI⟩
   unfold F.hU M.bu
   have hin:=p0.2 k k0 k1
   have hu:k<(u.length:Int):=by rw[hI];exact k1
   simp only
   rw[decide_eq_true k0,cond_true,ai k0,ai k1,ai hu,aI (n:=k-1) (by omega) (by omega)]
   cases nth (t:=.bool) u k
   ·rfl
   by_cases h1:(nth (t:=ah) plan k).1=(1:Int)
   ·rw[decide_eq_true h1]
    rfl
   obtain⟨⟨a0,a1⟩,⟨b0,b1⟩⟩:=hin h1
   have a2:(nth (t:=ah) plan k).2.1<(u.length:Int):=by rw[hI];exact Int.lt_trans a1 k1
   have b2:(nth (t:=ah) plan k).2.2.1<((u.set (nth (t:=ah) plan k).2.1.toNat true).length:Int):=by rw[List.length_set,hI];exact Int.lt_trans b1 k1
   rw[decide_eq_false h1]
   simp only[Bool.not_false,Bool.and_true,cond_true,bF,show ((true:Bool)==true)=true from rfl]
   rw[ai a0,ai a2]
   rw[ai b0,ai b2]
   have hsame:=M.GL (t:=.bool) (u:=u.set (nth (t:=ah) plan k).2.1.toNat true) b0 b2
   unfold M.two
   cases hb:nth (t:=.bool) (u.set (nth (t:=ah) plan k).2.1.toNat true) (nth (t:=ah) plan k).2.2.1 with
   | false=>
    rw[hb] at hsame
    cases decide ((nth (t:=ah) plan k).1=(4:Int))<;>cases decide ((nth (t:=ah) plan k).1=(5:Int))<;>simp[hsame]
   | true=>
    rw[hb] at hsame
    cases decide ((nth (t:=ah) plan k).1=(4:Int))<;>cases decide ((nth (t:=ah) plan k).1=(5:Int))<;>simp[hsame]) (fun u hI=>rfl) plan.length _ (Nat.le_refl _) (by simp)).1]
 show bw (aM (F.eF tables plan (M.cn plan) plan) _ _) _ _=_
 have hfold:=M.qz (f:=F.eF tables plan (M.cn plan) plan) (M.bt plan (M.cn plan)) (fun k v=>v.1.length=plan.length/\(v.2.length:Int)<=k/\∀s∈v.2,Sm ah s) plan.length (s:=(List.replicate plan.length (0:Int),[])) ⟨by simp,by simp,fun s h=>by cases h⟩ (fun k v k0 k1 hI=>by
   have hnext:=M.zc (need:=M.cn plan) h_plan (st:=v) k0 hI
   refine⟨?_,hnext⟩
   clear hnext
   have hin:=p0.2 k k0 k1
   obtain⟨hI1,hI2,hI3⟩:=hI
   have hs1:k<(v.1.length:Int):=by rw[hI1];exact k1
   have hnd:k<((M.cn plan).length:Int):=by rw[M.oH];exact k1
   have hl:=h_plan.1
   unfold F.eF M.bt M.ren
   rw[ai hnd]
   cases nth (t:=.bool) (M.cn plan) k
   ·rfl
   simp only[cond_true]
   rw[ai k1]
   have hlim:∀s:ah.D,(v.2.length+[s].length) * 80<=lim:=fun s=>by unfold lim;simp;omega
   by_cases h1:(nth (t:=ah) plan k).1=(1:Int)
   ·have ht:M.two (1:Int)=false:=rfl
    rw[decide_eq_true h1]
    simp only[Bool.not_true,cond_true,cond_false]
    rw[ai hs1,ai (hlim _)]
    have e:M.two (nth (t:=ah) plan k).1=false:=by rw[h1];rfl
    rw[e]
    rfl
   obtain⟨⟨a0,a1⟩,⟨b0,b1⟩⟩:=hin h1
   have a2:(nth (t:=ah) plan k).2.1<(v.1.length:Int):=by rw[hI1];exact Int.lt_trans a1 k1
   have b2:(nth (t:=ah) plan k).2.2.1<(v.1.length:Int):=by rw[hI1];exact Int.lt_trans b1 k1
   rw[decide_eq_false h1]
   simp only[Bool.not_false,cond_true,cond_false]
   rw[ai a0,ai a2]
   unfold M.two
   cases decide ((nth (t:=ah) plan k).1=(4:Int))<;>cases decide ((nth (t:=ah) plan k).1=(5:Int))<;>simp only[cond_true,cond_false,Bool.or_self,Bool.or_true,Bool.or_false,Bool.false_or,Bool.true_or,show ((false:Bool)==false)=true from rfl,show ((true:Bool)==false)=false from rfl]<;>(repeat rw[ai b0])<;>(repeat rw[ai b2])<;>rw[ai hs1,ai (hlim _)]<;>rfl)
 rw[hfold.1]
 rfl
theorem F.xK (a:LV) (b:LV) (h_a:Sm (Ty.sl af) a) (h_b:Sm (Ty.sl af) b) (p0:a=b):F.oW a b=some true:=by
 subst p0
 unfold F.oW
 exact M.eq_eq (fun i h0 h1=>by
  unfold F.iP
  rw[ai h1,(beq_iff (t:=af) rfl _ _).2 rfl]
  rfl)
theorem F.vD (a:LLV) (b:LLV) (h_a:Sm (Ty.sl (Ty.sl af)) a) (h_b:Sm (Ty.sl (Ty.sl af)) b) (p0:a=b):F.nW a b=some true:=by
 subst p0
 unfold F.nW
 exact M.eq_eq (fun i h0 h1=>by
  unfold F.hH
  rw[ai h1]
  simp only[decide_true,Bool.not_true,show ((false:Bool)==false)=true from rfl,cond_true,cond_false,eq_self,M.hD])
theorem F.xL (truth:Int)  : F.oX truth=some (M.valueOf truth):=by
 unfold F.oX M.valueOf
 cases M.inR truth 0 1<;>rfl
theorem F.xo (b:Bool)  : F.qf b=some (M.bool b):=by
 unfold F.qf M.bool
 rw[dn]
theorem F.AB (vals:(List Int)) (h_vals:Sm (Ty.sl (Ty.int .i64)) vals):F.sY vals=some (M.orI vals):=by
 unfold F.sY
 suffices h:∀(A B:List Int),bw (aM (F.iG A) B ()) (fun v0:Unit=>some (0:Int)) (fun q0:Int=>some q0)=some (M.orI B) from h vals vals
 intro A B
 induction B with
 | nil=>rfl
 | cons x l ih=>
  rw[bK]
  simp only[F.iG,M.orI]
  by_cases hx:x=0
  ·simp only[hx,decide_true,Bool.not_true,cond_false,cond_true,aU]
   exact ih
  ·simp[hx]
theorem F.vU (x:Int)  : F.ou x=some false:=by
 unfold F.ou
 simp
theorem F.tA (x:Int) (y:Int)  : F.lE x y=some (M.vT x y):=by
 unfold F.lE M.vT
 simp only[cond_false,dn]
theorem F.sg (x:ByteArray) (h_x:Sm Ty.str x):F.jL x=some false:=by
 unfold F.jL
 simp
theorem F.qw (x:ByteArray) (y:ByteArray) (h_x:Sm Ty.str x) (h_y:Sm Ty.str y):F.iY x y=some (M.Dy x y):=by
 unfold F.iY M.Dy
 simp only[cond_false,dn]
theorem F.rX (v:af.D) (w:af.D) (h_v:Sm af v) (h_w:Sm af w):F.jX v w=some (M.order v w):=by
 unfold F.jX
 rw[ai ⟨by simp,fun _ _=>trivial⟩]
 rfl
theorem F.xl (kind:Int) (a:af.D) (b:af.D) (h_a:Sm af a) (h_b:Sm af b):F.qd kind a b=some (M.compare kind a b):=by
 unfold F.qd M.compare M.CQ
 cases hk:M.inR kind 1 4
 ·rfl
 cases M.aR a
 ·rfl
 cases M.aR b
 ·rfl
 have h4:decide (kind=1)=false->decide (kind=2)=false->decide (kind=3)=false->decide (kind=4)=true:=by
  unfold M.inR at hk
  simp at hk ⊢
  omega
 cases decide (a.1=(0:Int))<;>cases decide (b.1=(0:Int))<;>cases decide (a.1=b.1)<;>cases h1:decide (kind=1)<;>cases h2:decide (kind=2)<;>cases h3:decide (kind=3)<;>(try rw[h4 h1 h2 h3])<;>cases decide (M.order a b=0)<;>cases decide (M.order a b<0)<;>rfl
theorem F.xq (n:Int)  : F.tU n=some (M.inR n 0 2):=by
 rfl
theorem F.Cb (a:Int) (b:Int) (alone:Int) (p0:0<=alone/\alone<=1):F.vH a b alone=some (M.fold a b alone):=by
 unfold F.vH M.fold
 rw[aI (n:=1-alone) (by omega) (by omega)]
 cases M.inR a 0 2
 ·rfl
 cases M.inR b 0 2
 ·rfl
 cases decide (a=alone)<;>cases decide (b=alone)<;>cases decide (a=2)<;>cases decide (b=2)<;>rfl
theorem F.Ap (a:Int) (b:Int)  : F.tu a b=some (M.Be a b):=by
 unfold F.tu M.Be
 rw[ai (by decide)]
theorem F.xk (v:af.D) (h_v:Sm af v):F.pN v=some (M.eM v):=by
 unfold F.pN M.eM
 cases M.aR v<;>simp only[Bool.not_true,Bool.not_false,cond_true,cond_false,dn]
theorem F.BG (a:Int) (b:Int)  : F.vG a b=some (M.Gn a b):=by
 unfold F.vG M.Gn
 rw[ai (by decide)]
theorem F.Ax (a:Int)  : F.sV a=some (M.Bm a):=by
 unfold F.sV M.Bm
 simp only[dn]
theorem F.sQ (p:aE.D) (row:LV) (inp:LV) (h_p:Sm aE p) (h_row:Sm (Ty.sl af) row) (h_inp:Sm (Ty.sl af) inp) (p0:(inp.length:Int)=M.takes p) (p1:M.wY p row.length) (p2:1<=p.1/\p.1<=8):F.lG p row inp=some (M.jd p row inp):=by
 unfold F.lG M.jd
 have hz:(((0:Int),(0:Int),(⟨#[]⟩:ByteArray),()):af.D)=M.zeroV:=rfl
 by_cases e1:p.1=(1:Int)
 ·simp only[e1,decide_true,cond_true]
 by_cases e2:p.1=(2:Int)
 ·obtain⟨c0,c1⟩:=p1 e2
  simp only[e2,decide_true,cond_true,Int.reduceEq,decide_false,cond_false]
  rw[ai c0,ai c1]
 by_cases e3:p.1=(3:Int)
 ·rw[jY (.inl e3)] at p0
  simp only[e3,decide_true,cond_true,Int.reduceEq,decide_false,cond_false]
  repeat rw[ai (by omega)]
  generalize nth (t:=af) inp 0=a
  generalize nth (t:=af) inp 1=b
  unfold M.sum
  have hv:M.aR ((1:Int),wrap64 (a.2.1+b.2.1),(⟨#[]⟩:ByteArray),())=M.inR (wrap64 (a.2.1+b.2.1)) (-9999) 9999:=by unfold M.aR;simp
  rw[hv]
  cases decide (a.1=(0:Int))<;>cases decide (b.1=(0:Int))<;>cases M.inR (wrap64 (a.2.1+b.2.1)) (-9999) 9999<;>rfl
 by_cases e4:p.1=(4:Int)
 ·rw[jY (.inr (.inl e4))] at p0
  simp only[e4,decide_true,cond_true,Int.reduceEq,decide_false,cond_false,bF]
  repeat rw[ai (by omega)]
 by_cases e5:p.1=(5:Int)
 ·rw[jY (.inr (.inr (.inl e5)))] at p0
  simp only[e5,decide_true,cond_true,Int.reduceEq,decide_false,cond_false,bF]
  repeat rw[ai (by omega)]
 by_cases e6:p.1=(6:Int)
 ·rw[jY (.inr (.inr (.inr e6)))] at p0
  simp only[e6,decide_true,cond_true,Int.reduceEq,decide_false,cond_false,bF]
  repeat rw[ai (by omega)]
 by_cases e7:p.1=(7:Int)
 ·rw[rM (.inl e7)] at p0
  simp only[e7,decide_true,cond_true,Int.reduceEq,decide_false,cond_false,bF]
  repeat rw[ai (by omega)]
 ·simp only[e1,e2,e3,e4,e5,e6,e7,decide_false,cond_false,bF]
  have e8:p.1=(8:Int):=by
   rcases IQ p2 with h | h | h | h | h | h | h | h<;>first | exact h | exact absurd h (by assumption)
  rw[rM (.inr e8)] at p0
  rw[ai (by omega)]
theorem F.tK (row:LV) (e:LPt) (h_row:Sm (Ty.sl af) row) (h_e:Sm (Ty.sl aE) e) (p0:M.fZ row.length e):F.mJ row e=some (M.lZ row e):=by
 unfold F.mJ M.lZ
 obtain⟨h1,h2⟩:=Ds (f:=F.dX row e) h_row (fun p st hp hs hl h1 hk hc=>Ak p st hp hs hl h1 hk hc) e [] h_e.2 (jN af) (by simp;have:=p0.1;omega) p0.2
 rw[h1,aU,ai (by omega)]
theorem F.tO (row:LV) (e:LPt) (h_row:Sm (Ty.sl af) row) (h_e:Sm (Ty.sl aE) e) (p0:M.fZ row.length e):F.rF row e=some (M.holds row e):=by
 rfl
theorem F.xA (xs:LV) (h_xs:Sm (Ty.sl af) xs):F.uT xs=some xs:=by
 exact M.rP (t:=af)
theorem F.AD (row:LV) (list:(List Int)) (h_row:Sm (Ty.sl af) row) (h_list:Sm (Ty.sl (Ty.int .i64)) list) (p0:M.Bc row list):F.sU row list=some (M.taken row list):=by
 unfold F.sU
 rw[yU (fun i=>nth (t:=af) row i) (fun x hx s hs=>by
  have hl:=h_list.1
  obtain⟨h0,h1⟩:=p0 x hx
  simp only[F.kD]
  rw[ai h0,ai h1,ai (by unfold lim;simp;omega)])]
 show aa (Sm (.sl af) (M.taken row list)) (aJ (M.taken row list) fun r:List af.D=>some (ay r (some ((0:Int),(r.length:Int)))))=_
 rw[ai (M.Hv h_row h_list)]
 simp only[bF,M.nA]
theorem F.yB (n:Int) (p0:0<=n) (p1:n<=1099511627776):F.qY n=some ([]:List af.D):=by
 unfold F.qY
 have e:wrap64 (n-wrap64 ((0:Int)-(0:Int)))=n:=by
  rw[show wrap64 ((0:Int)-(0:Int))=0 by decide,Int.sub_zero]
  exact aI (by omega) (by omega)
 rw[decide_eq_false (by omega),e]
 by_cases h:0<n
 ·rw[decide_eq_true h]
  simp only[cond_true,cond_false]
  rw[ai p0,ai (by unfold lim;omega)]
  rfl
 ·rw[decide_eq_false h]
  rfl
theorem F.vS (xss:LLV) (h_xss:Sm (Ty.sl (Ty.sl af)) xss):F.oo xss=some (List.flatten xss):=by
 unfold F.oo
 exact M.tg (t:=af) h_xss (fun z v h0 h1=>by
  unfold F.hG
  rw[aI (n:=v+(z.length:Int)) (by omega) (by omega),decide_eq_false (by omega)]
  rfl) (fun z v h1=>by
  unfold F.ic
  rw[ai (by unfold lim;omega)])
theorem F.zn (a:LV) (b:LV) (h_a:Sm (Ty.sl af) a) (h_b:Sm (Ty.sl af) b) (p0:a.length+b.length<=1048576):F.rz a b=some (a++b):=by
 unfold F.rz
 have h1:=h_a.1
 have h2:=h_b.1
 have hs:Sm (.sl af) (a++b):=⟨by rw[List.length_append];omega,fun x hx=>by
  rcases List.mem_append.1 hx with h | h
  ·exact h_a.2 x h
  ·exact h_b.2 x h⟩
 rw[ai (show Sm (.sl (.sl af)) [a,b] from⟨by simp,fun x hx=>by
  rcases List.mem_cons.1 hx with rfl | hx
  ·exact h_a
  ·cases List.mem_singleton.1 hx
   exact h_b⟩),bF,List.flatten_cons,List.flatten_cons,List.flatten_nil,List.append_nil,ai hs,bF,M.gP]
theorem F.xm (n:Int) (p0:0<=n) (p1:n<=1099511627776):F.pT n=some ([]:List (Ty.sl af).D):=by
 unfold F.pT
 have e:wrap64 (n-wrap64 ((0:Int)-(0:Int)))=n:=by
  rw[show wrap64 ((0:Int)-(0:Int))=0 by decide,Int.sub_zero]
  exact aI (by omega) (by omega)
 rw[decide_eq_false (by omega),e]
 by_cases h:0<n
 ·rw[decide_eq_true h]
  simp only[cond_true,cond_false]
  rw[ai p0,ai (by unfold lim;omega)]
  rfl
 ·rw[decide_eq_false h]
  rfl
theorem F.vb (xss:(List LLV)) (h_xss:Sm (Ty.sl (Ty.sl (Ty.sl af))) xss):F.mK xss=some (List.flatten xss):=by
 unfold F.mK
 exact M.tg (t:=(Ty.sl af)) h_xss (fun z v h0 h1=>by
  unfold F.gB
  rw[aI (n:=v+(z.length:Int)) (by omega) (by omega),decide_eq_false (by omega)]
  rfl) (fun z v h1=>by
  unfold F.gv
  rw[ai (by unfold lim;omega)])
theorem F.wm (rows:LLV) (h_rows:Sm (Ty.sl (Ty.sl af)) rows):F.nD rows=some rows:=by
 unfold F.nD
 rw[yU (fun r=>r) (fun x hx s hs=>by
  have hl:=h_rows.1
  simp only[F.iw,bF,M.nA]
  rw[ai (by unfold lim;simp;omega)]),M.Dm,aU,M.gP]
theorem F.xp (xs:LV) (ys:LV) (h_xs:Sm (Ty.sl af) xs) (h_ys:Sm (Ty.sl af) ys):F.uX xs ys=some (decide (xs=ys)):=by
 exact Ht (t:=af) (fun i h0 h1 h2=>by simp only[F.iR,ai h2,oS,dn,IL (t:=af) rfl])
theorem F.xx (rows:LLV) (row:LV) (h_rows:Sm (Ty.sl (Ty.sl af)) rows) (h_row:Sm (Ty.sl af) row):F.pV rows row=some (M.fT rows row:Int):=by
 unfold F.pV M.fT
 have hl:=h_rows.1
 have key:∀(l:List (List af.D)) (v:Int),0<=v->v+(l.length:Int)<=1048576->aM (F.fY rows row) l v=some (.inl (v+(l.countP (fun r=>decide (r=row)):Int))):=by
  intro l
  induction l with
  | nil=>intro v _ _;show some (Sum.inl v)=some (Sum.inl (v+0));rw[Int.add_zero]
  | cons x l ih=>
   intro v h0 hb
   simp only[List.length_cons] at hb
   rw[bK,List.countP_cons,show F.fY rows row x v=cond (decide (x=row)) (some (.inl (wrap64 (v+(1:Int))))) (some (.inl v)) from rfl]
   cases decide (x=row) with
   | true=>
    rw[cond_true,aI (n:=v+(1:Int)) (by omega) (by omega),aU,ih _ (by omega) (by omega)]
    congr 2
    simp
    omega
   | false=>
    rw[cond_false,aU,ih _ h0 (by omega)]
    congr 2
 rw[key rows 0 (by omega) (by omega),aU,Int.zero_add]
theorem F.xG (rows:LLV) (row:LV) (h_rows:Sm (Ty.sl (Ty.sl af)) rows) (h_row:Sm (Ty.sl af) row):F.uG rows row=some (decide (0<(M.fT rows row:Int))):=by
 rfl
theorem F.we (rows:LLV) (h_rows:Sm (Ty.sl (Ty.sl af)) rows):F.nR rows=some (M.iD rows):=by
 unfold F.nR M.iD
 have hfold:=Aq (f:=F.fN rows) rows h_rows (fun z v hz hv=>by
  unfold F.fN M.eX
  have hl:=h_rows.1
  rw[ai hv.1]
  rw[show (!decide ((0:Int)<(M.fT v z:Int)))=decide ((M.fT v z:Int)=(0:Int)) by
   generalize M.fT v z=n
   by_cases h:n=0
   ·rw[decide_eq_false (by omega),decide_eq_true (by omega)];rfl
   ·rw[decide_eq_true (by omega),decide_eq_false (by omega)];rfl]
  cases decide ((M.fT v z:Int)=(0:Int)) with
  | false=>rfl
  | true=>
   simp only[cond_true]
   rw[ai (by have:=hv.2;unfold lim;simp;omega)])
 rw[hfold.1,aU,ai hfold.2,bF,M.gP]
theorem F.uf (s:ah.D) (tables:LTb) (ahead:(List LLV)) (h_s:Sm ah s) (h_tables:Sm (Ty.sl ax) tables) (h_ahead:Sm (Ty.sl (Ty.sl (Ty.sl af))) ahead) (p0:M.rR tables ahead s):F.mL s tables ahead=some (M.cI tables ahead s):=by
 obtain⟨r1,rin,rfew,r2,r3,r4⟩:=p0
 unfold F.mL M.cI
 by_cases h1:s.1=(1:Int)
 ·obtain⟨n0,n1⟩:=r1 h1
  have hsm:=(aQ h_tables s.2.2.2.1).2.1
  have hl:=hsm.1
  simp only[h1,decide_true,cond_true]
  rw[ai n0,ai n1]
 obtain⟨⟨a0,a1⟩,⟨b0,b1⟩⟩:=rin h1
 obtain⟨fa,fb⟩:=rfew h1
 have ha:=fa.1
 have hb:=fb.1
 have sa:Sm (.sl (.sl af)) (nth (t:=.sl (.sl af)) ahead s.2.1):=aQ h_ahead _
 have sb:Sm (.sl (.sl af)) (nth (t:=.sl (.sl af)) ahead s.2.2.1):=aQ h_ahead _
 by_cases h2:s.1=(2:Int)
 ·simp only[h2,decide_true,cond_true,Int.reduceEq,decide_false,cond_false]
  rw[ai a0,ai a1,vM (fun x:List af.D=>cond (M.holds x s.2.2.2.2.1) [x] []) (nth (t:=.sl (.sl af)) ahead s.2.1) 1 (fun x _=>by cases M.holds x s.2.2.2.2.1<;>simp) [] (fun x hx v hv=>by
   unfold F.gr
   rw[ai (r2 h2 _ hx)]
   cases M.holds x s.2.2.2.2.1
   ·rw[cond_false,cond_false,List.append_nil]
   ·rw[cond_true,cond_true,ai (by simp at hv;unfold lim;simp;omega)]),wZ]
  rfl
 by_cases h3:s.1=(3:Int)
 ·simp only[h3,decide_true,cond_true,Int.reduceEq,decide_false,cond_false]
  rw[ai a0,ai a1,vM (fun x:List af.D=>[M.taken x s.2.2.2.2.2.1]) (nth (t:=.sl (.sl af)) ahead s.2.1) 1 (fun x _=>Nat.le_refl _) [] (fun x hx v hv=>by
   unfold F.gH
   rw[ai (r3 h3 _ hx),bF,ai (by simp at hv;unfold lim;simp;omega)]),CO]
  rfl
 by_cases h4:s.1=(4:Int)
 ·simp only[h4,decide_true,cond_true,Int.reduceEq,decide_false,cond_false]
  rw[ai a0,ai a1,EN (t:=.sl af) (fun r=>M.joined s.2.2.2.2.1 r (nth (t:=.sl (.sl af)) ahead s.2.2.1)) (nth (t:=.sl (.sl af)) ahead s.2.1) ((nth (t:=.sl (.sl af)) ahead s.2.2.1):List (List af.D)).length (fun r _=>M.zV _ _ _) [] (fun i v i0 i1 hv=>by
   have hv9:v.length<=300 * 300:=Nat.le_trans (by simpa using hv) (Nat.mul_le_mul ha hb)
   have hrm:=oQ (t:=.sl af) i0 i1
   unfold F.gy
   rw[ai b0,ai b1,vM (fun q:List af.D=>cond (M.holds (nth (t:=.sl af) (nth (t:=.sl (.sl af)) ahead s.2.1) i++q:List af.D) s.2.2.2.2.1) [(nth (t:=.sl af) (nth (t:=.sl (.sl af)) ahead s.2.1) i++q:List af.D)] []) (nth (t:=.sl (.sl af)) ahead s.2.2.1) 1 (fun q _=>by cases M.holds (nth (t:=.sl af) (nth (t:=.sl (.sl af)) ahead s.2.1) i++q:List af.D) s.2.2.2.2.1<;>simp) v (fun q hqm w hw=>by
    have l1:=fa.2 _ hrm
    have l2:=fb.2 _ hqm
    unfold F.gI
    rw[ai (show (nth (t:=.sl af) (nth (t:=.sl (.sl af)) ahead s.2.1) i:List af.D).length+q.length<=1048576 by omega),bF]
    simp only[M.nA]
    rw[ai (show Sm (.sl af) (nth (t:=.sl af) (nth (t:=.sl (.sl af)) ahead s.2.1) i++q) from⟨by rw[List.length_append];omega,fun x hx=>(List.mem_append.1 hx).elim ((sa.2 _ hrm).2 x) ((sb.2 _ hqm).2 x)⟩),ai (r4 h4 _ hrm _ hqm)]
    cases M.holds (nth (t:=.sl af) (nth (t:=.sl (.sl af)) ahead s.2.1) i++q:List af.D) s.2.2.2.2.1
    ·rw[cond_false,cond_false,List.append_nil]
    ·rw[cond_true,cond_true,ai (by simp at hw;unfold lim;simp;omega)]),wU]
   rfl)]
  rfl
 by_cases h5:s.1=(5:Int)
 ·simp only[h5,decide_true,cond_true,Int.reduceEq,decide_false,cond_false]
  rw[ai a0,ai a1,ai b0,ai b1,ai (show Sm (.sl (.sl (.sl af))) [(nth (t:=.sl (.sl af)) ahead s.2.1),(nth (t:=.sl (.sl af)) ahead s.2.2.1)] from⟨by simp,fun x hx=>by
   rcases List.mem_cons.1 hx with rfl | hx
   ·exact sa
   ·cases List.mem_singleton.1 hx
    exact sb⟩)]
  simp only[bF,List.flatten_cons,List.flatten_nil,List.append_nil,M.nA,M.gP]
 by_cases h6:s.1=(6:Int)
 ·simp only[h6,decide_true,cond_true,Int.reduceEq,decide_false,cond_false]
  rw[ai a0,ai a1]
  simp only[bF,M.nA,M.gP]
 simp only[h1,h2,h3,h4,h5,h6,decide_false,cond_false]
theorem F.vZ (tables:LTb) (plan:LS) (h_tables:Sm (Ty.sl ax) tables) (h_plan:Sm (Ty.sl ah) plan) (p0:M.bC tables plan=true):F.nK tables plan=some (M.dG tables plan):=by
 unfold F.nK M.dG
 rw[p0,cond_true]
 have hl:=h_plan.1
 have hpos:=(M.cT p0).1
 obtain⟨h1,h2⟩:=GB (f:=F.fG tables plan) h_tables h_plan p0 (fun z v h1 h2 h3=>by
  unfold F.fG M.eV
  rw[ai h1,ai h2,bF,ai (by unfold lim;simp;omega)])
 obtain⟨st,_,hR⟩:=Dl h_tables h_plan p0
 have hsm:=BJ hR (by show (plan.foldl (M.eV tables) []).length<=1048576;rw[h2];exact hl)
 rw[h1,aU,h2,fE _ hl,ai (by omega),ai (by omega),show plan.foldl (M.eV tables) []=M.fm tables plan from rfl,ai (aQ hsm _),bF,M.gP]
theorem F.vp (tables:LTb) (plan:LS) (h_tables:Sm (Ty.sl ax) tables) (h_plan:Sm (Ty.sl ah) plan):F.nX tables plan=some (M.dG tables plan):=by
 unfold F.nX
 cases hp:M.bC tables plan
 ·unfold M.dG
  rw[hp]
  rfl
 ·simp only[Bool.not_true,cond_false,bF,M.gP]
theorem F.xh (x:Int) (y:Int)  : F.va x y=some (decide (x<y)):=by
 rfl
theorem F.oK (xs:(List Int)) (a:Int) (b:Int) (h_xs:Sm (Ty.sl (Ty.int .i64)) xs) (p0:a=0) (p1:b=(xs.length:Int)):F.gT xs a b=some (M.gS xs):=by
 subst p0
 subst p1
 have hl:=h_xs.1
 unfold F.gT
 rw[ai (by unfold ew;omega),show wrap64 ((0:Int)+(1:Int))=1 by decide,ai (by decide)]
 match xs,hl with
 | [],_=>rfl
 | x::R,hl=>
  simp only[List.length_cons] at hl
  have:=Bx (xs:=x::R) (by simp only[List.length_cons];omega) ((x::R).length:Int) R [x] 1 (by simp) (by simp only[List.length_cons,List.length_nil];omega) (by simp;omega)
  rw[show ([x].reverse++R:List Int)=x::R by simp] at this
  rw[this]
  rfl
theorem F.uA (xs:(List Int)) (a:Int) (b:Int) (limit:Int) (h_xs:Sm (Ty.sl (Ty.int .i64)) xs) (p0:a=0) (p1:b=(xs.length:Int)) (p2:xs.length<=12):F.mQ xs a b limit=some (M.gS xs):=by
 subst p0
 subst p1
 unfold F.mQ
 rw[dQ]
 unfold F.gC
 rw[aI (n:=(xs.length:Int)-0) (by omega) (by omega),decide_eq_true (by omega),cond_true,ai rfl,ai rfl]
 rfl
theorem F.Aw (x:Int) (p0:0<=x) (p1:x<=12):F.mN x=some (M.zp x):=by
 have h:∃v,F.mN x=some v:=by
  unfold F.mN
  rw[decide_eq_false (show ¬(4294967296:Int)<=x by omega),cond_false,decide_eq_false (show ¬(65536:Int)<=x by omega),cond_false,decide_eq_false (show ¬(256:Int)<=x by omega),cond_false,ai (by omega),ai (Int.lt_of_lt_of_le (b:=256) (by omega) (by decide +kernel))]
  exact⟨_,rfl⟩
 obtain⟨v,hv⟩:=h
 unfold M.zp
 rw[hv]
 rfl
theorem F.Dd (x:Int) (p0:0<=x) (p1:x<=12):F.Da x=some (M.zp x):=by
 rfl
theorem F.ye (xs:(List Int)) (h_xs:Sm (Ty.sl (Ty.int .i64)) xs) (p0:xs.length<=12):F.rB xs=some (M.gS xs):=by
 unfold F.rB
 have hw:mZ .u64 (xs.length:Int)=(xs.length:Int):=by
  show IntKind.wrap .u64 (xs.length:Int)=_
  simp[IntKind.wrap,IntKind.bits,IntKind.signed]
  omega
 rw[hw,ai (by omega),ai (by omega),ai rfl,ai rfl]
 rfl
theorem F.tG (xs:(List Int)) (h_xs:Sm (Ty.sl (Ty.int .i64)) xs):F.jv xs=some (M.cE xs):=by
 exact CN h_xs.1
theorem F.tq (tables:LTb) (plan:LS) (h_tables:Sm (Ty.sl ax) tables) (h_plan:Sm (Ty.sl ah) plan):F.ld tables plan=some (M.dc tables plan):=by
 unfold F.ld
 cases hp:M.bC tables plan
 ·unfold M.dc
  rw[hp]
  rfl
 have p0:=M.cT hp
 have hl:=h_plan.1
 have h6:=M.DW hp
 have hnl:=M.Gx plan
 have hs:Sm (.sl (.int .i64)) (M.cC plan):=⟨by show (M.cC plan).length<=1048576;omega,fun _ _=>trivial⟩
 simp only[Bool.not_true,cond_false,bF,M.gP]
 rw[ai p0,M.oH,ai (by unfold ew;omega),M.Et (fun k=>nth (t:=.bool) (M.cn plan) k&&decide ((nth (t:=ah) plan k).1=(1:Int))) (fun k=>(nth (t:=ah) plan k).2.2.2.1) (plan.length:Int) (fun i s i0 i1 hs=>by
  unfold F.fU
  rw[ai (by rw[M.oH];exact i1),ai i1,ai (by unfold lim;simp;omega)]
  cases nth (t:=.bool) (M.cn plan) i<;>cases decide ((nth (t:=ah) plan i).1=(1:Int))<;>rfl),aU]
 show aa (Sm (Ty.sl (Ty.int .i64)) (M.cC plan)) _=_
 rw[ai hs]
 show aa ((M.cC plan).length<=12) _=_
 rw[ai (by omega)]
 show aa (Sm (Ty.sl (Ty.int .i64)) (M.gS (M.cC plan))) (aa (Sm (Ty.sl (Ty.int .i64)) (M.cE (M.gS (M.cC plan)))) (some (M.cE (M.gS (M.cC plan)))))=_
 rw[ai (M.Dx hs),ai (M.EE (M.Dx hs)),M.yg hp]
theorem F.tD (code:(List Int)) (h_code:Ln (Ty.sl (Ty.int .u8)) code) (p0:M.aq code):F.lp code=some true:=by
 unfold F.lp
 by_cases hc:(1048576:Int)<(code.length:Int)
 ·rw[decide_eq_true hc]
  rfl
 rw[decide_eq_false hc,cond_false]
 have hs:Sm (.sl (.int .u8)) code:=⟨by omega,fun _ _=>trivial⟩
 rw[ai hs,bF]
 obtain⟨d0,d1,d2,d3,d4⟩:=M.nq code hs p0
 generalize M.de code=r at *
 obtain⟨ts,plan⟩:=r
 simp only at d0 d1 d2 d3 d4 ⊢
 have st:Sm (.sl ax) ts:=M.Fu d0 d2 (by decide)
 have sp:Sm (.sl ah) plan:=M.qQ d3 d4 (by decide)
 simp only[bF,M.nA]
 rw[ai st,ai sp]
 have sq:Sm (.sl ah) (M.cM ts plan):=M.DD sp
 rw[ai sq,ai sq,M.hD]
 cases h:M.bC ts plan with
 | false=>
  have e:M.cM ts plan=[]:=by
   unfold M.cM
   rw[h]
   rfl
  rw[e]
  rfl
 | true=>
  have e:M.cM ts plan=M.tidy plan:=by
   unfold M.cM
   rw[h]
   rfl
  have hok:=M.vc h
  have h1:=(M.cT hok).1
  have e2:M.cM ts (M.tidy plan)=M.tidy plan:=by
   unfold M.cM
   rw[hok,cond_true]
   exact M.Ga h
  have sr:Sm (.sl (.sl af)) (M.dG ts plan):=DT st sp
  have sI:Sm (.sl (.int .i64)) (M.dc ts plan):=M.At st
  rw[e] at sq ⊢
  rw[e2,hok,M.GA h,M.DX h,decide_eq_false (show ¬((M.tidy plan).length:Int)=0 by omega),decide_eq_true (show ((M.tidy plan).length:Int)<=(plan.length:Int) by have:=M.GH h;omega)]
  simp only[Bool.not_true,cond_false,cond_true,show ((true:Bool)==true)=true from rfl]
  rw[ai sr,ai sr,M.hD,ai sq,M.hD,ai sI,ai sI,M.hD]
end Go.AE
