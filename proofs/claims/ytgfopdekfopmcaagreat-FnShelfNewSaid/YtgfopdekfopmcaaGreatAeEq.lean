/- What the functions compute is what is said. -/
import Derived.Test.YtgfopdekfopmcaaGreatAeF
import Derived.Test.YtgfopdekfopmcaaGreatAeMN
import Derived.Test.YtgfopdekfopmcaaGreatAeMM
namespace Go.AE
open Go Go.RowKit
set_option linter.unusedVariables false
set_option linter.unusedSimpArgs false
theorem F.oD (b:(List Int)) (p:Int) (n:Int) (h_b:Sm (Ty.sl (Ty.int .u8)) b) (p0:M.ak b) (p1:0<=p) (p2:p<=1000000000000000):ok (F.jI b p n) (fun r=>0<=r.1/\(1<=n->r.1<n)/\(n<1->r.1=0)/\r.2=p+1):=by
 unfold F.jI
 have hw:wrap64 (p+1)=p+1:=aO (by omega) (by omega)
 have hw2:wrap64 (p+1-1)=p:=by rw[show p+1-1=p by omega];exact aO (by omega) (by omega)
 simp only[hw,hw2]
 refine Bg (fun c0=>?_) (fun c0=>?_)
 ·refine okD (fun c1=>?_) (fun c1=>?_)
  ·exact okS ⟨by dsimp only;omega,fun h=>by dsimp only;omega,fun h=>rfl,rfl⟩
  ·have hl:1<=(b.length:Int):=by omega
   refine okD (fun c2=>?_) (fun c2=>?_)
   ·refine okG (okG (okG (okS ?_)))
    have:=M.xI (M.pS p0 p) (n:=n) (by omega)
    exact⟨this.1,fun _=>this.2,fun h=>by omega,rfl⟩
   ·obtain⟨t0,t1⟩:=M.mb p1 hl
    have h7:wrap64 (wrap64 (p * 7)+3)=p * 7+3:=by rw[aO (n:=p * 7) (by omega) (by omega),aO (by omega) (by omega)]
    obtain⟨t2,t3⟩:=M.mb (a:=p * 7+3) (by omega) hl
    rw[h7]
    refine okG (okG (okG (okG (okG (okG (okS ?_))))))
    have:=M.yV (M.pS p0 (p.tmod (b.length:Int))) (M.pS p0 ((p * 7+3).tmod (b.length:Int))) p1 p2 (M.xq p1 hl) (n:=n) (by omega)
    exact⟨this.1,fun _=>this.2,fun h=>by omega,rfl⟩
 ·exact okS ⟨by dsimp only;omega,fun h=>by omega,fun h=>rfl,rfl⟩
theorem F.ud (b:(List Int)) (p:Int) (n:Int) (h_b:Sm (Ty.sl (Ty.int .u8)) b) (p0:M.ak b) (p1:0<=p) (p2:p<=1000000000000000):F.jI b p n=some (M.pick b p n):=hG (F.oD b p n h_b p0 p1 p2)
theorem M.xA (b:(List Int)) (p:Int) (n:Int) (h_b:Sm (Ty.sl (Ty.int .u8)) b) (p0:M.ak b) (p1:0<=p) (p2:p<=1000000000000000):0<=(M.pick b p n).1/\(1<=n->(M.pick b p n).1<n)/\(n<1->(M.pick b p n).1=0)/\(M.pick b p n).2=p+1:=hO (F.oD b p n h_b p0 p1 p2)
theorem az {α:Type} {K:α->Prop} {f:Int×Int->Option α} {b:(List Int)} {p:Int} {n:Int} (k:∀r,(0<=r.1)->(1<=n->r.1<n)->(n<1->r.1=0)->(r.2=p+1)->ok (f r) K) (h_b:Sm (Ty.sl (Ty.int .u8)) b:=by exact au) (p0:M.ak b:=by exact au) (p1:0<=p:=by exact au) (p2:p<=1000000000000000:=by exact au):ok (aY (M.pick b p n) f) K:=by
 have h:=M.xA b p n h_b p0 p1 p2
 obtain⟨h0,h1,h2,h3⟩:=h
 exact k _ h0 h1 h2 h3
theorem F.qc (b:(List Int)) (p:Int) (n:Int) (h_b:Sm (Ty.sl (Ty.int .u8)) b) (p0:M.ak b) (p1:0<=p) (p2:p<=999000000000000):ok (F.lJ b p n) (fun r=>(n<1->r.1=false)/\p<=r.2/\r.2<=p+1):=by
  unfold F.lJ
  refine AZ (fun c_0=>?_) (fun c_0=>?_)
  ·refine okG ?_
   refine az fun r1 h_1_5_0 h_1_5_1 h_1_5_2 h_1_5_3=>?_
   exact ot
  ·exact ot
theorem F.vf (b:(List Int)) (p:Int) (n:Int) (h_b:Sm (Ty.sl (Ty.int .u8)) b) (p0:M.ak b) (p1:0<=p) (p2:p<=999000000000000):F.lJ b p n=some (M.odd b p n):=hG (F.qc b p n h_b p0 p1 p2)
theorem M.yx (b:(List Int)) (p:Int) (n:Int) (h_b:Sm (Ty.sl (Ty.int .u8)) b) (p0:M.ak b) (p1:0<=p) (p2:p<=999000000000000):(n<1->(M.odd b p n).1=false)/\p<=(M.odd b p n).2/\(M.odd b p n).2<=p+1:=hO (F.qc b p n h_b p0 p1 p2)
theorem ig {α:Type} {K:α->Prop} {f:Bool×Int->Option α} {b:(List Int)} {p:Int} {n:Int} (k:∀r,(n<1->r.1=false)->(p<=r.2)->(r.2<=p+1)->ok (f r) K) (h_b:Sm (Ty.sl (Ty.int .u8)) b:=by exact au) (p0:M.ak b:=by exact au) (p1:0<=p:=by exact au) (p2:p<=999000000000000:=by exact au):ok (aY (M.odd b p n) f) K:=by
 have h:=M.yx b p n h_b p0 p1 p2
 obtain⟨h0,h1,h2⟩:=h
 exact k _ h0 h1 h2
theorem F.iM (b:(List Int)) (p:Int) (n:Int) (h_b:Sm (Ty.sl (Ty.int .u8)) b) (p0:M.ak b) (p1:0<=p) (p2:p<=998000000000000):ok (F.dL b p n) (fun r=>1<=r.1.length/\r.1.length<=6/\p<=r.2/\r.2<=p+20):=by
  unfold F.dL
  refine okG ?_
  refine az fun r1 h_2_1_0 h_2_1_1 h_2_1_2 h_2_1_3=>?_
  refine okB (A:=fun e0=>p<=e0.1/\e0.1<=p+10/\1<=e0.2.length/\e0.2.length<=3) ?_ (fun e0 h_e0=>?_)
  ·refine okW (fun(k:Nat) (v0:Int×Int×LC)=>0<=v0.1/\v0.1<=(k:Int)/\(v0.2.2.length:Int)+v0.1<=3/\1<=(v0.2.2.length:Int)+v0.1/\p<=v0.2.1/\v0.2.1+2 * v0.1<=p+10) (fun k v0 hI=>?_) (3:Nat) _ ⟨au,au,au,au,au,au⟩
   obtain⟨i_0,i_1,i_2,i_3,i_4,i_5⟩:=hI
   unfold F.dD
   refine okD (fun c_0=>?_) (fun c_0=>?_)
   ·refine okG ?_
    refine okG ?_
    refine okG ?_
    refine az fun r2 h_5_3_0 h_5_3_1 h_5_3_2 h_5_3_3=>?_
    refine okG ?_
    refine okG ?_
    refine okG ?_
    refine okG ?_
    refine az fun r3 h_5_7_0 h_5_7_1 h_5_7_2 h_5_7_3=>?_
    refine okG ?_
    exact lB ⟨k-1,by omega,au,au,au,au,au,au⟩
   ·exact iH ⟨au,au,au,au⟩
  ·obtain⟨e0_0,e0_1,e0_2,e0_3⟩:=h_e0
   refine okG ?_
   refine okG ?_
   refine ig fun r4 h_6_2_0 h_6_2_1 h_6_2_2=>?_
   refine okC (fun c_1=>?_) (fun c_1=>?_)
   ·refine okG ?_
    refine okG ?_
    refine az fun r5 h_7_2_0 h_7_2_1 h_7_2_2 h_7_2_3=>?_
    refine okG ?_
    exact AW
   ·exact AW
theorem F.nk (b:(List Int)) (p:Int) (n:Int) (h_b:Sm (Ty.sl (Ty.int .u8)) b) (p0:M.ak b) (p1:0<=p) (p2:p<=998000000000000):F.dL b p n=some (M.dA b p n):=hG (F.iM b p n h_b p0 p1 p2)
theorem M.qB (b:(List Int)) (p:Int) (n:Int) (h_b:Sm (Ty.sl (Ty.int .u8)) b) (p0:M.ak b) (p1:0<=p) (p2:p<=998000000000000):1<=(M.dA b p n).1.length/\(M.dA b p n).1.length<=6/\p<=(M.dA b p n).2/\(M.dA b p n).2<=p+20:=hO (F.iM b p n h_b p0 p1 p2)
theorem mw {α:Type} {K:α->Prop} {f:LC×Int->Option α} {b:(List Int)} {p:Int} {n:Int} (k:∀r,(1<=r.1.length)->(r.1.length<=6)->(p<=r.2)->(r.2<=p+20)->ok (f r) K) (h_b:Sm (Ty.sl (Ty.int .u8)) b:=by exact au) (p0:M.ak b:=by exact au) (p1:0<=p:=by exact au) (p2:p<=998000000000000:=by exact au):ok (aY (M.dA b p n) f) K:=by
 have h:=M.qB b p n h_b p0 p1 p2
 obtain⟨h0,h1,h2,h3⟩:=h
 exact k _ h0 h1 h2 h3
theorem F.sQ (row:LV) (h_row:Sm (Ty.sl ag) row):F.rq row=some row:=by
 rfl
theorem F.kQ (b:(List Int)) (p:Int) (c:ai.D) (h_b:Sm (Ty.sl (Ty.int .u8)) b) (p0:M.ak b) (p1:0<=p) (p2:p<=998000000000000):ok (F.fQ b p c) (fun r=>r.1.2.2.1.size<=20/\p<=r.2/\r.2<=p+3):=by
  unfold F.fQ
  refine okC (fun c_0=>?_) (fun c_0=>?_)
  ·refine okG ?_
   refine az fun r1 h_1_4_0 h_1_4_1 h_1_4_2 h_1_4_3=>?_
   refine okD (fun c_1=>?_) (fun c_1=>?_)
   ·exact ot
   ·refine okD (fun c_2=>?_) (fun c_2=>?_)
    ·refine okG ?_
     refine okG ?_
     refine az fun r2 h_5_1_0 h_5_1_1 h_5_1_2 h_5_1_3=>?_
     exact ot
    ·refine okD (fun c_3=>?_) (fun c_3=>?_)
     ·refine okG ?_
      refine okG ?_
      refine az fun r3 h_7_2_0 h_7_2_1 h_7_2_2 h_7_2_3=>?_
      refine okG ?_
      refine okG ?_
      exact ot
     ·refine okG ?_
      refine okG ?_
      refine az fun r4 h_8_1_0 h_8_1_1 h_8_1_2 h_8_1_3=>?_
      exact ot
  ·refine okD (fun c_4=>?_) (fun c_4=>?_)
   ·refine okG ?_
    refine az fun r2 h_5_1_0 h_5_1_1 h_5_1_2 h_5_1_3=>?_
    exact ot
   ·refine okD (fun c_5=>?_) (fun c_5=>?_)
    ·refine okG ?_
     refine az fun r3 h_7_2_0 h_7_2_1 h_7_2_2 h_7_2_3=>?_
     refine okG ?_
     refine okG ?_
     exact ot
    ·refine okG ?_
     refine az fun r4 h_8_1_0 h_8_1_1 h_8_1_2 h_8_1_3=>?_
     exact ot
theorem F.qu (b:(List Int)) (p:Int) (c:ai.D) (h_b:Sm (Ty.sl (Ty.int .u8)) b) (p0:M.ak b) (p1:0<=p) (p2:p<=998000000000000):F.fQ b p c=some (M.je b p c):=hG (F.kQ b p c h_b p0 p1 p2)
theorem M.tS (b:(List Int)) (p:Int) (c:ai.D) (h_b:Sm (Ty.sl (Ty.int .u8)) b) (p0:M.ak b) (p1:0<=p) (p2:p<=998000000000000):(M.je b p c).1.2.2.1.size<=20/\p<=(M.je b p c).2/\(M.je b p c).2<=p+3:=hO (F.kQ b p c h_b p0 p1 p2)
theorem pT {α:Type} {K:α->Prop} {f:ag.D×Int->Option α} {b:(List Int)} {p:Int} {c:ai.D} (k:∀r,(r.1.2.2.1.size<=20)->(p<=r.2)->(r.2<=p+3)->ok (f r) K) (h_b:Sm (Ty.sl (Ty.int .u8)) b:=by exact au) (p0:M.ak b:=by exact au) (p1:0<=p:=by exact au) (p2:p<=998000000000000:=by exact au):ok (aY (M.je b p c) f) K:=by
 have h:=M.tS b p c h_b p0 p1 p2
 obtain⟨h0,h1,h2⟩:=h
 exact k _ h0 h1 h2
theorem F.jE (b:(List Int)) (p:Int) (n:Int) (h_b:Sm (Ty.sl (Ty.int .u8)) b) (p0:M.ak b) (p1:0<=p) (p2:p<=998000000000000):ok (F.fc b p n) (fun r=>r.1.2.2.1.size<=20/\p<=r.2/\r.2<=p+20):=by
  unfold F.fc
  refine okG ?_
  refine az fun r1 h_2_1_0 h_2_1_1 h_2_1_2 h_2_1_3=>?_
  refine okB (A:=fun e0=>p<=e0.1/\e0.1<=p+12/\e0.2.2.2.size<=3) ?_ (fun e0 h_e0=>?_)
  ·refine okW (fun(_:Nat) (_:Unit)=>True) (fun _ v0 _=>?_) 0 _ trivial
   unfold F.eU
   refine okD (fun c_1=>?_) (fun c_1=>?_)
   ·exact iH ⟨au,au,au⟩
   ·refine okD (fun c_2=>?_) (fun c_2=>?_)
    ·refine okG ?_
     refine okG ?_
     refine okG ?_
     refine az fun r2 h_8_1_0 h_8_1_1 h_8_1_2 h_8_1_3=>?_
     refine okG ?_
     refine okG ?_
     refine az fun r3 h_9_1_0 h_9_1_1 h_9_1_2 h_9_1_3=>?_
     refine okD (fun c_3=>?_) (fun c_3=>?_)
     ·refine okG ?_
      refine okG ?_
      refine az fun r4 h_10_2_0 h_10_2_1 h_10_2_2 h_10_2_3=>?_
      refine okG ?_
      refine okG ?_
      exact iH ⟨au,au,au⟩
     ·exact iH ⟨au,au,au⟩
    ·refine okD (fun c_4=>?_) (fun c_4=>?_)
     ·refine okG ?_
      refine okG ?_
      refine okG ?_
      refine az fun r2 h_8_1_0 h_8_1_1 h_8_1_2 h_8_1_3=>?_
      refine okG ?_
      refine okG ?_
      refine az fun r3 h_9_1_0 h_9_1_1 h_9_1_2 h_9_1_3=>?_
      refine okD (fun c_5=>?_) (fun c_5=>?_)
      ·refine okG ?_
       refine okG ?_
       refine az fun r4 h_10_2_0 h_10_2_1 h_10_2_2 h_10_2_3=>?_
       refine okG ?_
       refine okG ?_
       exact iH ⟨au,au,au⟩
      ·exact iH ⟨au,au,au⟩
     ·refine okD (fun c_6=>?_) (fun c_6=>?_)
      ·refine okG ?_
       refine okG ?_
       refine okG ?_
       refine az fun r2 h_8_1_0 h_8_1_1 h_8_1_2 h_8_1_3=>?_
       refine okG ?_
       refine okG ?_
       refine az fun r3 h_9_1_0 h_9_1_1 h_9_1_2 h_9_1_3=>?_
       refine okD (fun c_7=>?_) (fun c_7=>?_)
       ·refine okG ?_
        refine okG ?_
        refine az fun r4 h_10_2_0 h_10_2_1 h_10_2_2 h_10_2_3=>?_
        refine okG ?_
        refine okG ?_
        exact iH ⟨au,au,au⟩
       ·exact iH ⟨au,au,au⟩
      ·refine okD (fun c_8=>?_) (fun c_8=>?_)
       ·refine okG ?_
        refine okG ?_
        refine okG ?_
        refine az fun r5 h_14_1_0 h_14_1_1 h_14_1_2 h_14_1_3=>?_
        refine okB (A:=fun e1=>p<=e1.1/\e1.1<=p+8/\e1.2.size<=3) ?_ (fun e1 h_e1=>?_)
        ·refine okW (fun(k:Nat) (v1:Int×Int×ByteArray)=>0<=v1.1/\v1.1<=(k:Int)/\(v1.2.2.size:Int)+v1.1<=3/\p<=v1.2.1/\v1.2.1+v1.1<=p+8) (fun k v1 hI=>?_) (3:Nat) _ ⟨au,au,au,au,au⟩
         obtain⟨i_0,i_1,i_2,i_3,i_4⟩:=hI
         unfold F.cH
         refine okD (fun c_0=>?_) (fun c_0=>?_)
         ·refine okG ?_
          refine okG ?_
          refine okG ?_
          refine az fun r6 h_17_3_0 h_17_3_1 h_17_3_2 h_17_3_3=>?_
          refine okG ?_
          exact lB ⟨k-1,by omega,au,au,au,au,au⟩
         ·exact iH ⟨au,au,au⟩
        ·obtain⟨e1_0,e1_1,e1_2⟩:=h_e1
         exact iH ⟨au,au,au⟩
       ·refine okD (fun c_9=>?_) (fun c_9=>?_)
        ·refine okG ?_
         refine okG ?_
         refine okG ?_
         refine az fun r5 h_14_1_0 h_14_1_1 h_14_1_2 h_14_1_3=>?_
         refine okB (A:=fun e1=>p<=e1.1/\e1.1<=p+8/\e1.2.size<=3) ?_ (fun e1 h_e1=>?_)
         ·refine okW (fun(k:Nat) (v1:Int×Int×ByteArray)=>0<=v1.1/\v1.1<=(k:Int)/\(v1.2.2.size:Int)+v1.1<=3/\p<=v1.2.1/\v1.2.1+v1.1<=p+8) (fun k v1 hI=>?_) (3:Nat) _ ⟨au,au,au,au,au⟩
          obtain⟨i_0,i_1,i_2,i_3,i_4⟩:=hI
          unfold F.cH
          refine okD (fun c_0=>?_) (fun c_0=>?_)
          ·refine okG ?_
           refine okG ?_
           refine okG ?_
           refine az fun r6 h_17_3_0 h_17_3_1 h_17_3_2 h_17_3_3=>?_
           refine okG ?_
           exact lB ⟨k-1,by omega,au,au,au,au,au⟩
          ·exact iH ⟨au,au,au⟩
         ·obtain⟨e1_0,e1_1,e1_2⟩:=h_e1
          exact iH ⟨au,au,au⟩
        ·refine okG ?_
         refine okG ?_
         refine okG ?_
         refine az fun r7 h_3_1_0 h_3_1_1 h_3_1_2 h_3_1_3=>?_
         exact iH ⟨au,au,au⟩
  ·obtain⟨e0_0,e0_1,e0_2⟩:=h_e0
   refine okG ?_
   refine okG ?_
   refine ig fun r8 h_18_2_0 h_18_2_1 h_18_2_2=>?_
   refine okC (fun c_10=>?_) (fun c_10=>?_)
   ·refine okG ?_
    refine okG ?_
    refine az fun r9 h_19_1_0 h_19_1_1 h_19_1_2 h_19_1_3=>?_
    refine okD (fun c_11=>?_) (fun c_11=>?_)
    ·exact ot
    ·refine okD (fun c_12=>?_) (fun c_12=>?_)
     ·refine okG ?_
      exact ot
     ·refine okD (fun c_13=>?_) (fun c_13=>?_)
      ·refine okG ?_
       refine okG ?_
       refine az fun r10 h_26_1_0 h_26_1_1 h_26_1_2 h_26_1_3=>?_
       exact ot
      ·refine okG ?_
       exact ot
   ·exact ot
theorem F.pM (b:(List Int)) (p:Int) (n:Int) (h_b:Sm (Ty.sl (Ty.int .u8)) b) (p0:M.ak b) (p1:0<=p) (p2:p<=998000000000000):F.fc b p n=some (M.cR b p n):=hG (F.jE b p n h_b p0 p1 p2)
theorem M.sH (b:(List Int)) (p:Int) (n:Int) (h_b:Sm (Ty.sl (Ty.int .u8)) b) (p0:M.ak b) (p1:0<=p) (p2:p<=998000000000000):(M.cR b p n).1.2.2.1.size<=20/\p<=(M.cR b p n).2/\(M.cR b p n).2<=p+20:=hO (F.jE b p n h_b p0 p1 p2)
theorem dU {α:Type} {K:α->Prop} {f:ag.D×Int->Option α} {b:(List Int)} {p:Int} {n:Int} (k:∀r,(r.1.2.2.1.size<=20)->(p<=r.2)->(r.2<=p+20)->ok (f r) K) (h_b:Sm (Ty.sl (Ty.int .u8)) b:=by exact au) (p0:M.ak b:=by exact au) (p1:0<=p:=by exact au) (p2:p<=998000000000000:=by exact au):ok (aY (M.cR b p n) f) K:=by
 have h:=M.sH b p n h_b p0 p1 p2
 obtain⟨h0,h1,h2⟩:=h
 exact k _ h0 h1 h2
theorem F.kW (b:(List Int)) (p:Int) (columns:LC) (n:Int) (h_b:Sm (Ty.sl (Ty.int .u8)) b) (h_columns:Sm (Ty.sl ai) columns) (p0:M.ak b) (p1:0<=p) (p2:p<=997000000000000):ok (F.gy b p columns n) (fun r=>r.1.length<=columns.length+3/\(∀v∈r.1,v.2.2.1.size<=20)/\p<=r.2/\r.2<=p+3 * columns.length+70/\(n<1->r.1.length=columns.length)):=by
  unfold F.gy
  have hl:=h_columns.1
  refine okT (A:=fun v0=>p<=v0.1/\v0.1<=p+3 * (columns.length:Int)/\v0.2.length=columns.length/\(∀v∈v0.2,v.2.2.1.size<=20)) (B:=fun _=>False) ?_ (fun v0 h_v0=>?_) (fun _ h=>h.elim)
  ·refine Bk (fun(k:Nat) (v0:Int×LV)=>p<=v0.1/\v0.1<=p+3 * (k:Int)/\v0.2.length=k/\(∀v∈v0.2,v.2.2.1.size<=20)) ⟨au,au,au,au⟩ (fun z0 hz k v0 hk hI=>?_)
   obtain⟨i_0,i_1,i_2,i_3⟩:=hI
   unfold F.fI
   refine okG ?_
   refine okG ?_
   refine okG ?_
   refine pT fun r1 h_5_6_0 h_5_6_1 h_5_6_2=>?_
   refine okG ?_
   exact lB ⟨au,au,au,au⟩
  ·obtain⟨v0_0,v0_1,v0_2,v0_3⟩:=h_v0
   refine okG ?_
   refine okG ?_
   refine ig fun r2 h_6_2_0 h_6_2_1 h_6_2_2=>?_
   refine okC (fun c_0=>?_) (fun c_0=>?_)
   ·have n_a:¬n<1:=fun q=>by rw[h_6_2_0 q] at c_0;cases c_0
    refine okG ?_
    refine okG ?_
    refine az fun r3 h_7_1_0 h_7_1_1 h_7_1_2 h_7_1_3=>?_
    refine okD (fun c_1=>?_) (fun c_1=>?_)
    ·refine okG ?_
     exact xD
    ·refine okD (fun c_2=>?_) (fun c_2=>?_)
     ·refine okD (fun c_3=>?_) (fun c_3=>?_)
      ·refine okG ?_
       refine okG ?_
       refine az fun r4 h_13_4_0 h_13_4_1 h_13_4_2 h_13_4_3=>?_
       refine okG ?_
       refine okG ?_
       refine dU fun r5 h_13_6_0 h_13_6_1 h_13_6_2=>?_
       refine okG ?_
       refine okG ?_
       exact xD
      ·exact xD
     ·refine okG ?_
      refine okG ?_
      refine dU fun r6 h_8_2_0 h_8_2_1 h_8_2_2=>?_
      refine okG ?_
      refine okG ?_
      refine dU fun r7 h_8_4_0 h_8_4_1 h_8_4_2=>?_
      refine okG ?_
      refine okG ?_
      refine dU fun r8 h_8_6_0 h_8_6_1 h_8_6_2=>?_
      refine okG ?_
      exact xD
   ·exact xD
theorem F.rF (b:(List Int)) (p:Int) (columns:LC) (n:Int) (h_b:Sm (Ty.sl (Ty.int .u8)) b) (h_columns:Sm (Ty.sl ai) columns) (p0:M.ak b) (p1:0<=p) (p2:p<=997000000000000):F.gy b p columns n=some (M.gL b p columns n):=hG (F.kW b p columns n h_b h_columns p0 p1 p2)
theorem M.uF (b:(List Int)) (p:Int) (columns:LC) (n:Int) (h_b:Sm (Ty.sl (Ty.int .u8)) b) (h_columns:Sm (Ty.sl ai) columns) (p0:M.ak b) (p1:0<=p) (p2:p<=997000000000000):(M.gL b p columns n).1.length<=columns.length+3/\(∀v∈(M.gL b p columns n).1,v.2.2.1.size<=20)/\p<=(M.gL b p columns n).2/\(M.gL b p columns n).2<=p+3 * columns.length+70/\(n<1->(M.gL b p columns n).1.length=columns.length):=hO (F.kW b p columns n h_b h_columns p0 p1 p2)
theorem kS {α:Type} {K:α->Prop} {f:LV×Int->Option α} {b:(List Int)} {p:Int} {columns:LC} {n:Int} (k:∀r,(r.1.length<=columns.length+3)->(∀v∈r.1,v.2.2.1.size<=20)->(p<=r.2)->(r.2<=p+3 * columns.length+70)->(n<1->r.1.length=columns.length)->ok (f r) K) (h_b:Sm (Ty.sl (Ty.int .u8)) b:=by exact au) (h_columns:Sm (Ty.sl ai) columns:=by exact au) (p0:M.ak b:=by exact au) (p1:0<=p:=by exact au) (p2:p<=997000000000000:=by exact au):ok (aY (M.gL b p columns n) f) K:=by
 have h:=M.uF b p columns n h_b h_columns p0 p1 p2
 obtain⟨h0,h1,h2,h3,h4⟩:=h
 exact k _ h0 h1 h2 h3 h4
theorem F.lH (b:(List Int)) (p:Int) (c:LC) (n:Int) (h_b:Sm (Ty.sl (Ty.int .u8)) b) (h_c:Sm (Ty.sl ai) c) (p0:M.ak b) (p1:0<=p) (p2:p<=996000000000000) (p3:c.length<=6) (p4:n=0):ok (F.gH b p c n) (fun r=>r.1.length<=6/\(∀w∈r.1,M.oP w)/\p<=r.2/\r.2<=p+1000/\(∀w∈r.1,w.length=c.length)):=by
  unfold F.gH
  have hl:=p3
  refine okG ?_
  refine az fun r1 h_2_1_0 h_2_1_1 h_2_1_2 h_2_1_3=>?_
  refine okB (A:=fun e0=>p<=e0.1/\e0.1<=p+700/\e0.2.length<=6/\(∀w∈e0.2,M.oP w)/\(∀w∈e0.2,w.length=c.length)) ?_ (fun e0 h_e0=>?_)
  ·refine okW (fun(k:Nat) (v0:Int×Int×LLV)=>0<=v0.1/\v0.1<=(k:Int)/\(v0.2.2.length:Int)+v0.1<=6/\(∀w∈v0.2.2,M.oP w)/\p<=v0.2.1/\v0.2.1+100 * v0.1<=p+700/\(∀w∈v0.2.2,w.length=c.length)) (fun k v0 hI=>?_) (6:Nat) _ ⟨au,au,au,au,au,au,au⟩
   obtain⟨i_0,i_1,i_2,i_3,i_4,i_5,i_6⟩:=hI
   unfold F.fX
   refine okD (fun c_0=>?_) (fun c_0=>?_)
   ·refine AZ (fun c_1=>?_) (fun c_1=>?_)
    ·refine okG ?_
     refine okG ?_
     refine okG ?_
     refine az fun r2 h_5_5_0 h_5_5_1 h_5_5_2 h_5_5_3=>?_
     refine okD (fun c_2=>?_) (fun c_2=>?_)
     ·refine okG ?_
      refine okG ?_
      refine az fun r3 h_6_5_0 h_6_5_1 h_6_5_2 h_6_5_3=>?_
      refine okG ?_
      refine okG ?_
      refine okG ?_
      refine okL fun r4 er4=>?_
      have w_a:M.oP r4:=er4▸M.so i_3 _
      have w_b:r4.length=c.length:=by rw[er4];exact i_6 _ (yy (t:=.sl ag) h_6_5_0 (h_6_5_1 (by omega)))
      refine okG ?_
      exact lB ⟨k-1,by omega,au,au,au,au,au,au,au⟩
     ·refine okG ?_
      refine okG ?_
      refine kS fun r5 h_7_4_0 h_7_4_1 h_7_4_2 h_7_4_3 h_7_4_4=>?_
      have w_c:r5.1.length=c.length:=h_7_4_4 (by omega)
      refine okG ?_
      exact lB ⟨k-1,by omega,au,au,au,au,au,au,au⟩
    ·refine okG ?_
     refine okG ?_
     refine okG ?_
     refine kS fun r5 h_7_4_0 h_7_4_1 h_7_4_2 h_7_4_3 h_7_4_4=>?_
     have w_c:r5.1.length=c.length:=h_7_4_4 (by omega)
     refine okG ?_
     exact lB ⟨k-1,by omega,au,au,au,au,au,au,au⟩
   ·exact iH ⟨au,au,au,au,au⟩
  ·obtain⟨e0_0,e0_1,e0_2,e0_3,e0_4⟩:=h_e0
   exact xD
theorem F.qX (b:(List Int)) (p:Int) (c:LC) (n:Int) (h_b:Sm (Ty.sl (Ty.int .u8)) b) (h_c:Sm (Ty.sl ai) c) (p0:M.ak b) (p1:0<=p) (p2:p<=996000000000000) (p3:c.length<=6) (p4:n=0):F.gH b p c n=some (M.jA b p c n):=hG (F.lH b p c n h_b h_c p0 p1 p2 p3 p4)
theorem M.uJ (b:(List Int)) (p:Int) (c:LC) (n:Int) (h_b:Sm (Ty.sl (Ty.int .u8)) b) (h_c:Sm (Ty.sl ai) c) (p0:M.ak b) (p1:0<=p) (p2:p<=996000000000000) (p3:c.length<=6) (p4:n=0):(M.jA b p c n).1.length<=6/\(∀w∈(M.jA b p c n).1,M.oP w)/\p<=(M.jA b p c n).2/\(M.jA b p c n).2<=p+1000/\(∀w∈(M.jA b p c n).1,w.length=c.length):=hO (F.lH b p c n h_b h_c p0 p1 p2 p3 p4)
theorem qy {α:Type} {K:α->Prop} {f:LLV×Int->Option α} {b:(List Int)} {p:Int} {c:LC} {n:Int} (k:∀r,(r.1.length<=6)->(∀w∈r.1,M.oP w)->(p<=r.2)->(r.2<=p+1000)->(∀w∈r.1,w.length=c.length)->ok (f r) K) (h_b:Sm (Ty.sl (Ty.int .u8)) b:=by exact au) (h_c:Sm (Ty.sl ai) c:=by exact au) (p0:M.ak b:=by exact au) (p1:0<=p:=by exact au) (p2:p<=996000000000000:=by exact au) (p3:c.length<=6:=by exact au) (p4:n=0:=by exact au):ok (aY (M.jA b p c n) f) K:=by
 have h:=M.uJ b p c n h_b h_c p0 p1 p2 p3 p4
 obtain⟨h0,h1,h2,h3,h4⟩:=h
 exact k _ h0 h1 h2 h3 h4
theorem F.jg (b:(List Int)) (p:Int) (n:Int) (h_b:Sm (Ty.sl (Ty.int .u8)) b) (p0:M.ak b) (p1:0<=p) (p2:p<=995000000000000):ok (F.eG b p n) (fun r=>r.1.length<=6/\1<=r.1.length/\(∀t∈r.1,M.ki t)/\p<=r.2/\r.2<=p+10000/\(n<1->r.1.length<=3)/\(n<1->(∀t∈r.1,M.qG t))):=by
  unfold F.eG
  refine okG ?_
  refine az fun r1 h_2_1_0 h_2_1_1 h_2_1_2 h_2_1_3=>?_
  refine okB (A:=fun e0=>p<=e0.1/\e0.1<=p+6100/\e0.2.length<=3/\1<=e0.2.length/\(∀t∈e0.2,M.ki t)/\(∀t∈e0.2,M.qG t)) ?_ (fun e0 h_e0=>?_)
  ·refine okW (fun(k:Nat) (v0:Int×Int×LTb)=>0<=v0.1/\v0.1<=(k:Int)/\(v0.2.2.length:Int)+v0.1<=3/\1<=(v0.2.2.length:Int)+v0.1/\(∀t∈v0.2.2,M.ki t)/\p<=v0.2.1/\v0.2.1+2000 * v0.1<=p+6100/\(∀t∈v0.2.2,M.qG t)) (fun k v0 hI=>?_) (3:Nat) _ ⟨au,au,au,au,au,au,au,au⟩
   obtain⟨i_0,i_1,i_2,i_3,i_4,i_5,i_6,i_7⟩:=hI
   unfold F.dS
   refine okD (fun c_0=>?_) (fun c_0=>?_)
   ·refine okG ?_
    refine okG ?_
    refine okG ?_
    refine mw fun r2 h_5_1_0 h_5_1_1 h_5_1_2 h_5_1_3=>?_
    refine okG ?_
    refine okG ?_
    refine az fun r3 h_6_2_0 h_6_2_1 h_6_2_2 h_6_2_3=>?_
    refine okG ?_
    refine okG ?_
    refine okG ?_
    refine okG ?_
    refine okG ?_
    refine okG ?_
    refine okG ?_
    refine okG ?_
    refine qy fun r4 h_7_3_0 h_7_3_1 h_7_3_2 h_7_3_3 h_7_3_4=>?_
    have q_a:=M.Bl h_6_2_0 (h_6_2_1 (by decide)) (n:=(r2.1.length:Int)) (by omega)
    have q_b:(ax r2.1 (some ((0:Int),wrap64 ((1:Int)+(r3.1.tmod (r2.1.length:Int)))))).length<=2:=M.Aw q_a
    have q_c:M.qG ((ax r2.1 (some ((0:Int),wrap64 ((1:Int)+(r3.1.tmod (r2.1.length:Int)))))),(r4.1,())):=⟨Nat.le_trans q_b (by decide),by omega,fun w hw=>by rw[h_7_3_4 w hw];omega⟩
    refine okG ?_
    exact lB ⟨k-1,by omega,au,au,au,au,au,au,au,au⟩
   ·exact iH ⟨au,au,au,au,au,au⟩
  ·obtain⟨e0_0,e0_1,e0_2,e0_3,e0_4,e0_5⟩:=h_e0
   refine okG ?_
   refine okG ?_
   refine ig fun r5 h_9_2_0 h_9_2_1 h_9_2_2=>?_
   refine okC (fun c_1=>?_) (fun c_1=>?_)
   ·have n_a:¬n<1:=fun q=>by rw[h_9_2_0 q] at c_1;cases c_1
    obtain⟨t_1,t_2,_⟩:=M.qW e0_5 (0:Int)
    refine okG ?_
    refine okG ?_
    refine az fun r6 h_10_1_0 h_10_1_1 h_10_1_2 h_10_1_3=>?_
    refine okD (fun c_2=>?_) (fun c_2=>?_)
    ·refine okG ?_
     exact zM
    ·refine okD (fun c_3=>?_) (fun c_3=>?_)
     ·have t_a:=M.xH (i:=0) (k:=(0:Int).toNat) (w:=[[((9:Int),((0:Int),((⟨#[]⟩:ByteArray),())))]]) e0_4 e0_5 (by exact cl) (by decide)
      refine okG ?_
      refine okG ?_ (by simp only[List.length_cons,List.length_nil,List.length_append,lim];omega)
      refine okG ?_ (by rw[List.length_set];omega)
      refine okL fun y1 ey1=>?_
      subst ey1
      exact zM
     ·have t_a:=M.xC (i:=0) (k:=(0:Int).toNat) (w:=[((1:Int),(false,()))]) e0_4 e0_5 (by decide)
      refine okG ?_
      refine okG ?_ (by simp only[List.length_cons,List.length_nil,List.length_append,lim];omega)
      refine okG ?_ (by rw[List.length_set];omega)
      refine okL fun y2 ey2=>?_
      subst ey2
      exact zM
   ·have t_b:n<1->∀t∈e0.2,M.qG t:=fun _=>e0_5
    exact zM
theorem F.oM (b:(List Int)) (p:Int) (n:Int) (h_b:Sm (Ty.sl (Ty.int .u8)) b) (p0:M.ak b) (p1:0<=p) (p2:p<=995000000000000):F.eG b p n=some (M.cz b p n):=hG (F.jg b p n h_b p0 p1 p2)
theorem M.rj (b:(List Int)) (p:Int) (n:Int) (h_b:Sm (Ty.sl (Ty.int .u8)) b) (p0:M.ak b) (p1:0<=p) (p2:p<=995000000000000):(M.cz b p n).1.length<=6/\1<=(M.cz b p n).1.length/\(∀t∈(M.cz b p n).1,M.ki t)/\p<=(M.cz b p n).2/\(M.cz b p n).2<=p+10000/\(n<1->(M.cz b p n).1.length<=3)/\(n<1->(∀t∈(M.cz b p n).1,M.qG t)):=hO (F.jg b p n h_b p0 p1 p2)
theorem iG {α:Type} {K:α->Prop} {f:LTb×Int->Option α} {b:(List Int)} {p:Int} {n:Int} (k:∀r,(r.1.length<=6)->(1<=r.1.length)->(∀t∈r.1,M.ki t)->(p<=r.2)->(r.2<=p+10000)->(n<1->r.1.length<=3)->(n<1->(∀t∈r.1,M.qG t))->ok (f r) K) (h_b:Sm (Ty.sl (Ty.int .u8)) b:=by exact au) (p0:M.ak b:=by exact au) (p1:0<=p:=by exact au) (p2:p<=995000000000000:=by exact au):ok (aY (M.cz b p n) f) K:=by
 have h:=M.rj b p n h_b p0 p1 p2
 obtain⟨h0,h1,h2,h3,h4,h5,h6⟩:=h
 exact k _ h0 h1 h2 h3 h4 h5 h6
theorem F.gC (code:(List Int)) (h_code:Sm (Ty.sl (Ty.int .u8)) code) (p0:M.ak code):ok (F.cW code) (fun r=>r.length<=6/\(∀t∈r,M.ki t)):=by
  unfold F.cW
  refine okD (fun c_0=>?_) (fun c_0=>?_)
  ·refine okG ?_
   refine okG ?_
   refine okG ?_
   refine okG ?_
   refine okG ?_
   refine iG fun r1 h_1_2_0 h_1_2_1 h_1_2_2 h_1_2_3 h_1_2_4 h_1_2_5 h_1_2_6=>?_
   exact AP
  ·refine okG ?_
   refine okG ?_
   refine iG fun r1 h_1_2_0 h_1_2_1 h_1_2_2 h_1_2_3 h_1_2_4 h_1_2_5 h_1_2_6=>?_
   exact AP
theorem F.lN (code:(List Int)) (h_code:Sm (Ty.sl (Ty.int .u8)) code) (p0:M.ak code):F.cW code=some (M.cT code):=hG (F.gC code h_code p0)
theorem M.jd (code:(List Int)) (h_code:Sm (Ty.sl (Ty.int .u8)) code) (p0:M.ak code):(M.cT code).length<=6/\(∀t∈(M.cT code),M.ki t):=hO (F.gC code h_code p0)
theorem uz {α:Type} {K:α->Prop} {f:LTb->Option α} {code:(List Int)} (k:∀r,(r.length<=6)->(∀t∈r,M.ki t)->ok (f r) K) (h_code:Sm (Ty.sl (Ty.int .u8)) code:=by exact au) (p0:M.ak code:=by exact au):ok (aY (M.cT code) f) K:=by
 have h:=M.jd code h_code p0
 obtain⟨h0,h1⟩:=h
 exact k _ h0 h1
theorem F.qA (n:Int) (low:Int) (high:Int)  : F.ke n low high=some (M.inR n low high):=by
 unfold F.ke M.inR
 cases decide (low<=n)<;>rfl
theorem F.mz (c:ai.D)  : F.jO c=some (!M.cE c):=by
 rfl
theorem F.gG (xs:LC) (h_xs:Sm (Ty.sl ai) xs):F.eF xs=some (M.idx (t:=ai) (fun e=>!M.cE e) xs):=by
 exact fN (t:=ai) (p:=(fun e=>!M.cE e)) (fun i h0 h1=>by simp only[F.bE,dN])
theorem F.fT (xs:LC) (h_xs:Sm (Ty.sl ai) xs):F.cw xs=some (List.any xs (fun e=>!M.cE e)):=by
 unfold F.cw
 exact dM (t:=ai)
theorem F.nZ (columns:LC) (h_columns:Sm (Ty.sl ai) columns):F.iL columns=some (M.aW columns):=by
 unfold F.iL M.aW
 rw[iC,show decide ((columns.length:Int)<=4)=decide (columns.length<=4) from decide_eq_decide.2 (by omega)]
 rw[List.all_eq_not_any_not]
theorem F.qF (s:ByteArray) (h_s:Sm Ty.str s):F.kD s=some (M.lower (aP s)):=by
 unfold F.kD M.lower
 rw[fM (fun n=>M.inR n 97 122) () (fun x hx=>by
  obtain⟨h0,h1⟩:=yB hx
  simp only[F.fo,lW,dN,aO (n:=x) (by omega) (by omega)])]
 cases (aP s).all fun n=>M.inR n 97 122<;>rfl
theorem F.pF (v:ag.D) (h_v:Sm ag v):F.jz v=some (M.aK v):=by
 unfold F.jz M.aK M.text
 simp only[iC]
 rw[show decide ((v.2.2.1.size:Int)<=6)=decide (v.2.2.1.size<=6) from decide_eq_decide.2 (by omega)]
 simp only[Ty.beq]
 cases h0:decide (v.1=(0:Int))
 ·generalize decide (v.1=(1:Int))=b1
  generalize decide (v.1=(2:Int))=b2
  generalize decide (v.1=(3:Int))=b3
  generalize decide (v.2.1=(0:Int))=c0
  generalize decide (v.2.2.1.size<=6)=c6
  generalize M.inR v.2.1 (-9999) 9999=c1
  generalize M.inR v.2.1 0 1=c3
  generalize decide (v.2.2.1=M.none_)=e0
  cases b1<;>cases b2<;>cases b3<;>cases c0<;>cases c6<;>cases c1<;>cases c3<;>cases e0<;>rfl
 ·simp only[cond_true,Bool.true_and,Bool.and_true]
theorem F.qw (v:ag.D) (h_v:Sm ag v):F.nH v=some (!M.aK v):=by
 rfl
theorem F.iY (xs:LV) (h_xs:Sm (Ty.sl ag) xs):F.fP xs=some (M.idx (t:=ag) (fun e=>!M.aK e) xs):=by
 exact fN (t:=ag) (p:=(fun e=>!M.aK e)) (fun i h0 h1=>by simp only[F.bY,dN])
theorem F.gU (xs:LV) (h_xs:Sm (Ty.sl ag) xs):F.cO xs=some (List.any xs (fun e=>!M.aK e)):=by
 unfold F.cO
 exact dM (t:=ag)
theorem F.sR (row:LV) (h_row:Sm (Ty.sl ag) row):F.nj row=some (M.jL row):=by
 unfold F.nj M.jL
 rw[iC,show decide ((row.length:Int)<=4)=decide (row.length<=4) from decide_eq_decide.2 (by omega)]
 rw[List.all_eq_not_any_not]
theorem F.qJ (columns:LC) (row:LV) (h_columns:Sm (Ty.sl ai) columns) (h_row:Sm (Ty.sl ag) row):F.jX columns row=some (M.bD columns row):=by
 unfold F.jX M.bD
 cases M.aW columns
 ·rfl
 cases M.jL row
 ·rfl
 by_cases hl:row.length=columns.length
 ·rw[fM (M.nh columns row) () (fun i hi=>by
   obtain⟨h0,h1⟩:=iS.1 hi
   have h2:i<(columns.length:Int):=by omega
   simp only[F.fm,aF h2]
   unfold M.nh
   cases decide ((nth (t:=ag) row i).1=(nth (t:=ai) columns i).1)<;>cases decide ((nth (t:=ag) row i).1=(0:Int))<;>cases (nth (t:=ai) columns i).2.1<;>rfl)]
  simp only[hl,Bool.not_true,decide_true,Bool.true_and,cond_true,cond_false]
  cases (aN 0 (columns.length:Int)).all (M.nh columns row)<;>rfl
 ·have h3:¬(row.length:Int)=(columns.length:Int):=by omega
  simp[hl,h3]
theorem F.oY (r:LV) (columns:LC) (h_r:Sm (Ty.sl ag) r) (h_columns:Sm (Ty.sl ai) columns):F.mB r columns=some (!M.bD columns r):=by
 rfl
theorem F.iP (xs:LLV) (k0:LC) (h_xs:Sm (Ty.sl (Ty.sl ag)) xs) (h_k0:Sm (Ty.sl ai) k0):F.fG xs k0=some (M.idx (t:=(Ty.sl ag)) (fun e=>!M.bD k0 e) xs):=by
 exact fN (t:=(Ty.sl ag)) (p:=(fun e=>!M.bD k0 e)) (fun i h0 h1=>by simp only[F.bS,dN])
theorem F.gA (xs:LLV) (k0:LC) (h_xs:Sm (Ty.sl (Ty.sl ag)) xs) (h_k0:Sm (Ty.sl ai) k0):F.cK xs k0=some (List.any xs (fun e=>!M.bD k0 e)):=by
 unfold F.cK
 exact dM (t:=(Ty.sl ag))
theorem F.sB (columns:LC) (rows:LLV) (h_columns:Sm (Ty.sl ai) columns) (h_rows:Sm (Ty.sl (Ty.sl ag)) rows):F.lp columns rows=some (M.fW columns rows):=by
 unfold F.lp M.fW
 rw[iC,List.all_eq_not_any_not]
theorem F.nc (t:aj.D) (h_t:Sm aj t):F.gT t=some (!M.cM t):=by
 unfold F.gT M.cM
 cases hc:M.aW t.1
 ·have:M.fW t.1 t.2.1=false:=by unfold M.fW;rw[hc];rfl
  rw[this]
  simp
 by_cases h:t.2.1.length<=6
 ·have h2:¬(6:Int)<(t.2.1.length:Int):=by omega
  simp[h2,h]
 ·have h2:(6:Int)<(t.2.1.length:Int):=by omega
  simp[h2,h]
theorem F.gS (xs:LTb) (h_xs:Sm (Ty.sl aj) xs):F.eW xs=some (M.idx (t:=aj) (fun e=>!M.cM e) xs):=by
 exact fN (t:=aj) (p:=(fun e=>!M.cM e)) (fun i h0 h1=>by simp only[F.bJ,dN])
theorem F.fY (xs:LTb) (h_xs:Sm (Ty.sl aj) xs):F.cB xs=some (List.any xs (fun e=>!M.cM e)):=by
 unfold F.cB
 exact dM (t:=aj)
theorem F.oS (tables:LTb) (h_tables:Sm (Ty.sl aj) tables):F.jw tables=some (M.bt tables):=by
 unfold F.jw M.bt
 rw[iC,show decide ((tables.length:Int)<=3)=decide (tables.length<=3) from decide_eq_decide.2 (by omega)]
 rw[List.all_eq_not_any_not]
theorem F.pU (xs:LC) (h_xs:Sm (Ty.sl ai) xs):F.mK xs=some xs:=by
 exact M.tE (t:=ai)
theorem F.qs (xs:LV) (h_xs:Sm (Ty.sl ag) xs):F.od xs=some xs:=by
 exact M.tE (t:=ag)
theorem F.pH (rows:LLV) (h_rows:Sm (Ty.sl (Ty.sl ag)) rows):F.jr rows=some rows:=by
 unfold F.jr
 rw[vr (fun r=>r) (fun x hx s hs=>by
  have hl:=h_rows.1
  simp only[F.eR,jR,M.qL]
  rw[aF (by unfold lim;simp;omega)]),M.vl,eT,M.rz]
theorem F.mW (tables:LTb) (h_tables:Sm (Ty.sl aj) tables):F.gP tables=some tables:=by
 unfold F.gP
 rw[vr (fun r=>r) (fun x hx s hs=>by
  have hl:=h_tables.1
  simp only[F.dF,jR,M.qL]
  rw[aF (by unfold lim;simp;omega)]),M.vl,eT,M.rz]
theorem F.pW (tables:LTb) (h_tables:Sm (Ty.sl aj) tables):F.jB tables=some (M.cv tables):=by
 unfold F.jB M.cv
 cases M.bt tables with
 | false=>rfl
 | true=>
  simp only[jR,M.qL]
  rfl
theorem F.qx (a:LV) (b:LV) (h_a:Sm (Ty.sl ag) a) (h_b:Sm (Ty.sl ag) b) (p0:a=b):F.kq a b=some true:=by
 subst p0
 unfold F.kq
 exact M.eq_eq (fun i h0 h1=>by
  unfold F.fy
  rw[aF h1,(beq_iff (t:=ag) rfl _ _).2 rfl]
  rfl)
theorem F.oR (a:LLV) (b:LLV) (h_a:Sm (Ty.sl (Ty.sl ag)) a) (h_b:Sm (Ty.sl (Ty.sl ag)) b) (p0:a=b):F.js a b=some true:=by
 subst p0
 unfold F.js
 exact M.eq_eq (fun i h0 h1=>by
  unfold F.eM
  rw[aF h1]
  simp only[decide_true,Bool.not_true,show ((false:Bool)==false)=true from rfl,cond_true,cond_false,eq_self,M.ji])
theorem F.nt (a:LTb) (b:LTb) (h_a:Sm (Ty.sl aj) a) (h_b:Sm (Ty.sl aj) b) (p0:a=b):F.gX a b=some true:=by
 subst p0
 unfold F.gX
 exact M.eq_eq (fun i h0 h1=>by
  unfold F.dH
  have hw:bM (F.bN a a i) (0:Int)=some (.inl ()):=by
   refine M.sg (n:=((nth (t:=aj) a i).1:List ai.D).length) (bW h_a i).1.1 (fun v v0 v1=>?_) ?_ _ 0 (Nat.zero_add _)
   ·unfold F.bN
    rw[aF h0,aF h1,decide_eq_true v1,cond_true,aF v0,aF v1,aF h1,aF v1,(beq_iff (t:=ai) rfl _ _).2 rfl]
    rfl
   ·unfold F.bN
    rw[aF h0,aF h1,decide_eq_false (Int.lt_irrefl _)]
    rfl
  rw[aF h1,M.mS,decide_eq_true rfl]
  show bG (bM (F.bN a a i) (0:Int)) _ _=_
  rw[hw]
  rfl)
theorem F.oU (a:(List Int)) (b:(List Int)) (h_a:Sm (Ty.sl (Ty.int .i64)) a) (h_b:Sm (Ty.sl (Ty.int .i64)) b) (p0:a=b):F.jx a b=some true:=by
 subst p0
 unfold F.jx
 exact M.eq_eq (fun i h0 h1=>by
  unfold F.eV
  rw[aF h1]
  simp only[decide_true,Bool.not_true,show ((false:Bool)==false)=true from rfl,cond_true,cond_false,eq_self,M.ji])
theorem F.oF (a:LPt) (b:LPt) (h_a:Sm (Ty.sl dy) a) (h_b:Sm (Ty.sl dy) b) (p0:a=b):F.iF a b=some true:=by
 subst p0
 unfold F.iF
 exact M.eq_eq (fun i h0 h1=>by
  unfold F.dQ
  rw[aF h1,(beq_iff (t:=dy) rfl _ _).2 rfl]
  rfl)
theorem F.ny (a:LS) (b:LS) (h_a:Sm (Ty.sl de) a) (h_b:Sm (Ty.sl de) b) (p0:a=b):F.iI a b=some true:=by
 subst p0
 unfold F.iI
 exact M.eq_eq (fun i h0 h1=>by
  unfold F.dV
  rw[aF h1]
  simp only[decide_true,Bool.not_true,show ((false:Bool)==false)=true from rfl,cond_true,cond_false,eq_self,M.ji])
theorem F.nQ (a:aE.D) (b:aE.D) (h_a:Sm aE a) (h_b:Sm aE b) (p0:a=b) (p1:a.2.2.1=[]):F.iK a b=some true:=by
 subst p0
 unfold F.iK
 rw[M.mS]
 show (ah (a.2.1=a.2.1) _:Option Bool)=_
 rw[M.mS,p1]
 rfl
theorem F.uf (n:Int) (low:Int) (high:Int)  : F.oV n low high=some (M.inR n low high):=by
 unfold F.oV M.inR
 cases decide (low<=n)<;>rfl
theorem F.oO (columns:LC) (h_columns:Sm (Ty.sl ai) columns):F.iN columns=some (M.aW columns):=by
 unfold F.iN M.aW
 rw[fM M.cE () (fun x _=>by simp only[F.dR,lW,dN]<;>rfl),show decide ((columns.length:Int)<=4)=decide (columns.length<=4) from decide_eq_decide.2 (by omega)]
 cases columns.all M.cE<;>simp
theorem F.rV (s:ByteArray) (h_s:Sm Ty.str s):F.lO s=some (M.text s):=by
 unfold F.lO M.text M.lower
 have key:∀c:Int,(cond ((decide (c<97))==false) (cond (decide (122<c)) (some (Sum.inr ())) (some (Sum.inl ()))) (some (Sum.inr ())):Option (Sum Unit Unit))=some (cond (M.inR c 97 122) (.inl ()) (.inr ())):=by
  intro c
  unfold M.inR
  by_cases h2:c<97
  ·simp[h2,show ¬ 97<=c by omega]
  ·by_cases h3:122<c
   ·simp[h2,h3,show 97<=c by omega,show ¬c<=122 by omega]
   ·simp[h2,h3,show 97<=c by omega,show c<=122 by omega]
 rw[fM (fun i=>M.inR (nth (t:=.int .u8) (aP s) i) 97 122) () (fun i hi=>by
  obtain⟨h0,h1⟩:=iS.1 hi
  simp only[F.fR,uc h0 h1]
  exact key _)]
 rw[<-gW,xO (t:=.int .u8) (aP s) (fun n=>M.inR n 97 122),show decide (((aP s).length:Int)<=6)=decide ((aP s).length<=6) from decide_eq_decide.2 (by omega)]
 cases (aP s).all fun n=>M.inR n 97 122<;>simp
theorem F.qz (v:ag.D) (h_v:Sm ag v):F.kr v=some (M.aK v):=by
 unfold F.kr M.aK
 simp only[iC]
 simp only[dN]
theorem F.sP (row:LV) (h_row:Sm (Ty.sl ag) row):F.nv row=some (M.jL row):=by
 unfold F.nv M.jL
 rw[fM M.aK () (fun x _=>by simp only[F.gw,lW,dN]<;>rfl),show decide ((row.length:Int)<=4)=decide (row.length<=4) from decide_eq_decide.2 (by omega)]
 cases row.all M.aK<;>simp
theorem F.qq (columns:LC) (row:LV) (h_columns:Sm (Ty.sl ai) columns) (h_row:Sm (Ty.sl ag) row):F.jV columns row=some (M.bD columns row):=by
 unfold F.jV M.bD
 cases M.aW columns
 ·rfl
 cases M.jL row
 ·rfl
 by_cases hl:row.length=columns.length
 ·rw[fM (M.nh columns row) () (fun i hi=>by
   obtain⟨h0,h1⟩:=iS.1 hi
   have h2:i<(columns.length:Int):=by omega
   simp only[F.fq,aF h2]
   unfold M.nh
   cases decide ((nth (t:=ag) row i).1=(nth (t:=ai) columns i).1)<;>cases decide ((nth (t:=ag) row i).1=(0:Int))<;>cases (nth (t:=ai) columns i).2.1<;>rfl)]
  simp only[hl,Bool.not_true,decide_true,Bool.true_and,cond_true,cond_false]
  cases (aN 0 (columns.length:Int)).all (M.nh columns row)<;>rfl
 ·have h3:¬(row.length:Int)=(columns.length:Int):=by omega
  simp[hl,h3]
theorem F.rG (columns:LC) (rows:LLV) (h_columns:Sm (Ty.sl ai) columns) (h_rows:Sm (Ty.sl (Ty.sl ag)) rows):F.lq columns rows=some (M.fW columns rows):=by
 unfold F.lq M.fW
 rw[fM (M.bD columns) () (fun x _=>by simp only[F.fL,lW,dN])]
 cases rows.all (M.bD columns)<;>simp
theorem F.pJ (tables:LTb) (h_tables:Sm (Ty.sl aj) tables):F.jt tables=some (M.bt tables):=by
 unfold F.jt M.bt
 rw[fM M.cM () (fun x _=>by
  simp only[F.eN]
  unfold M.cM
  by_cases h:x.2.1.length<=6
  ·have h2:¬(6:Int)<(x.2.1.length:Int):=by omega
   simp only[h2,h,decide_true,decide_false,Bool.true_and]
   cases M.fW x.1 x.2.1<;>rfl
  ·have h2:(6:Int)<(x.2.1.length:Int):=by omega
   simp[h2,h]),show decide ((tables.length:Int)<=3)=decide (tables.length<=3) from decide_eq_decide.2 (by omega)]
 cases tables.all M.cM<;>simp
theorem F.nD (tables:LTb) (h_tables:Sm (Ty.sl aj) tables):F.iO tables=some tables:=by
 unfold F.iO
 rw[M.qE (t:=aj) tables (fun i s i0 i1 hs=>by
  have hl:=h_tables.1
  have hr:(nth (t:=aj) tables i).2.1.length<=1048576:=(bW h_tables i).2.1.1
  unfold F.dX
  rw[M.wq (t:=.sl ag) (nth (t:=aj) tables i).2.1 (fun j w j0 j1 hw=>by
   unfold F.cQ
   simp only[jR]
   rw[aF i0,aF i1,decide_eq_true j1,cond_true,aF j0,aF j1,aF (by unfold lim;simp;omega),aO (n:=j+1) (by omega) (by omega)]) (fun j w j0 j1=>by
   unfold F.cQ
   simp only
   rw[aF i0,aF i1,decide_eq_false (Int.not_lt.2 j1),cond_false])]
  show ah _ _=_
  rw[aF (by unfold lim;simp;omega)]
  rfl)]
 rfl
theorem F.pe (tables:LTb) (h_tables:Sm (Ty.sl aj) tables):F.ju tables=some (M.cv tables):=by
 unfold F.ju M.cv
 cases M.bt tables with
 | false=>rfl
 | true=>
  simp only[jR,M.qL]
  rfl
theorem F.nO (m:Int)  : F.lU m=some (!M.inR m 0 1000):=by
 rfl
theorem F.ia (xs:(List Int)) (h_xs:Sm (Ty.sl (Ty.int .i64)) xs):F.ff xs=some (M.idx (t:=(Ty.int .i64)) (fun e=>!M.inR e 0 1000) xs):=by
 exact fN (t:=(Ty.int .i64)) (p:=(fun e=>!M.inR e 0 1000)) (fun i h0 h1=>by simp only[F.bQ,dN])
theorem F.gk (xs:(List Int)) (h_xs:Sm (Ty.sl (Ty.int .i64)) xs):F.cG xs=some (List.any xs (fun e=>!M.inR e 0 1000)):=by
 unfold F.cG
 exact dM (t:=(Ty.int .i64))
theorem F.qD (s:aE.D) (h_s:Sm aE s) (p0:s.2.2.1=[]):F.jY s=some (M.kH s):=by
 unfold F.jY
 obtain⟨ts,ms,ks,u⟩:=s
 simp only at p0 ⊢
 subst p0
 have hw:bM (F.fu (ts,ms,[],u)) ()=some ():=by
  rw[fC]
  rfl
 rw[hw,<-List.not_all_eq_any_not]
 unfold M.kH
 simp only
 cases M.bt ts<;>cases decide ((ms.length:Int)=(ts.length:Int))<;>cases (ms.all fun m=>M.inR m 0 1000)<;>rfl
theorem F.qv (v:ag.D) (h_v:Sm ag v):F.oh v=some (M.aK v):=by
 rfl
theorem F.sS   : F.mX  = some true:=by
 unfold F.mX
 rw[show M.aK ((1:Int),((3:Int),((⟨#[]⟩:ByteArray),())))=true from rfl,show M.aK ((9:Int),((0:Int),((⟨#[]⟩:ByteArray),())))=false from rfl]
 rfl
theorem F.nr (code:(List Int)) (h_code:Ln (Ty.sl (Ty.int .u8)) code) (p0:M.ak code):F.gM code=some true:=by
 unfold F.gM
 by_cases hc:(1048576:Int)<(code.length:Int)
 ·rw[decide_eq_true hc]
  rfl
 rw[decide_eq_false hc,cond_false]
 have hs:Sm (.sl (.int .u8)) code:=⟨by omega,fun _ _=>trivial⟩
 rw[aF hs,jR]
 obtain⟨d0,d1⟩:=M.jd code hs p0
 generalize M.cT code=ts at *
 have st:Sm (.sl aj) ts:=M.wR d0 d1 (by decide)
 have sn:Sm aE (M.cv ts):=M.vA st
 simp only[jR]
 rw[aF st,aF sn,aF sn,M.ji,aF (M.mL ts)]
 cases h:M.bt ts with
 | false=>rfl
 | true=>
  rw[M.vF h,M.mL]
  rfl
end Go.AE
