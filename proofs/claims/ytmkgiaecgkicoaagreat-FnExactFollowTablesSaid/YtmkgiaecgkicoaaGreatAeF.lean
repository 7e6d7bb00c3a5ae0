/- What the functions compute, read off the code. -/
import Derived.Test.YtmkgiaecgkicoaaGreatAeMark
import Derived.Test.YtmkgiaecgkicoaaGreatAeSeat
namespace Go.AE
open Go Go.RowKit
set_option linter.unusedVariables false
noncomputable def F.mH (x:LC) (left:Int):Option Int:=
 cond (decide (wrap64 (left-(x.length:Int))<(0:Int))) (some (-1:Int)) (some (wrap64 (left-(x.length:Int))))
noncomputable def F.pF (x:aa.D) (left:Int):Option Int:=
 cond (decide (wrap64 (left-(x.2.2.1.size:Int))<(0:Int))) (some (-1:Int)) (some (wrap64 (left-(x.2.2.1.size:Int))))
noncomputable def F.gP (x:LV) (left:Int)  (z0:aa.D) (v0:Int):Option (Sum Int Unit):=
 ag (0<=v0) (ag (v0<=1048576) (cond (decide ((M.bM z0 v0)<(0:Int))) (some (.inr ())) (some (.inl (M.bM z0 v0)))))
noncomputable def F.nH (x:LV) (left:Int):Option Int:=
 cond (decide (wrap64 (left-(x.length:Int))<(0:Int))) (some (-1:Int)) (aT (aK (F.gP x left) x (wrap64 (left-(x.length:Int)))) (fun v0:Int=>some v0) (fun q0:Unit=>some (-1:Int)))
noncomputable def F.gi (x:LLV) (left:Int)  (z0:LV) (v0:Int):Option (Sum Int Unit):=
 ag (0<=v0) (ag (v0<=1048576) (cond (decide ((M.szS M.bM z0 v0)<(0:Int))) (some (.inr ())) (some (.inl (M.szS M.bM z0 v0)))))
noncomputable def F.mR (x:LLV) (left:Int):Option Int:=
 cond (decide (wrap64 (left-(x.length:Int))<(0:Int))) (some (-1:Int)) (aT (aK (F.gi x left) x (wrap64 (left-(x.length:Int)))) (fun v0:Int=>some v0) (fun q0:Unit=>some (-1:Int)))
noncomputable def F.oY (x:TTable.D) (left:Int):Option Int:=
 cond (decide ((M.bE x.1.length left)<(0:Int))) (some (-1:Int)) (ag (0<=(M.bE x.1.length left)) (ag ((M.bE x.1.length left)<=1048576) (cond (decide ((M.szS (M.szS M.bM) x.2.1 (M.bE x.1.length left))<(0:Int))) (some (-1:Int)) (some (M.szS (M.szS M.bM) x.2.1 (M.bE x.1.length left))))))
noncomputable def F.gZ (x:LTb) (left:Int)  (z0:TTable.D) (v0:Int):Option (Sum Int Unit):=
 ag (0<=v0) (ag (v0<=1048576) (cond (decide ((M.bH z0 v0)<(0:Int))) (some (.inr ())) (some (.inl (M.bH z0 v0)))))
noncomputable def F.oA (x:LTb) (left:Int):Option Int:=
 cond (decide (wrap64 (left-(x.length:Int))<(0:Int))) (some (-1:Int)) (aT (aK (F.gZ x left) x (wrap64 (left-(x.length:Int)))) (fun v0:Int=>some v0) (fun q0:Unit=>some (-1:Int)))
noncomputable def F.rN (x:(List Int)) (left:Int):Option Int:=
 cond (decide (wrap64 (left-(x.length:Int))<(0:Int))) (some (-1:Int)) (some (wrap64 (left-(x.length:Int))))
noncomputable def F.qH (x:ax.D) (left:Int):Option Int:=
 cond (decide ((M.bM x.2.2.1 left)<(0:Int))) (some (-1:Int)) (some (M.bM x.2.2.1 left))
noncomputable def F.iG (x:LPt) (left:Int)  (z0:ax.D) (v0:Int):Option (Sum Int Unit):=
 ag (0<=v0) (ag (v0<=1048576) (cond (decide ((M.gy z0 v0)<(0:Int))) (some (.inr ())) (some (.inl (M.gy z0 v0)))))
noncomputable def F.pI (x:LPt) (left:Int):Option Int:=
 cond (decide (wrap64 (left-(x.length:Int))<(0:Int))) (some (-1:Int)) (aT (aK (F.iG x left) x (wrap64 (left-(x.length:Int)))) (fun v0:Int=>some v0) (fun q0:Unit=>some (-1:Int)))
noncomputable def F.qN (x:TBond.D) (left:Int):Option Int:=
 cond (decide ((M.bE x.2.2.1.length left)<(0:Int))) (some (-1:Int)) (ag (0<=(M.bE x.2.2.1.length left)) (ag ((M.bE x.2.2.1.length left)<=1048576) (cond (decide ((M.bE x.2.2.2.2.1.length (M.bE x.2.2.1.length left))<(0:Int))) (some (-1:Int)) (ag (0<=(M.bE x.2.2.2.2.1.length (M.bE x.2.2.1.length left))) (ag ((M.bE x.2.2.2.2.1.length (M.bE x.2.2.1.length left))<=1048576) (cond (decide ((M.szS M.gy x.2.2.2.2.2.2.1 (M.bE x.2.2.2.2.1.length (M.bE x.2.2.1.length left)))<(0:Int))) (some (-1:Int)) (some (M.szS M.gy x.2.2.2.2.2.2.1 (M.bE x.2.2.2.2.1.length (M.bE x.2.2.1.length left))))))))))
noncomputable def F.iI (x:(List TBond.D)) (left:Int)  (z0:TBond.D) (v0:Int):Option (Sum Int Unit):=
 ag (0<=v0) (ag (v0<=1048576) (cond (decide ((M.dj z0 v0)<(0:Int))) (some (.inr ())) (some (.inl (M.dj z0 v0)))))
noncomputable def F.pq (x:(List TBond.D)) (left:Int):Option Int:=
 cond (decide (wrap64 (left-(x.length:Int))<(0:Int))) (some (-1:Int)) (aT (aK (F.iI x left) x (wrap64 (left-(x.length:Int)))) (fun v0:Int=>some v0) (fun q0:Unit=>some (-1:Int)))
noncomputable def F.sV (x:ai.D):Option (ai.D):=
 some x
noncomputable def F.gr (x:LC)  (i0:Int) (v0:LC):Option (Sum LC Unit):=
 bD ((nth (t:=ai) x i0):ai.D) (fun r1:ai.D=>ag (i0<(v0.length:Int)) (some (.inl (v0.set i0.toNat r1))))
noncomputable def F.mK (x:LC):Option LC:=
 aT (aK (F.gr x) (aH (0:Int) (x.length:Int)) (List.replicate (x.length:Int).toNat ((0:Int),(false,())))) (fun v0:LC=>some v0) (fun(_:Unit)=>none)
noncomputable def F.uE (x:aa.D):Option (aa.D):=
 some x
noncomputable def F.gR (x:LV)  (i0:Int) (v0:LV):Option (Sum LV Unit):=
 bD ((nth (t:=aa) x i0):aa.D) (fun r1:aa.D=>ag (i0<(v0.length:Int)) (some (.inl (v0.set i0.toNat r1))))
noncomputable def F.nQ (x:LV):Option LV:=
 aT (aK (F.gR x) (aH (0:Int) (x.length:Int)) (List.replicate (x.length:Int).toNat ((0:Int),((0:Int),((⟨#[]⟩:ByteArray),()))))) (fun v0:LV=>some v0) (fun(_:Unit)=>none)
noncomputable def F.gp (x:LLV)  (i0:Int) (v0:LLV):Option (Sum LLV Unit):=
 bD ((nth (t:=(Ty.sl aa)) x i0):LV) (fun r1:LV=>ag (i0<(v0.length:Int)) (some (.inl (v0.set i0.toNat r1))))
noncomputable def F.mu (x:LLV):Option LLV:=
 aT (aK (F.gp x) (aH (0:Int) (x.length:Int)) (List.replicate (x.length:Int).toNat [])) (fun v0:LLV=>some v0) (fun(_:Unit)=>none)
noncomputable def F.gS (x:LTb)  (i0:Int) (v0:LTb):Option (Sum LTb Unit):=
 bD ((nth (t:=TTable) x i0).1:LC) (fun r1:LC=>bD ((nth (t:=TTable) x i0).2.1:LLV) (fun r2:LLV=>ag (i0<(v0.length:Int)) (some (.inl (v0.set i0.toNat (r1,(r2,())))))))
noncomputable def F.oa (x:LTb):Option LTb:=
 aT (aK (F.gS x) (aH (0:Int) (x.length:Int)) (List.replicate (x.length:Int).toNat ([],([],())))) (fun v0:LTb=>some v0) (fun(_:Unit)=>none)
noncomputable def F.jA (x:(List Int))  (i0:Int) (v0:(List Int)):Option (Sum (List Int) Unit):=
 ag (i0<(v0.length:Int)) (some (.inl (v0.set i0.toNat (nth (t:=(Ty.int .i64)) x i0))))
noncomputable def F.qW (x:(List Int)):Option (List Int):=
 aT (aK (F.jA x) (aH (0:Int) (x.length:Int)) (List.replicate (x.length:Int).toNat (0:Int))) (fun v0:(List Int)=>some v0) (fun(_:Unit)=>none)
noncomputable def F.xF (x:ax.D):Option (ax.D):=
 bD (x.2.2.1:aa.D) (fun r1:aa.D=>some (x.1,(x.2.1,(r1,()))))
noncomputable def F.iN (x:LPt)  (i0:Int) (v0:LPt):Option (Sum LPt Unit):=
 bD ((nth (t:=ax) x i0):ax.D) (fun r1:ax.D=>ag (i0<(v0.length:Int)) (some (.inl (v0.set i0.toNat r1))))
noncomputable def F.pX (x:LPt):Option LPt:=
 aT (aK (F.iN x) (aH (0:Int) (x.length:Int)) (List.replicate (x.length:Int).toNat ((0:Int),((0:Int),(((0:Int),((0:Int),((⟨#[]⟩:ByteArray),()))),()))))) (fun v0:LPt=>some v0) (fun(_:Unit)=>none)
noncomputable def F.iL (x:(List TBond.D))  (i0:Int) (v0:(List TBond.D)):Option (Sum (List TBond.D) Unit):=
 bD ((nth (t:=TBond) x i0).2.2.1:(List Int)) (fun r1:(List Int)=>bD ((nth (t:=TBond) x i0).2.2.2.2.1:(List Int)) (fun r2:(List Int)=>bD ((nth (t:=TBond) x i0).2.2.2.2.2.2.1:LPt) (fun r3:LPt=>ag (i0<(v0.length:Int)) (bD ((v0.set i0.toNat ((nth (t:=TBond) x i0).1,((nth (t:=TBond) x i0).2.1,(r1,((nth (t:=TBond) x i0).2.2.2.1,(r2,((nth (t:=TBond) x i0).2.2.2.2.2.1,(r3,())))))))):(List TBond.D)) (fun y1:(List TBond.D)=>some (.inl y1))))))
noncomputable def F.qt (x:(List TBond.D)):Option (List TBond.D):=
 aT (aK (F.iL x) (aH (0:Int) (x.length:Int)) (List.replicate (x.length:Int).toNat ((0:Int),((0:Int),([],((0:Int),([],(false,([],()))))))))) (fun v0:(List TBond.D)=>some v0) (fun(_:Unit)=>none)
noncomputable def F.oc (x:ai.D) (y:ai.D):Option Bool:=
 cond (!decide (x.1=y.1)) (some false) (cond (!(Ty.beq Ty.bool x.2.1 y.2.1)) (some false) (some true))
noncomputable def F.gb (x:LC) (y:LC)  (i0:Int) (v0:Unit):Option (Sum Unit Unit):=
 ag (i0<(y.length:Int)) (ag ((nth (t:=ai) x i0)=(nth (t:=ai) y i0)) (cond (!true) (some (.inr ())) (some (.inl ()))))
noncomputable def F.mw (x:LC) (y:LC):Option Bool:=
 cond (!decide ((x.length:Int)=(y.length:Int))) (some false) (aT (aK (F.gb x y) (aH (0:Int) (x.length:Int)) ()) (fun v0:Unit=>some true) (fun q0:Unit=>some false))
noncomputable def F.qg (x:aa.D) (y:aa.D):Option Bool:=
 cond (!decide (x.1=y.1)) (some false) (cond (!decide (x.2.1=y.2.1)) (some false) (cond (!decide (x.2.2.1=y.2.2.1)) (some false) (some true)))
noncomputable def F.gM (x:LV) (y:LV)  (i0:Int) (v0:Unit):Option (Sum Unit Unit):=
 ag (i0<(y.length:Int)) (ag ((nth (t:=aa) x i0)=(nth (t:=aa) y i0)) (cond (!true) (some (.inr ())) (some (.inl ()))))
noncomputable def F.od (x:LV) (y:LV):Option Bool:=
 cond (!decide ((x.length:Int)=(y.length:Int))) (some false) (aT (aK (F.gM x y) (aH (0:Int) (x.length:Int)) ()) (fun v0:Unit=>some true) (fun q0:Unit=>some false))
noncomputable def F.gf (x:LLV) (y:LLV)  (i0:Int) (v0:Unit):Option (Sum Unit Unit):=
 ag (i0<(y.length:Int)) (ag ((nth (t:=(Ty.sl aa)) x i0)=(nth (t:=(Ty.sl aa)) y i0)) (cond (!true) (some (.inr ())) (some (.inl ()))))
noncomputable def F.mO (x:LLV) (y:LLV):Option Bool:=
 cond (!decide ((x.length:Int)=(y.length:Int))) (some false) (aT (aK (F.gf x y) (aH (0:Int) (x.length:Int)) ()) (fun v0:Unit=>some true) (fun q0:Unit=>some false))
noncomputable def F.qe (x:TTable.D) (y:TTable.D):Option Bool:=
 ag (x.1=y.1) (cond (!true) (some false) (ag (x.2.1=y.2.1) (some true)))
noncomputable def F.gW (x:LTb) (y:LTb)  (i0:Int) (v0:Unit):Option (Sum Unit Unit):=
 ag (i0<(y.length:Int)) (ag ((nth (t:=TTable) x i0)=(nth (t:=TTable) y i0)) (cond (!true) (some (.inr ())) (some (.inl ()))))
noncomputable def F.nX (x:LTb) (y:LTb):Option Bool:=
 cond (!decide ((x.length:Int)=(y.length:Int))) (some false) (aT (aK (F.gW x y) (aH (0:Int) (x.length:Int)) ()) (fun v0:Unit=>some true) (fun q0:Unit=>some false))
noncomputable def F.jC (x:(List Int)) (y:(List Int))  (i0:Int) (v0:Unit):Option (Sum Unit Unit):=
 ag (i0<(y.length:Int)) (cond (!decide ((nth (t:=(Ty.int .i64)) x i0)=(nth (t:=(Ty.int .i64)) y i0))) (some (.inr ())) (some (.inl ())))
noncomputable def F.qR (x:(List Int)) (y:(List Int)):Option Bool:=
 cond (!decide ((x.length:Int)=(y.length:Int))) (some false) (aT (aK (F.jC x y) (aH (0:Int) (x.length:Int)) ()) (fun v0:Unit=>some true) (fun q0:Unit=>some false))
noncomputable def F.rC (x:ax.D) (y:ax.D):Option Bool:=
 cond (!decide (x.1=y.1)) (some false) (cond (!decide (x.2.1=y.2.1)) (some false) (ag (x.2.2.1=y.2.2.1) (cond (!true) (some false) (some true))))
noncomputable def F.iH (x:LPt) (y:LPt)  (i0:Int) (v0:Unit):Option (Sum Unit Unit):=
 ag (i0<(y.length:Int)) (ag ((nth (t:=ax) x i0)=(nth (t:=ax) y i0)) (cond (!true) (some (.inr ())) (some (.inl ()))))
noncomputable def F.oU (x:LPt) (y:LPt):Option Bool:=
 cond (!decide ((x.length:Int)=(y.length:Int))) (some false) (aT (aK (F.iH x y) (aH (0:Int) (x.length:Int)) ()) (fun v0:Unit=>some true) (fun q0:Unit=>some false))
noncomputable def F.rL (x:TBond.D) (y:TBond.D):Option Bool:=
 cond (!decide (x.1=y.1)) (some false) (cond (!decide (x.2.1=y.2.1)) (some false) (ag (x.2.2.1=y.2.2.1) (cond (!true) (some false) (cond (!decide (x.2.2.2.1=y.2.2.2.1)) (some false) (ag (x.2.2.2.2.1=y.2.2.2.2.1) (cond (!(Ty.beq Ty.bool x.2.2.2.2.2.1 y.2.2.2.2.2.1)) (some false) (ag (x.2.2.2.2.2.2.1=y.2.2.2.2.2.2.1) (some true))))))))
noncomputable def F.iE (x:(List TBond.D)) (y:(List TBond.D))  (i0:Int) (v0:Unit):Option (Sum Unit Unit):=
 ag (i0<(y.length:Int)) (ag ((nth (t:=TBond) x i0)=(nth (t:=TBond) y i0)) (cond (!true) (some (.inr ())) (some (.inl ()))))
noncomputable def F.pG (x:(List TBond.D)) (y:(List TBond.D)):Option Bool:=
 cond (!decide ((x.length:Int)=(y.length:Int))) (some false) (aT (aK (F.iE x y) (aH (0:Int) (x.length:Int)) ()) (fun v0:Unit=>some true) (fun q0:Unit=>some false))
noncomputable def F.eV (x:LC) (k:Int)  (i0:Int) (v0:Int×LC):Option (Sum (Int×LC) Unit):=
 bD (((v0.2.set i0.toNat (v0.1,(nth (t:=ai) v0.2 i0).2)).set i0.toNat ((nth (t:=ai) (v0.2.set i0.toNat (v0.1,(nth (t:=ai) v0.2 i0).2)) i0).1,((decide (((wrap64 (v0.1+(1:Int))).tmod (3:Int))=(0:Int))),()))):LC) (fun y1:LC=>some (.inl (wrap64 (wrap64 (v0.1+(1:Int))+(1:Int)),y1)))
noncomputable def F.jV (x:LC) (k:Int):Option (LC×Int):=
 aT (aK (F.eV x k) (aH (0:Int) (x.length:Int)) (k,x)) (fun v0:Int×LC=>some (v0.2,v0.1)) (fun(_:Unit)=>none)
noncomputable def F.gV (k:Int)   (v0:Int×ByteArray):Option (Sum (Int×ByteArray) ByteArray):=
 cond (decide ((0:Int)<v0.1)) (ag ((strOf [((wrap64 ((48:Int)+(v0.1.tmod (10:Int)))) % 256)]).size+v0.2.size<=9223372036854775807) (some (.inl (wrap64 (v0.1.tdiv (10:Int)),((strOf [((wrap64 ((48:Int)+(v0.1.tmod (10:Int)))) % 256)])++v0.2))))) (some (.inr v0.2))
noncomputable def F.nE (k:Int):Option ByteArray:=
 cond (decide (k<=(0:Int))) (some (⟨#[109,48]⟩:ByteArray)) (Option.bind (cC (F.gV k) (k,(⟨#[]⟩:ByteArray))) (fun e0:ByteArray=>ag ((⟨#[109]⟩:ByteArray).size+e0.size<=9223372036854775807) (some ((⟨#[109]⟩:ByteArray)++e0))))
noncomputable def F.fK (x:LV) (k:Int)  (i0:Int) (v0:Int×LV):Option (Sum (Int×LV) Unit):=
 bD (((v0.2.set i0.toNat (v0.1,(nth (t:=aa) v0.2 i0).2)).set i0.toNat ((nth (t:=aa) (v0.2.set i0.toNat (v0.1,(nth (t:=aa) v0.2 i0).2)) i0).1,(wrap64 (v0.1+(1:Int)),(nth (t:=aa) (v0.2.set i0.toNat (v0.1,(nth (t:=aa) v0.2 i0).2)) i0).2.2))):LV) (fun y1:LV=>ag ((wrap64 (wrap64 (v0.1+(1:Int))+(1:Int)))<=M.big) (bD ((M.eK (wrap64 (wrap64 (v0.1+(1:Int))+(1:Int)))):ByteArray) (fun r1:ByteArray=>bD ((y1.set i0.toNat ((nth (t:=aa) y1 i0).1,((nth (t:=aa) y1 i0).2.1,(r1,())))):LV) (fun y2:LV=>some (.inl (wrap64 (wrap64 (wrap64 (v0.1+(1:Int))+(1:Int))+(1:Int)),y2))))))
noncomputable def F.kW (x:LV) (k:Int):Option (LV×Int):=
 aT (aK (F.fK x k) (aH (0:Int) (x.length:Int)) (k,x)) (fun v0:Int×LV=>some (v0.2,v0.1)) (fun(_:Unit)=>none)
noncomputable def F.eX (x:LLV) (k:Int)  (i0:Int) (v0:Int×LLV):Option (Sum (Int×LLV) Unit):=
 ag (Ln (Ty.sl aa) (nth (t:=(Ty.sl aa)) v0.2 i0)) (ag (0<=v0.1) (ag (v0.1+(M.count (Ty.sl aa) (nth (t:=(Ty.sl aa)) v0.2 i0):Int)<=M.big) (bD ((M.mark (Ty.sl aa) (nth (t:=(Ty.sl aa)) v0.2 i0) v0.1,v0.1+(M.count (Ty.sl aa) (nth (t:=(Ty.sl aa)) v0.2 i0):Int)):LV×Int) (fun r1:LV×Int=>some (.inl (r1.2,(v0.2.set i0.toNat r1.1)))))))
noncomputable def F.jS (x:LLV) (k:Int):Option (LLV×Int):=
 aT (aK (F.eX x k) (aH (0:Int) (x.length:Int)) (k,x)) (fun v0:Int×LLV=>some (v0.2,v0.1)) (fun(_:Unit)=>none)
noncomputable def F.fF (x:LTb) (k:Int)  (i0:Int) (v0:Int×LTb):Option (Sum (Int×LTb) Unit):=
 ag (Ln (Ty.sl ai) (nth (t:=TTable) v0.2 i0).1) (ag (0<=v0.1) (ag (v0.1+(M.count (Ty.sl ai) (nth (t:=TTable) v0.2 i0).1:Int)<=M.big) (bD ((M.mark (Ty.sl ai) (nth (t:=TTable) v0.2 i0).1 v0.1,v0.1+(M.count (Ty.sl ai) (nth (t:=TTable) v0.2 i0).1:Int)):LC×Int) (fun r1:LC×Int=>ag (Ln (Ty.sl (Ty.sl aa)) (nth (t:=TTable) (v0.2.set i0.toNat (r1.1,(nth (t:=TTable) v0.2 i0).2)) i0).2.1) (ag (0<=r1.2) (ag (r1.2+(M.count (Ty.sl (Ty.sl aa)) (nth (t:=TTable) (v0.2.set i0.toNat (r1.1,(nth (t:=TTable) v0.2 i0).2)) i0).2.1:Int)<=M.big) (bD ((M.mark (Ty.sl (Ty.sl aa)) (nth (t:=TTable) (v0.2.set i0.toNat (r1.1,(nth (t:=TTable) v0.2 i0).2)) i0).2.1 r1.2,r1.2+(M.count (Ty.sl (Ty.sl aa)) (nth (t:=TTable) (v0.2.set i0.toNat (r1.1,(nth (t:=TTable) v0.2 i0).2)) i0).2.1:Int)):LLV×Int) (fun r2:LLV×Int=>some (.inl (r2.2,((v0.2.set i0.toNat (r1.1,(nth (t:=TTable) v0.2 i0).2)).set i0.toNat ((nth (t:=TTable) (v0.2.set i0.toNat (r1.1,(nth (t:=TTable) v0.2 i0).2)) i0).1,(r2.1,())))))))))))))
noncomputable def F.kZ (x:LTb) (k:Int):Option (LTb×Int):=
 aT (aK (F.fF x k) (aH (0:Int) (x.length:Int)) (k,x)) (fun v0:Int×LTb=>some (v0.2,v0.1)) (fun(_:Unit)=>none)
noncomputable def F.gY (x:(List Int)) (k:Int)  (i0:Int) (v0:Int×(List Int)):Option (Sum (Int×(List Int)) Unit):=
 some (.inl (wrap64 (v0.1+(1:Int)),(v0.2.set i0.toNat v0.1)))
noncomputable def F.nA (x:(List Int)) (k:Int):Option ((List Int)×Int):=
 aT (aK (F.gY x k) (aH (0:Int) (x.length:Int)) (k,x)) (fun v0:Int×(List Int)=>some (v0.2,v0.1)) (fun(_:Unit)=>none)
noncomputable def F.gm (x:LPt) (k:Int)  (i0:Int) (v0:Int×LPt):Option (Sum (Int×LPt) Unit):=
 bD (((v0.2.set i0.toNat (v0.1,(nth (t:=ax) v0.2 i0).2)).set i0.toNat ((nth (t:=ax) (v0.2.set i0.toNat (v0.1,(nth (t:=ax) v0.2 i0).2)) i0).1,(wrap64 (v0.1+(1:Int)),(nth (t:=ax) (v0.2.set i0.toNat (v0.1,(nth (t:=ax) v0.2 i0).2)) i0).2.2))):LPt) (fun y1:LPt=>bD ((y1.set i0.toNat ((nth (t:=ax) y1 i0).1,((nth (t:=ax) y1 i0).2.1,((wrap64 (wrap64 (v0.1+(1:Int))+(1:Int)),(nth (t:=ax) y1 i0).2.2.1.2),())))):LPt) (fun y2:LPt=>bD ((y2.set i0.toNat ((nth (t:=ax) y2 i0).1,((nth (t:=ax) y2 i0).2.1,(((nth (t:=ax) y2 i0).2.2.1.1,(wrap64 (wrap64 (wrap64 (v0.1+(1:Int))+(1:Int))+(1:Int)),(nth (t:=ax) y2 i0).2.2.1.2.2)),())))):LPt) (fun y3:LPt=>ag ((wrap64 (wrap64 (wrap64 (wrap64 (v0.1+(1:Int))+(1:Int))+(1:Int))+(1:Int)))<=M.big) (bD ((M.eK (wrap64 (wrap64 (wrap64 (wrap64 (v0.1+(1:Int))+(1:Int))+(1:Int))+(1:Int)))):ByteArray) (fun r1:ByteArray=>bD ((y3.set i0.toNat ((nth (t:=ax) y3 i0).1,((nth (t:=ax) y3 i0).2.1,(((nth (t:=ax) y3 i0).2.2.1.1,((nth (t:=ax) y3 i0).2.2.1.2.1,(r1,()))),())))):LPt) (fun y4:LPt=>some (.inl (wrap64 (wrap64 (wrap64 (wrap64 (wrap64 (v0.1+(1:Int))+(1:Int))+(1:Int))+(1:Int))+(1:Int)),y4))))))))
noncomputable def F.mm (x:LPt) (k:Int):Option (LPt×Int):=
 aT (aK (F.gm x k) (aH (0:Int) (x.length:Int)) (k,x)) (fun v0:Int×LPt=>some (v0.2,v0.1)) (fun(_:Unit)=>none)
noncomputable def F.gn (x:(List TBond.D)) (k:Int)  (i0:Int) (v0:Int×(List TBond.D)):Option (Sum (Int×(List TBond.D)) Unit):=
 bD (((v0.2.set i0.toNat (v0.1,(nth (t:=TBond) v0.2 i0).2)).set i0.toNat ((nth (t:=TBond) (v0.2.set i0.toNat (v0.1,(nth (t:=TBond) v0.2 i0).2)) i0).1,(wrap64 (v0.1+(1:Int)),(nth (t:=TBond) (v0.2.set i0.toNat (v0.1,(nth (t:=TBond) v0.2 i0).2)) i0).2.2))):(List TBond.D)) (fun y1:(List TBond.D)=>ag (Ln (Ty.sl (Ty.int .i64)) (nth (t:=TBond) y1 i0).2.2.1) (ag (0<=(wrap64 (wrap64 (v0.1+(1:Int))+(1:Int)))) (ag ((wrap64 (wrap64 (v0.1+(1:Int))+(1:Int)))+(M.count (Ty.sl (Ty.int .i64)) (nth (t:=TBond) y1 i0).2.2.1:Int)<=M.big) (bD ((M.mark (Ty.sl (Ty.int .i64)) (nth (t:=TBond) y1 i0).2.2.1 (wrap64 (wrap64 (v0.1+(1:Int))+(1:Int))),(wrap64 (wrap64 (v0.1+(1:Int))+(1:Int)))+(M.count (Ty.sl (Ty.int .i64)) (nth (t:=TBond) y1 i0).2.2.1:Int)):(List Int)×Int) (fun r1:(List Int)×Int=>bD (((y1.set i0.toNat ((nth (t:=TBond) y1 i0).1,((nth (t:=TBond) y1 i0).2.1,(r1.1,(nth (t:=TBond) y1 i0).2.2.2)))).set i0.toNat ((nth (t:=TBond) (y1.set i0.toNat ((nth (t:=TBond) y1 i0).1,((nth (t:=TBond) y1 i0).2.1,(r1.1,(nth (t:=TBond) y1 i0).2.2.2)))) i0).1,((nth (t:=TBond) (y1.set i0.toNat ((nth (t:=TBond) y1 i0).1,((nth (t:=TBond) y1 i0).2.1,(r1.1,(nth (t:=TBond) y1 i0).2.2.2)))) i0).2.1,((nth (t:=TBond) (y1.set i0.toNat ((nth (t:=TBond) y1 i0).1,((nth (t:=TBond) y1 i0).2.1,(r1.1,(nth (t:=TBond) y1 i0).2.2.2)))) i0).2.2.1,(r1.2,(nth (t:=TBond) (y1.set i0.toNat ((nth (t:=TBond) y1 i0).1,((nth (t:=TBond) y1 i0).2.1,(r1.1,(nth (t:=TBond) y1 i0).2.2.2)))) i0).2.2.2.2))))):(List TBond.D)) (fun y2:(List TBond.D)=>ag (Ln (Ty.sl (Ty.int .i64)) (nth (t:=TBond) y2 i0).2.2.2.2.1) (ag (0<=(wrap64 (r1.2+(1:Int)))) (ag ((wrap64 (r1.2+(1:Int)))+(M.count (Ty.sl (Ty.int .i64)) (nth (t:=TBond) y2 i0).2.2.2.2.1:Int)<=M.big) (bD ((M.mark (Ty.sl (Ty.int .i64)) (nth (t:=TBond) y2 i0).2.2.2.2.1 (wrap64 (r1.2+(1:Int))),(wrap64 (r1.2+(1:Int)))+(M.count (Ty.sl (Ty.int .i64)) (nth (t:=TBond) y2 i0).2.2.2.2.1:Int)):(List Int)×Int) (fun r2:(List Int)×Int=>bD (((y2.set i0.toNat ((nth (t:=TBond) y2 i0).1,((nth (t:=TBond) y2 i0).2.1,((nth (t:=TBond) y2 i0).2.2.1,((nth (t:=TBond) y2 i0).2.2.2.1,(r2.1,(nth (t:=TBond) y2 i0).2.2.2.2.2)))))).set i0.toNat ((nth (t:=TBond) (y2.set i0.toNat ((nth (t:=TBond) y2 i0).1,((nth (t:=TBond) y2 i0).2.1,((nth (t:=TBond) y2 i0).2.2.1,((nth (t:=TBond) y2 i0).2.2.2.1,(r2.1,(nth (t:=TBond) y2 i0).2.2.2.2.2)))))) i0).1,((nth (t:=TBond) (y2.set i0.toNat ((nth (t:=TBond) y2 i0).1,((nth (t:=TBond) y2 i0).2.1,((nth (t:=TBond) y2 i0).2.2.1,((nth (t:=TBond) y2 i0).2.2.2.1,(r2.1,(nth (t:=TBond) y2 i0).2.2.2.2.2)))))) i0).2.1,((nth (t:=TBond) (y2.set i0.toNat ((nth (t:=TBond) y2 i0).1,((nth (t:=TBond) y2 i0).2.1,((nth (t:=TBond) y2 i0).2.2.1,((nth (t:=TBond) y2 i0).2.2.2.1,(r2.1,(nth (t:=TBond) y2 i0).2.2.2.2.2)))))) i0).2.2.1,((nth (t:=TBond) (y2.set i0.toNat ((nth (t:=TBond) y2 i0).1,((nth (t:=TBond) y2 i0).2.1,((nth (t:=TBond) y2 i0).2.2.1,((nth (t:=TBond) y2 i0).2.2.2.1,(r2.1,(nth (t:=TBond) y2 i0).2.2.2.2.2)))))) i0).2.2.2.1,((nth (t:=TBond) (y2.set i0.toNat ((nth (t:=TBond) y2 i0).1,((nth (t:=TBond) y2 i0).2.1,((nth (t:=TBond) y2 i0).2.2.1,((nth (t:=TBond) y2 i0).2.2.2.1,(r2.1,(nth (t:=TBond) y2 i0).2.2.2.2.2)))))) i0).2.2.2.2.1,((decide ((r2.2.tmod (3:Int))=(0:Int))),(nth (t:=TBond) (y2.set i0.toNat ((nth (t:=TBond) y2 i0).1,((nth (t:=TBond) y2 i0).2.1,((nth (t:=TBond) y2 i0).2.2.1,((nth (t:=TBond) y2 i0).2.2.2.1,(r2.1,(nth (t:=TBond) y2 i0).2.2.2.2.2)))))) i0).2.2.2.2.2.2))))))):(List TBond.D)) (fun y3:(List TBond.D)=>ag (Ln (Ty.sl ax) (nth (t:=TBond) y3 i0).2.2.2.2.2.2.1) (ag (0<=(wrap64 (r2.2+(1:Int)))) (ag ((wrap64 (r2.2+(1:Int)))+(M.count (Ty.sl ax) (nth (t:=TBond) y3 i0).2.2.2.2.2.2.1:Int)<=M.big) (bD ((M.mark (Ty.sl ax) (nth (t:=TBond) y3 i0).2.2.2.2.2.2.1 (wrap64 (r2.2+(1:Int))),(wrap64 (r2.2+(1:Int)))+(M.count (Ty.sl ax) (nth (t:=TBond) y3 i0).2.2.2.2.2.2.1:Int)):LPt×Int) (fun r3:LPt×Int=>some (.inl (r3.2,(y3.set i0.toNat ((nth (t:=TBond) y3 i0).1,((nth (t:=TBond) y3 i0).2.1,((nth (t:=TBond) y3 i0).2.2.1,((nth (t:=TBond) y3 i0).2.2.2.1,((nth (t:=TBond) y3 i0).2.2.2.2.1,((nth (t:=TBond) y3 i0).2.2.2.2.2.1,(r3.1,())))))))))))))))))))))))))
noncomputable def F.mG (x:(List TBond.D)) (k:Int):Option ((List TBond.D)×Int):=
 aT (aK (F.gn x k) (aH (0:Int) (x.length:Int)) (k,x)) (fun v0:Int×(List TBond.D)=>some (v0.2,v0.1)) (fun(_:Unit)=>none)
noncomputable def F.eY (x:LC) (k:Int)  (z0:ai.D) (v0:Int):Option (Sum Int Unit):=
 cond (!decide (z0.1=v0)) (some (.inr ())) (cond (!(Ty.beq Ty.bool z0.2.1 (decide (((wrap64 (v0+(1:Int))).tmod (3:Int))=(0:Int))))) (some (.inr ())) (some (.inl (wrap64 (wrap64 (v0+(1:Int))+(1:Int))))))
noncomputable def F.ke (x:LC) (k:Int):Option Int:=
 aT (aK (F.eY x k) x k) (fun v0:Int=>some v0) (fun q0:Unit=>some (-1:Int))
noncomputable def F.fL (x:LV) (k:Int)  (z0:aa.D) (v0:Int):Option (Sum Int Unit):=
 cond (!decide (z0.1=v0)) (some (.inr ())) (cond (!decide (z0.2.1=wrap64 (v0+(1:Int)))) (some (.inr ())) (ag ((wrap64 (wrap64 (v0+(1:Int))+(1:Int)))<=M.big) (bD ((M.eK (wrap64 (wrap64 (v0+(1:Int))+(1:Int)))):ByteArray) (fun r1:ByteArray=>cond (!decide (z0.2.2.1=r1)) (some (.inr ())) (some (.inl (wrap64 (wrap64 (wrap64 (v0+(1:Int))+(1:Int))+(1:Int)))))))))
noncomputable def F.lB (x:LV) (k:Int):Option Int:=
 aT (aK (F.fL x k) x k) (fun v0:Int=>some v0) (fun q0:Unit=>some (-1:Int))
noncomputable def F.eW (x:LLV) (k:Int)  (z0:LV) (v0:Int):Option (Sum Int Unit):=
 ag (0<=v0) (ag (v0+(M.count (Ty.sl aa) z0:Int)<=M.big) (ag (M.mark (Ty.sl aa) z0 v0=z0) (cond (decide ((v0+(M.count (Ty.sl aa) z0:Int))<(0:Int))) (some (.inr ())) (some (.inl (v0+(M.count (Ty.sl aa) z0:Int)))))))
noncomputable def F.jQ (x:LLV) (k:Int):Option Int:=
 aT (aK (F.eW x k) x k) (fun v0:Int=>some v0) (fun q0:Unit=>some (-1:Int))
noncomputable def F.fG (x:LTb) (k:Int)  (z0:TTable.D) (v0:Int):Option (Sum Int Unit):=
 ag (0<=v0) (ag (v0+(M.count (Ty.sl ai) z0.1:Int)<=M.big) (ag (M.mark (Ty.sl ai) z0.1 v0=z0.1) (cond (decide ((v0+(M.count (Ty.sl ai) z0.1:Int))<(0:Int))) (some (.inr ())) (ag (0<=(v0+(M.count (Ty.sl ai) z0.1:Int))) (ag ((v0+(M.count (Ty.sl ai) z0.1:Int))+(M.count (Ty.sl (Ty.sl aa)) z0.2.1:Int)<=M.big) (ag (M.mark (Ty.sl (Ty.sl aa)) z0.2.1 (v0+(M.count (Ty.sl ai) z0.1:Int))=z0.2.1) (cond (decide (((v0+(M.count (Ty.sl ai) z0.1:Int))+(M.count (Ty.sl (Ty.sl aa)) z0.2.1:Int))<(0:Int))) (some (.inr ())) (some (.inl ((v0+(M.count (Ty.sl ai) z0.1:Int))+(M.count (Ty.sl (Ty.sl aa)) z0.2.1:Int)))))))))))
noncomputable def F.kY (x:LTb) (k:Int):Option Int:=
 aT (aK (F.fG x k) x k) (fun v0:Int=>some v0) (fun q0:Unit=>some (-1:Int))
noncomputable def F.nB (x:TChange.D) (left:Int):Option Int:=
 cond (decide ((M.szS M.bM x.2.1 left)<(0:Int))) (some (-1:Int)) (some (M.szS M.bM x.2.1 left))
noncomputable def F.vY (n:Int) (low:Int) (high:Int):Option Bool:=
 cond ((decide (low<=n))==true) (some (decide (n<=high))) (some false)
noncomputable def F.gu (columns:LC)  (z0:ai.D) (v0:Unit):Option (Sum Unit Unit):=
 cond (!(M.inR z0.1 (1:Int) (3:Int))) (some (.inr ())) (some (.inl ()))
noncomputable def F.mD (columns:LC):Option Bool:=
 aT (aK (F.gu columns) columns ()) (fun v0:Unit=>some (decide ((columns.length:Int)<=(4:Int)))) (fun q0:Unit=>some false)
noncomputable def F.jo (s:ByteArray)  (i0:Int) (v0:Unit):Option (Sum Unit Unit):=
 cond ((decide (((s.get! i0.toNat).toNat:Int)<(97:Int)))==false) (cond (decide ((122:Int)<((s.get! i0.toNat).toNat:Int))) (some (.inr ())) (some (.inl ()))) (some (.inr ()))
noncomputable def F.rQ (s:ByteArray):Option Bool:=
 aT (aK (F.jo s) (aH (0:Int) (s.size:Int)) ()) (fun v0:Unit=>some (decide ((s.size:Int)<=(6:Int)))) (fun q0:Unit=>some false)
noncomputable def F.pW (v:aa.D):Option Bool:=
 cond (decide (v.1=(0:Int))) (cond ((decide (v.2.1=(0:Int)))==true) (some (decide (v.2.2.1=(⟨#[]⟩:ByteArray)))) (some false)) (cond (decide (v.1=(1:Int))) (cond ((M.inR v.2.1 (-9999:Int) (9999:Int))==true) (some (decide (v.2.2.1=(⟨#[]⟩:ByteArray)))) (some false)) (cond (decide (v.1=(2:Int))) (cond ((decide (v.2.1=(0:Int)))==true) (some (M.text v.2.2.1)) (some false)) (cond (decide (v.1=(3:Int))) (cond ((M.inR v.2.1 (0:Int) (1:Int))==true) (some (decide (v.2.2.1=(⟨#[]⟩:ByteArray)))) (some false)) (some false))))
noncomputable def F.kj (row:LV)  (z0:aa.D) (v0:Unit):Option (Sum Unit Unit):=
 cond (!(M.aO z0)) (some (.inr ())) (some (.inl ()))
noncomputable def F.tC (row:LV):Option Bool:=
 aT (aK (F.kj row) row ()) (fun v0:Unit=>some (decide ((row.length:Int)<=(4:Int)))) (fun q0:Unit=>some false)
noncomputable def F.iK (columns:LC) (row:LV)  (i0:Int) (v0:Unit):Option (Sum Unit Unit):=
 ag (i0<(columns.length:Int)) (cond ((!decide ((nth (t:=aa) row i0).1=(nth (t:=ai) columns i0).1))==true) (cond ((!decide ((nth (t:=aa) row i0).1=(0:Int)))==false) (cond (!(nth (t:=ai) columns i0).2.1) (some (.inr ())) (some (.inl ()))) (some (.inr ()))) (some (.inl ())))
noncomputable def F.oW (columns:LC) (row:LV):Option Bool:=
 cond ((!(M.bC columns))==false) (cond ((!(M.oS row))==false) (cond (!decide ((row.length:Int)=(columns.length:Int))) (some false) (aT (aK (F.iK columns row) (aH (0:Int) (row.length:Int)) ()) (fun v0:Unit=>some true) (fun q0:Unit=>some false))) (some false)) (some false)
noncomputable def F.ji (columns:LC) (rows:LLV)  (z0:LV) (v0:Unit):Option (Sum Unit Unit):=
 cond (!(M.bG columns z0)) (some (.inr ())) (some (.inl ()))
noncomputable def F.rE (columns:LC) (rows:LLV):Option Bool:=
 aT (aK (F.ji columns rows) rows ()) (fun v0:Unit=>some (M.bC columns)) (fun q0:Unit=>some false)
noncomputable def F.gX (tables:LTb)  (z0:TTable.D) (v0:Unit):Option (Sum Unit Unit):=
 cond ((decide ((6:Int)<(z0.2.1.length:Int)))==false) (cond (!(M.fX z0.1 z0.2.1)) (some (.inr ())) (some (.inl ()))) (some (.inr ()))
noncomputable def F.oz (tables:LTb):Option Bool:=
 aT (aK (F.gX tables) tables ()) (fun v0:Unit=>some (decide ((tables.length:Int)<=(3:Int)))) (fun q0:Unit=>some false)
noncomputable def F.fN (columns:LC) (list:(List Int))  (z0:Int) (v0:Unit):Option (Sum Unit Unit):=
 cond (!(M.inR z0 (0:Int) (wrap64 ((columns.length:Int)-(1:Int))))) (some (.inr ())) (some (.inl ()))
noncomputable def F.lE (columns:LC) (list:(List Int)):Option Bool:=
 aT (aK (F.fN columns list) list ()) (fun v0:Unit=>some (M.inR (list.length:Int) (1:Int) (4:Int))) (fun q0:Unit=>some false)
noncomputable def F.kM (columns:LC) (kinds:(List Int)) (p:ax.D):Option ((List Int)×Bool):=
 cond ((!decide (p.1=(1:Int)))==true) (cond ((!(Ty.beq aa p.2.2.1 ((0:Int),((0:Int),((⟨#[]⟩:ByteArray),())))))==false) (cond ((!decide (p.1=(2:Int)))==true) (cond ((!decide (p.1=(4:Int)))==true) (cond (!decide (p.2.1=(0:Int))) (some (kinds,false)) (cond (decide (p.1=(3:Int))) (cond ((decide ((1:Int)<(kinds.length:Int)))==true) (ag (0<=wrap64 ((kinds.length:Int)-(1:Int))) (ag (wrap64 ((kinds.length:Int)-(1:Int))<(kinds.length:Int)) (cond ((decide ((nth (t:=(Ty.int .i64)) kinds (wrap64 ((kinds.length:Int)-(1:Int))))=(1:Int)))==true) (ag (0<=wrap64 ((kinds.length:Int)-(2:Int))) (ag (wrap64 ((kinds.length:Int)-(2:Int))<(kinds.length:Int)) (ag ((0:Int)<=(bA (wrap64 ((kinds.length:Int)-(2:Int))) (0:Int))) (ag ((bA (wrap64 ((kinds.length:Int)-(2:Int))) (0:Int))<=(kinds.length:Int)) (ag (((bA (wrap64 ((kinds.length:Int)-(2:Int))) (0:Int)).toNat+[(1:Int)].length) * 8<=lim) (some ((kinds.take (bA (wrap64 ((kinds.length:Int)-(2:Int))) (0:Int)).toNat++[(1:Int)]),(decide ((nth (t:=(Ty.int .i64)) kinds (wrap64 ((kinds.length:Int)-(2:Int))))=(1:Int)))))))))) (ag ((0:Int)<=(bA (wrap64 ((kinds.length:Int)-(2:Int))) (0:Int))) (ag ((bA (wrap64 ((kinds.length:Int)-(2:Int))) (0:Int))<=(kinds.length:Int)) (ag (((bA (wrap64 ((kinds.length:Int)-(2:Int))) (0:Int)).toNat+[(1:Int)].length) * 8<=lim) (some ((kinds.take (bA (wrap64 ((kinds.length:Int)-(2:Int))) (0:Int)).toNat++[(1:Int)]),false)))))))) (ag ((0:Int)<=(bA (wrap64 ((kinds.length:Int)-(2:Int))) (0:Int))) (ag ((bA (wrap64 ((kinds.length:Int)-(2:Int))) (0:Int))<=(kinds.length:Int)) (ag (((bA (wrap64 ((kinds.length:Int)-(2:Int))) (0:Int)).toNat+[(1:Int)].length) * 8<=lim) (some ((kinds.take (bA (wrap64 ((kinds.length:Int)-(2:Int))) (0:Int)).toNat++[(1:Int)]),false)))))) (cond (decide (p.1=(5:Int))) (cond ((decide ((1:Int)<(kinds.length:Int)))==true) (ag (0<=wrap64 ((kinds.length:Int)-(1:Int))) (ag (wrap64 ((kinds.length:Int)-(1:Int))<(kinds.length:Int)) (cond ((decide ((nth (t:=(Ty.int .i64)) kinds (wrap64 ((kinds.length:Int)-(1:Int))))=(3:Int)))==true) (ag (0<=wrap64 ((kinds.length:Int)-(2:Int))) (ag (wrap64 ((kinds.length:Int)-(2:Int))<(kinds.length:Int)) (ag ((0:Int)<=(bA (wrap64 ((kinds.length:Int)-(2:Int))) (0:Int))) (ag ((bA (wrap64 ((kinds.length:Int)-(2:Int))) (0:Int))<=(kinds.length:Int)) (ag (((bA (wrap64 ((kinds.length:Int)-(2:Int))) (0:Int)).toNat+[(3:Int)].length) * 8<=lim) (some ((kinds.take (bA (wrap64 ((kinds.length:Int)-(2:Int))) (0:Int)).toNat++[(3:Int)]),(decide ((nth (t:=(Ty.int .i64)) kinds (wrap64 ((kinds.length:Int)-(2:Int))))=(3:Int)))))))))) (ag ((0:Int)<=(bA (wrap64 ((kinds.length:Int)-(2:Int))) (0:Int))) (ag ((bA (wrap64 ((kinds.length:Int)-(2:Int))) (0:Int))<=(kinds.length:Int)) (ag (((bA (wrap64 ((kinds.length:Int)-(2:Int))) (0:Int)).toNat+[(3:Int)].length) * 8<=lim) (some ((kinds.take (bA (wrap64 ((kinds.length:Int)-(2:Int))) (0:Int)).toNat++[(3:Int)]),false)))))))) (ag ((0:Int)<=(bA (wrap64 ((kinds.length:Int)-(2:Int))) (0:Int))) (ag ((bA (wrap64 ((kinds.length:Int)-(2:Int))) (0:Int))<=(kinds.length:Int)) (ag (((bA (wrap64 ((kinds.length:Int)-(2:Int))) (0:Int)).toNat+[(3:Int)].length) * 8<=lim) (some ((kinds.take (bA (wrap64 ((kinds.length:Int)-(2:Int))) (0:Int)).toNat++[(3:Int)]),false)))))) (cond (decide (p.1=(6:Int))) (cond ((decide ((1:Int)<(kinds.length:Int)))==true) (ag (0<=wrap64 ((kinds.length:Int)-(1:Int))) (ag (wrap64 ((kinds.length:Int)-(1:Int))<(kinds.length:Int)) (cond ((decide ((nth (t:=(Ty.int .i64)) kinds (wrap64 ((kinds.length:Int)-(1:Int))))=(3:Int)))==true) (ag (0<=wrap64 ((kinds.length:Int)-(2:Int))) (ag (wrap64 ((kinds.length:Int)-(2:Int))<(kinds.length:Int)) (ag ((0:Int)<=(bA (wrap64 ((kinds.length:Int)-(2:Int))) (0:Int))) (ag ((bA (wrap64 ((kinds.length:Int)-(2:Int))) (0:Int))<=(kinds.length:Int)) (ag (((bA (wrap64 ((kinds.length:Int)-(2:Int))) (0:Int)).toNat+[(3:Int)].length) * 8<=lim) (some ((kinds.take (bA (wrap64 ((kinds.length:Int)-(2:Int))) (0:Int)).toNat++[(3:Int)]),(decide ((nth (t:=(Ty.int .i64)) kinds (wrap64 ((kinds.length:Int)-(2:Int))))=(3:Int)))))))))) (ag ((0:Int)<=(bA (wrap64 ((kinds.length:Int)-(2:Int))) (0:Int))) (ag ((bA (wrap64 ((kinds.length:Int)-(2:Int))) (0:Int))<=(kinds.length:Int)) (ag (((bA (wrap64 ((kinds.length:Int)-(2:Int))) (0:Int)).toNat+[(3:Int)].length) * 8<=lim) (some ((kinds.take (bA (wrap64 ((kinds.length:Int)-(2:Int))) (0:Int)).toNat++[(3:Int)]),false)))))))) (ag ((0:Int)<=(bA (wrap64 ((kinds.length:Int)-(2:Int))) (0:Int))) (ag ((bA (wrap64 ((kinds.length:Int)-(2:Int))) (0:Int))<=(kinds.length:Int)) (ag (((bA (wrap64 ((kinds.length:Int)-(2:Int))) (0:Int)).toNat+[(3:Int)].length) * 8<=lim) (some ((kinds.take (bA (wrap64 ((kinds.length:Int)-(2:Int))) (0:Int)).toNat++[(3:Int)]),false)))))) (cond (decide (p.1=(7:Int))) (cond ((decide ((0:Int)<(kinds.length:Int)))==true) (ag (0<=wrap64 ((kinds.length:Int)-(1:Int))) (ag (wrap64 ((kinds.length:Int)-(1:Int))<(kinds.length:Int)) (some (kinds,(decide ((nth (t:=(Ty.int .i64)) kinds (wrap64 ((kinds.length:Int)-(1:Int))))=(3:Int))))))) (some (kinds,false))) (cond (decide (p.1=(8:Int))) (ag ((0:Int)<=(bA (wrap64 ((kinds.length:Int)-(1:Int))) (0:Int))) (ag ((bA (wrap64 ((kinds.length:Int)-(1:Int))) (0:Int))<=(kinds.length:Int)) (ag (((bA (wrap64 ((kinds.length:Int)-(1:Int))) (0:Int)).toNat+[(3:Int)].length) * 8<=lim) (some ((kinds.take (bA (wrap64 ((kinds.length:Int)-(1:Int))) (0:Int)).toNat++[(3:Int)]),(decide ((0:Int)<(kinds.length:Int)))))))) (some (kinds,false)))))))) (cond ((decide ((1:Int)<(kinds.length:Int)))==true) (ag (0<=wrap64 ((kinds.length:Int)-(1:Int))) (ag (wrap64 ((kinds.length:Int)-(1:Int))<(kinds.length:Int)) (ag (0<=wrap64 ((kinds.length:Int)-(2:Int))) (ag (wrap64 ((kinds.length:Int)-(2:Int))<(kinds.length:Int)) (cond ((decide ((nth (t:=(Ty.int .i64)) kinds (wrap64 ((kinds.length:Int)-(1:Int))))=(nth (t:=(Ty.int .i64)) kinds (wrap64 ((kinds.length:Int)-(2:Int))))))==true) (ag ((0:Int)<=(bA (wrap64 ((kinds.length:Int)-(2:Int))) (0:Int))) (ag ((bA (wrap64 ((kinds.length:Int)-(2:Int))) (0:Int))<=(kinds.length:Int)) (ag (((bA (wrap64 ((kinds.length:Int)-(2:Int))) (0:Int)).toNat+[(3:Int)].length) * 8<=lim) (some ((kinds.take (bA (wrap64 ((kinds.length:Int)-(2:Int))) (0:Int)).toNat++[(3:Int)]),(M.inR p.2.1 (1:Int) (4:Int))))))) (ag ((0:Int)<=(bA (wrap64 ((kinds.length:Int)-(2:Int))) (0:Int))) (ag ((bA (wrap64 ((kinds.length:Int)-(2:Int))) (0:Int))<=(kinds.length:Int)) (ag (((bA (wrap64 ((kinds.length:Int)-(2:Int))) (0:Int)).toNat+[(3:Int)].length) * 8<=lim) (some ((kinds.take (bA (wrap64 ((kinds.length:Int)-(2:Int))) (0:Int)).toNat++[(3:Int)]),false)))))))))) (ag ((0:Int)<=(bA (wrap64 ((kinds.length:Int)-(2:Int))) (0:Int))) (ag ((bA (wrap64 ((kinds.length:Int)-(2:Int))) (0:Int))<=(kinds.length:Int)) (ag (((bA (wrap64 ((kinds.length:Int)-(2:Int))) (0:Int)).toNat+[(3:Int)].length) * 8<=lim) (some ((kinds.take (bA (wrap64 ((kinds.length:Int)-(2:Int))) (0:Int)).toNat++[(3:Int)]),false))))))) (cond (!(M.inR p.2.1 (0:Int) (wrap64 ((columns.length:Int)-(1:Int))))) (some (kinds,false)) (some ((kinds++[(nth (t:=ai) columns p.2.1).1]),true)))) (some (kinds,false))) (cond (!decide (p.2.1=(0:Int))) (some (kinds,false)) (cond ((!(M.aO p.2.2.1))==false) (cond (decide (p.2.2.1.1=(0:Int))) (some (kinds,false)) (some ((kinds++[p.2.2.1.1]),true))) (some (kinds,false))))
noncomputable def M.wY (columns:List ai.D) (kinds:List Int) (p:ax.D):List Int×Bool:=(F.kM columns kinds p).getD ([],false)
noncomputable def F.cL (columns:LC) (e:LPt)   (v0:Bool×Int×(List Int)):Option (Sum (Bool×Int×(List Int)) (Bool×(List Int))):=
 cond ((decide (v0.2.1<(e.length:Int)))==true) (cond v0.1 (ag (0<=v0.2.1) (ag (v0.2.1<(e.length:Int)) (ag (Sm (Ty.sl (Ty.int .i64)) v0.2.2) (ag (v0.2.2.length<=1000) (bD ((M.wY columns v0.2.2 (nth (t:=ax) e v0.2.1)):(List Int)×Bool) (fun r1:(List Int)×Bool=>some (.inl (r1.2,wrap64 (v0.2.1+(1:Int)),r1.1)))))))) (some (.inr (v0.1,v0.2.2)))) (some (.inr (v0.1,v0.2.2)))
noncomputable def F.nY (columns:LC) (e:LPt):Option Int:=
 cond ((!(M.bC columns))==false) (cond (decide ((12:Int)<(e.length:Int))) (some (-1:Int)) (Option.bind (cC (F.cL columns e) (true,(0:Int),[])) (fun e0:Bool×(List Int)=>cond ((!e0.1)==false) (cond (!decide ((e0.2.length:Int)=(1:Int))) (some (-1:Int)) (ag ((0:Int)<(e0.2.length:Int)) (some (nth (t:=(Ty.int .i64)) e0.2 (0:Int))))) (some (-1:Int))))) (some (-1:Int))
noncomputable def F.jj (tables:LTb) (b:TBond.D)  (i1:Int) (v1:Unit):Option (Sum Unit Unit):=
 ag (0<=(nth (t:=(Ty.int .i64)) b.2.2.1 i1)) (ag ((nth (t:=(Ty.int .i64)) b.2.2.1 i1)<((nth (t:=TTable) tables b.2.1).1.length:Int)) (ag (0<=b.2.2.2.1) (ag (b.2.2.2.1<(tables.length:Int)) (ag (i1<(b.2.2.2.2.1.length:Int)) (ag (0<=(nth (t:=(Ty.int .i64)) b.2.2.2.2.1 i1)) (ag ((nth (t:=(Ty.int .i64)) b.2.2.2.2.1 i1)<((nth (t:=TTable) tables b.2.2.2.1).1.length:Int)) (cond (!decide ((nth (t:=ai) (nth (t:=TTable) tables b.2.1).1 (nth (t:=(Ty.int .i64)) b.2.2.1 i1)).1=(nth (t:=ai) (nth (t:=TTable) tables b.2.2.2.1).1 (nth (t:=(Ty.int .i64)) b.2.2.2.2.1 i1)).1)) (some (.inr ())) (some (.inl ())))))))))
noncomputable def F.qJ (tables:LTb) (b:TBond.D):Option Bool:=
 cond ((!(M.aA tables))==false) (cond (!(M.inR b.2.1 (0:Int) (wrap64 ((tables.length:Int)-(1:Int))))) (some false) (cond (decide (b.1=(1:Int))) (cond ((M.bT (nth (t:=TTable) tables b.2.1).1 b.2.2.1)==true) (cond ((decide (b.2.2.2.1=(0:Int)))==true) (cond ((decide ((b.2.2.2.2.1.length:Int)=(0:Int)))==true) (cond ((!b.2.2.2.2.2.1)==true) (some (decide ((b.2.2.2.2.2.2.1.length:Int)=(0:Int)))) (some false)) (some false)) (some false)) (some false)) (cond (decide (b.1=(3:Int))) (cond ((decide ((M.dg (nth (t:=TTable) tables b.2.1).1 b.2.2.2.2.2.2.1)=(3:Int)))==true) (cond ((decide ((b.2.2.1.length:Int)=(0:Int)))==true) (cond ((decide (b.2.2.2.1=(0:Int)))==true) (cond ((decide ((b.2.2.2.2.1.length:Int)=(0:Int)))==true) (some (!b.2.2.2.2.2.1)) (some false)) (some false)) (some false)) (some false)) (cond (decide (b.1=(2:Int))) (cond ((!(M.inR b.2.2.2.1 (0:Int) (wrap64 ((tables.length:Int)-(1:Int)))))==false) (cond ((!(M.bT (nth (t:=TTable) tables b.2.1).1 b.2.2.1))==false) (cond ((!(M.bT (nth (t:=TTable) tables b.2.2.2.1).1 b.2.2.2.2.1))==false) (cond ((!decide ((b.2.2.1.length:Int)=(b.2.2.2.2.1.length:Int)))==false) (cond (decide ((0:Int)<(b.2.2.2.2.2.2.1.length:Int))) (some false) (aT (aK (F.jj tables b) (aH (0:Int) (b.2.2.1.length:Int)) ()) (fun v1:Unit=>some true) (fun q1:Unit=>some false))) (some false)) (some false)) (some false)) (some false)) (some false))))) (some false)
noncomputable def F.qn (truth:Int):Option (aa.D):=
 cond ((decide (truth=(0:Int)))==false) (cond (decide (truth=(1:Int))) (some ((3:Int),(truth,((⟨#[]⟩:ByteArray),())))) (some ((0:Int),((0:Int),((⟨#[]⟩:ByteArray),()))))) (some ((3:Int),(truth,((⟨#[]⟩:ByteArray),()))))
noncomputable def F.tV (a:aa.D) (b:aa.D):Option (aa.D):=
 cond ((decide (a.1=(0:Int)))==false) (cond ((decide (b.1=(0:Int)))==false) (cond (!(M.inR (wrap64 (a.2.1+b.2.1)) (-9999:Int) (9999:Int))) (some ((0:Int),((0:Int),((⟨#[]⟩:ByteArray),())))) (some ((1:Int),(wrap64 (a.2.1+b.2.1),((⟨#[]⟩:ByteArray),()))))) (some ((0:Int),((0:Int),((⟨#[]⟩:ByteArray),()))))) (some ((0:Int),((0:Int),((⟨#[]⟩:ByteArray),()))))
noncomputable def F.qG (b:Bool):Option Int:=
 cond b (some (1:Int)) (some (0:Int))
noncomputable def F.rD (a:Int) (b:Int):Option Int:=
 cond (decide (a<b)) (some (1:Int)) (some (0:Int))
noncomputable def F.tG (a:ByteArray) (b:ByteArray):Option Int:=
 cond (Op.bytesLess a.toList b.toList) (some (-1:Int)) (cond (!(Op.bytesLess a.toList b.toList||decide (a=b))) (some (1:Int)) (some (0:Int)))
noncomputable def F.kS (a:aa.D) (b:aa.D):Option Int:=
 cond ((!(M.aO a))==false) (cond (!(M.aO b)) (some (0:Int)) (cond (!decide (a.1=b.1)) (some (wrap64 (wrap64 ((2:Int) * (M.less b.1 a.1))-(1:Int)))) (cond (!decide (a.2.1=b.2.1)) (some (wrap64 (wrap64 ((2:Int) * (M.less b.2.1 a.2.1))-(1:Int)))) (some (M.uN a.2.2.1 b.2.2.1))))) (some (0:Int))
noncomputable def F.ql (kind:Int) (a:aa.D) (b:aa.D):Option Int:=
 cond ((!(M.inR kind (1:Int) (4:Int)))==false) (cond ((!(M.aO a))==false) (cond (!(M.aO b)) (some (-1:Int)) (cond ((decide (a.1=(0:Int)))==false) (cond (decide (b.1=(0:Int))) (some (2:Int)) (cond (!decide (a.1=b.1)) (some (-1:Int)) (cond (decide (kind=(1:Int))) (some (M.bool (decide ((M.dK a b)=(0:Int))))) (cond (decide (kind=(2:Int))) (some (M.bool (!decide ((M.dK a b)=(0:Int))))) (cond (decide (kind=(3:Int))) (some (M.bool (decide ((M.dK a b)<(0:Int))))) (some (M.bool (decide ((M.dK a b)<=(0:Int)))))))))) (some (2:Int)))) (some (-1:Int))) (some (-1:Int))
noncomputable def F.vz (n:Int):Option Bool:=
 some (M.inR n (0:Int) (2:Int))
noncomputable def F.ri (n:Int):Option Int:=
 ag (0<=n) (ag (n<([(0:Int),(2:Int),(1:Int)].length:Int)) (some (nth (t:=(Ty.int .i64)) [(0:Int),(2:Int),(1:Int)] n)))
noncomputable def F.tR (a:Int) (b:Int):Option Int:=
 cond ((!(M.inR a 0 2))==false) (cond (!(M.inR b 0 2)) (some (-1:Int)) (ag (M.inR (Ij (M.sure a) (M.sure b)) 0 2=true) (some (M.sure (Ij (M.sure a) (M.sure b)))))) (some (-1:Int))
noncomputable def F.pM (v:aa.D):Option Int:=
 cond ((!(M.aO v))==false) (cond ((decide (v.1=(1:Int)))==false) (cond (decide (v.1=(2:Int))) (some (-1:Int)) (cond (decide (v.1=(0:Int))) (some (2:Int)) (some v.2.1))) (some (-1:Int))) (some (-1:Int))
noncomputable def F.vS (a:Int) (b:Int):Option Int:=
 cond ((!(M.inR a 0 2))==false) (cond (!(M.inR b 0 2)) (some (-1:Int)) (ag (M.inR (bA (M.sure a) (M.sure b)) 0 2=true) (some (M.sure (bA (M.sure a) (M.sure b)))))) (some (-1:Int))
noncomputable def F.tD (a:Int):Option Int:=
 cond (!(M.inR a 0 2)) (some (-1:Int)) (ag (M.inR (wrap64 ((2:Int)-(M.sure a))) 0 2=true) (some (M.sure (wrap64 ((2:Int)-(M.sure a))))))
noncomputable def F.rY (row:LV) (values:LV) (p:ax.D):Option LV:=
 cond (decide (p.1=(1:Int))) (some (values++[p.2.2.1])) (cond (decide (p.1=(2:Int))) (ag (0<=p.2.1) (ag (p.2.1<(row.length:Int)) (some (values++[(nth (t:=aa) row p.2.1)])))) (cond (decide (p.1=(3:Int))) (ag ((0:Int)<=wrap64 ((values.length:Int)-(2:Int))) (ag (wrap64 ((values.length:Int)-(2:Int))<=(values.length:Int)) (ag (0<=wrap64 ((values.length:Int)-(2:Int))) (ag (wrap64 ((values.length:Int)-(2:Int))<(values.length:Int)) (ag (0<=wrap64 ((values.length:Int)-(1:Int))) (ag (wrap64 ((values.length:Int)-(1:Int))<(values.length:Int)) (bD ((M.sum (nth (t:=aa) values (wrap64 ((values.length:Int)-(2:Int)))) (nth (t:=aa) values (wrap64 ((values.length:Int)-(1:Int))))):aa.D) (fun r1:aa.D=>ag (((wrap64 ((values.length:Int)-(2:Int))).toNat+[r1].length) * 32<=lim) (some (values.take (wrap64 ((values.length:Int)-(2:Int))).toNat++[r1])))))))))) (cond (decide (p.1=(4:Int))) (ag ((0:Int)<=wrap64 ((values.length:Int)-(2:Int))) (ag (wrap64 ((values.length:Int)-(2:Int))<=(values.length:Int)) (ag (0<=wrap64 ((values.length:Int)-(2:Int))) (ag (wrap64 ((values.length:Int)-(2:Int))<(values.length:Int)) (ag (0<=wrap64 ((values.length:Int)-(1:Int))) (ag (wrap64 ((values.length:Int)-(1:Int))<(values.length:Int)) (bD ((M.valueOf (M.compare p.2.1 (nth (t:=aa) values (wrap64 ((values.length:Int)-(2:Int)))) (nth (t:=aa) values (wrap64 ((values.length:Int)-(1:Int)))))):aa.D) (fun r2:aa.D=>ag (((wrap64 ((values.length:Int)-(2:Int))).toNat+[r2].length) * 32<=lim) (some (values.take (wrap64 ((values.length:Int)-(2:Int))).toNat++[r2])))))))))) (cond (decide (p.1=(5:Int))) (ag ((0:Int)<=wrap64 ((values.length:Int)-(2:Int))) (ag (wrap64 ((values.length:Int)-(2:Int))<=(values.length:Int)) (ag (0<=wrap64 ((values.length:Int)-(2:Int))) (ag (wrap64 ((values.length:Int)-(2:Int))<(values.length:Int)) (ag (0<=wrap64 ((values.length:Int)-(1:Int))) (ag (wrap64 ((values.length:Int)-(1:Int))<(values.length:Int)) (bD ((M.valueOf (M.rj (M.bU (nth (t:=aa) values (wrap64 ((values.length:Int)-(2:Int))))) (M.bU (nth (t:=aa) values (wrap64 ((values.length:Int)-(1:Int))))))):aa.D) (fun r3:aa.D=>ag (((wrap64 ((values.length:Int)-(2:Int))).toNat+[r3].length) * 32<=lim) (some (values.take (wrap64 ((values.length:Int)-(2:Int))).toNat++[r3])))))))))) (cond (decide (p.1=(6:Int))) (ag ((0:Int)<=wrap64 ((values.length:Int)-(2:Int))) (ag (wrap64 ((values.length:Int)-(2:Int))<=(values.length:Int)) (ag (0<=wrap64 ((values.length:Int)-(2:Int))) (ag (wrap64 ((values.length:Int)-(2:Int))<(values.length:Int)) (ag (0<=wrap64 ((values.length:Int)-(1:Int))) (ag (wrap64 ((values.length:Int)-(1:Int))<(values.length:Int)) (bD ((M.valueOf (M.zE (M.bU (nth (t:=aa) values (wrap64 ((values.length:Int)-(2:Int))))) (M.bU (nth (t:=aa) values (wrap64 ((values.length:Int)-(1:Int))))))):aa.D) (fun r4:aa.D=>ag (((wrap64 ((values.length:Int)-(2:Int))).toNat+[r4].length) * 32<=lim) (some (values.take (wrap64 ((values.length:Int)-(2:Int))).toNat++[r4])))))))))) (cond (decide (p.1=(7:Int))) (ag ((0:Int)<=wrap64 ((values.length:Int)-(1:Int))) (ag (wrap64 ((values.length:Int)-(1:Int))<=(values.length:Int)) (ag (0<=wrap64 ((values.length:Int)-(1:Int))) (ag (wrap64 ((values.length:Int)-(1:Int))<(values.length:Int)) (bD ((M.valueOf (M.rK (M.bU (nth (t:=aa) values (wrap64 ((values.length:Int)-(1:Int))))))):aa.D) (fun r5:aa.D=>ag (((wrap64 ((values.length:Int)-(1:Int))).toNat+[r5].length) * 32<=lim) (some (values.take (wrap64 ((values.length:Int)-(1:Int))).toNat++[r5])))))))) (ag ((0:Int)<=wrap64 ((values.length:Int)-(1:Int))) (ag (wrap64 ((values.length:Int)-(1:Int))<=(values.length:Int)) (ag (0<=wrap64 ((values.length:Int)-(1:Int))) (ag (wrap64 ((values.length:Int)-(1:Int))<(values.length:Int)) (bD ((M.valueOf (M.bool (decide ((nth (t:=aa) values (wrap64 ((values.length:Int)-(1:Int)))).1=(0:Int))))):aa.D) (fun r6:aa.D=>ag (((wrap64 ((values.length:Int)-(1:Int))).toNat+[r6].length) * 32<=lim) (some (values.take (wrap64 ((values.length:Int)-(1:Int))).toNat++[r6]))))))))))))))
noncomputable def F.ew (row:LV) (e:LPt)  (z0:ax.D) (v0:LV):Option (Sum LV Unit):=
 ag (Sm (Ty.sl aa) v0) (ag (v0.length<=1000) (ag (M.takes z0<=(v0.length:Int)) (ag (1<=z0.1/\z0.1<=8) (ag (M.nr z0 row.length) (bD ((M.eM row v0 z0):LV) (fun r1:LV=>some (.inl r1)))))))
noncomputable def F.pJ (row:LV) (e:LPt):Option (aa.D):=
 aT (aK (F.ew row e) e []) (fun v0:LV=>ag ((0:Int)<(v0.length:Int)) (some (nth (t:=aa) v0 (0:Int)))) (fun(_:Unit)=>none)
noncomputable def F.iJ (row:LV) (list:(List Int))  (z0:Int) (v0:LV):Option (Sum LV Unit):=
 ag (0<=z0) (ag (z0<(row.length:Int)) (ag ((v0.length+[(nth (t:=aa) row z0)].length) * 32<=lim) (some (.inl (v0++[(nth (t:=aa) row z0)])))))
noncomputable def F.qh (row:LV) (list:(List Int)):Option LV:=
 aT (aK (F.iJ row list) list []) (fun v0:LV=>some v0) (fun(_:Unit)=>none)
noncomputable def F.iD (values:LV)  (z0:aa.D) (v0:Unit):Option (Sum Unit Unit):=
 cond (decide (z0.1=(0:Int))) (some (.inr ())) (some (.inl ()))
noncomputable def F.pe (values:LV):Option Bool:=
 aT (aK (F.iD values) values ()) (fun v0:Unit=>some false) (fun q0:Unit=>some true)
noncomputable def F.jy (a:LV) (b:LV)  (i0:Int) (v0:Unit):Option (Sum Unit Unit):=
 ag (i0<(b.length:Int)) (cond (!(Ty.beq aa (nth (t:=aa) a i0) (nth (t:=aa) b i0))) (some (.inr ())) (some (.inl ())))
noncomputable def F.xJ (a:LV) (b:LV):Option Bool:=
 cond (!decide ((a.length:Int)=(b.length:Int))) (some false) (aT (aK (F.jy a b) (aH (0:Int) (a.length:Int)) ()) (fun v0:Unit=>some true) (fun q0:Unit=>some false))
noncomputable def F.gd (tables:LTb) (b:TBond.D) (c5_0:Int) (c5_1:LV)  (v5:Bool×Int):Option (Sum (Bool×Int) Bool):=
 ag (0<=b.2.2.2.1) (ag (b.2.2.2.1<(tables.length:Int)) (cond ((decide (v5.2<((nth (t:=TTable) tables b.2.2.2.1).2.1.length:Int)))==true) (cond (!v5.1) (ag (0<=v5.2) (ag (v5.2<((nth (t:=TTable) tables b.2.2.2.1).2.1.length:Int)) (ag (M.eJ (nth (t:=(Ty.sl aa)) (nth (t:=TTable) tables b.2.2.2.1).2.1 v5.2) b.2.2.2.2.1) (bD ((M.taken (nth (t:=(Ty.sl aa)) (nth (t:=TTable) tables b.2.2.2.1).2.1 v5.2) b.2.2.2.2.1):LV) (fun r1:LV=>some (.inl ((decide (r1=c5_1)),wrap64 (v5.2+(1:Int))))))))) (some (.inr v5.1))) (some (.inr v5.1))))
noncomputable def F.eG (tables:LTb) (b:TBond.D) (c3_0:Int) (c3_1:LV)  (v3:Int):Option (Sum Int (Sum Unit Unit)):=
 cond ((decide (v3<c3_0))==true) (cond (!(M.kB c3_1)) (ag (0<=v3) (ag (v3<((nth (t:=TTable) tables b.2.1).2.1.length:Int)) (ag (M.eJ (nth (t:=(Ty.sl aa)) (nth (t:=TTable) tables b.2.1).2.1 v3) b.2.2.1) (bD ((M.taken (nth (t:=(Ty.sl aa)) (nth (t:=TTable) tables b.2.1).2.1 v3) b.2.2.1):LV) (fun r2:LV=>cond (decide (r2=c3_1)) (some (.inr (.inr ()))) (some (.inl (wrap64 (v3+(1:Int)))))))))) (some (.inr (.inl ())))) (some (.inr (.inl ())))
noncomputable def F.gq (tables:LTb) (b:TBond.D)  (i0:Int) (v0:Unit):Option (Sum Unit Int):=
 cond (decide (b.1=(3:Int))) (ag (M.jB (nth (t:=(Ty.sl aa)) (nth (t:=TTable) tables b.2.1).2.1 i0).length b.2.2.2.2.2.2.1) (bD ((M.ep (nth (t:=(Ty.sl aa)) (nth (t:=TTable) tables b.2.1).2.1 i0) b.2.2.2.2.2.2.1):aa.D) (fun r3:aa.D=>bD ((M.valueOf (0:Int)):aa.D) (fun r4:aa.D=>cond (Ty.beq aa r3 r4) (some (.inr i0)) (some (.inl ())))))) (cond (decide (b.1=(1:Int))) (ag (M.eJ (nth (t:=(Ty.sl aa)) (nth (t:=TTable) tables b.2.1).2.1 i0) b.2.2.1) (bD ((M.taken (nth (t:=(Ty.sl aa)) (nth (t:=TTable) tables b.2.1).2.1 i0) b.2.2.1):LV) (fun r5:LV=>aT (cC (F.eG tables b i0 r5) (0:Int)) (fun e3:Unit=>some (.inl ())) (fun q3:Unit=>some (.inr i0))))) (cond (decide (b.1=(2:Int))) (ag (M.eJ (nth (t:=(Ty.sl aa)) (nth (t:=TTable) tables b.2.1).2.1 i0) b.2.2.1) (bD ((M.taken (nth (t:=(Ty.sl aa)) (nth (t:=TTable) tables b.2.1).2.1 i0) b.2.2.1):LV) (fun r6:LV=>Option.bind (cC (F.gd tables b i0 r6) ((M.kB r6),(0:Int))) (fun e5:Bool=>cond (!e5) (some (.inr i0)) (some (.inl ())))))) (some (.inl ()))))
noncomputable def F.mT (tables:LTb) (b:TBond.D):Option Int:=
 ag (0<=b.2.1) (ag (b.2.1<(tables.length:Int)) (aT (aK (F.gq tables b) (aH (0:Int) ((nth (t:=TTable) tables b.2.1).2.1.length:Int)) ()) (fun v0:Unit=>some (-1:Int)) (fun q0:Int=>some q0)))
noncomputable def F.kR (tables:LTb) (b:TBond.D):Option Int:=
 cond (!(M.aA tables&&M.aN tables b)) (some (-2:Int)) (some (M.broken tables b))
noncomputable def F.gv (tables:LTb) (bonds:(List TBond.D))  (z0:TBond.D) (v0:Unit):Option (Sum Unit Unit):=
 cond (!decide ((M.eS tables z0)=(-1:Int))) (some (.inr ())) (some (.inl ()))
noncomputable def F.mN (tables:LTb) (bonds:(List TBond.D)):Option Bool:=
 aT (aK (F.gv tables bonds) bonds ()) (fun v0:Unit=>some (decide ((bonds.length:Int)<=(4:Int)))) (fun q0:Unit=>some false)
noncomputable def F.zV (row:LV):Option LV:=
 some ([]++row)
noncomputable def F.ez (tables:LTb) (c2_0:Int) (c2_1:LTb) (c2_2:LC)  (v2:Int×LLV):Option (Sum (Int×LLV) LLV):=
 ag (0<=c2_0) (ag (c2_0<(tables.length:Int)) (cond (decide (v2.1<((nth (t:=TTable) tables c2_0).2.1.length:Int))) (ag (0<=v2.1) (ag (v2.1<((nth (t:=TTable) tables c2_0).2.1.length:Int)) (bD ((nth (t:=(Ty.sl aa)) (nth (t:=TTable) tables c2_0).2.1 v2.1):LV) (fun r1:LV=>ag ((v2.2.length+[r1].length) * 24<=lim) (some (.inl (wrap64 (v2.1+(1:Int)),(v2.2++[r1])))))))) (some (.inr v2.2))))
noncomputable def F.ga (tables:LTb)  (i0:Int) (v0:LTb):Option (Sum LTb Unit):=
 Option.bind (cC (F.ez tables i0 v0 ([]++(nth (t:=TTable) tables i0).1)) ((0:Int),[])) (fun e2:LLV=>ag ((v0.length+[(([]++(nth (t:=TTable) tables i0).1),(e2,()))].length) * 48<=lim) (some (.inl (v0++[(([]++(nth (t:=TTable) tables i0).1),(e2,()))]))))
noncomputable def F.mB (tables:LTb):Option LTb:=
 aT (aK (F.ga tables) (aH (0:Int) (tables.length:Int)) []) (fun v0:LTb=>some v0) (fun(_:Unit)=>none)
noncomputable def F.fR (rows:LLV) (row:LV)  (z0:LV) (v0:Int):Option (Sum Int Unit):=
 cond (decide (z0=row)) (some (.inl (wrap64 (v0+(1:Int))))) (some (.inl v0))
noncomputable def F.qb (rows:LLV) (row:LV):Option Int:=
 aT (aK (F.fR rows row) rows (0:Int)) (fun v0:Int=>some v0) (fun(_:Unit)=>none)
noncomputable def F.nD (tables:LTb) (c:TChange.D):Option Bool:=
 cond ((!(M.aA tables))==false) (cond ((!(M.inR c.1 (0:Int) (wrap64 ((tables.length:Int)-(1:Int)))))==false) (cond (!(M.bG (nth (t:=TTable) tables c.1).1 c.2.1)) (some false) (cond c.2.2.1 (some (decide (((nth (t:=TTable) tables c.1).2.1.length:Int)<(6:Int)))) (some (decide ((0:Int)<(M.cE (nth (t:=TTable) tables c.1).2.1 c.2.1:Int)))))) (some false)) (some false)
noncomputable def F.hG (a:LLV) (b:LLV)  (z0:LV) (v0:LLV×LLV):Option (Sum (LLV×LLV) Unit):=
 ag (Sm (Ty.sl (Ty.sl aa)) v0.2) (cond (decide ((M.cE v0.2 z0:Int)<(M.cE b z0:Int))) (ag ((v0.2.length+[z0].length) * 24<=lim) (some (.inl (v0.1,(v0.2++[z0]))))) (bD (z0:LV) (fun r1:LV=>ag ((v0.1.length+[r1].length) * 24<=lim) (some (.inl ((v0.1++[r1]),v0.2))))))
noncomputable def F.nF (a:LLV) (b:LLV):Option LLV:=
 aT (aK (F.hG a b) a ([],[])) (fun v0:LLV×LLV=>some v0.1) (fun(_:Unit)=>none)
noncomputable def F.jT (tables:LTb) (c:TChange.D):Option (LTb×Bool):=
 cond (!(M.aV tables c)) (some ([],false)) (bD (tables:LTb) (fun r1:LTb=>cond c.2.2.1 (ag (0<=c.1) (ag (c.1<(r1.length:Int)) (bD (c.2.1:LV) (fun r2:LV=>ag (((nth (t:=TTable) r1 c.1).2.1.length+[r2].length) * 24<=lim) (ag (c.1<((r1.set c.1.toNat ((nth (t:=TTable) r1 c.1).1,([],()))).length:Int)) (bD (((r1.set c.1.toNat ((nth (t:=TTable) r1 c.1).1,([],()))).set c.1.toNat ((nth (t:=TTable) (r1.set c.1.toNat ((nth (t:=TTable) r1 c.1).1,([],()))) c.1).1,(((nth (t:=TTable) r1 c.1).2.1++[r2]),()))):LTb) (fun y1:LTb=>some (y1,true)))))))) (ag (0<=c.1) (ag (c.1<(r1.length:Int)) (ag (Sm (Ty.sl (Ty.sl aa)) (nth (t:=TTable) r1 c.1).2.1) (bD ((M.mS (nth (t:=TTable) r1 c.1).2.1 [c.2.1]):LLV) (fun r3:LLV=>some ((r1.set c.1.toNat ((nth (t:=TTable) r1 c.1).1,(r3,()))),true))))))))
noncomputable def F.cu (tables:LTb) (bonds:(List TBond.D)) (c:TChange.D)   (v4:Bool×Int×LTb):Option (Sum (Bool×Int×LTb) (Bool×LTb)):=
 cond ((decide (v4.2.1<(bonds.length:Int)))==true) (cond (!v4.1) (ag (0<=v4.2.1) (ag (v4.2.1<(bonds.length:Int)) (ag (Sm (Ty.sl TTable) v4.2.2) (ag ((M.aA v4.2.2&&M.aN v4.2.2 (nth (t:=TBond) bonds v4.2.1))=true) (cond ((nth (t:=TBond) bonds v4.2.1).2.2.2.2.2.1==true) (cond (decide ((0:Int)<=(M.broken v4.2.2 (nth (t:=TBond) bonds v4.2.1)))) (ag (0<=(nth (t:=TBond) bonds v4.2.1).2.1) (ag ((nth (t:=TBond) bonds v4.2.1).2.1<(v4.2.2.length:Int)) (ag ((0:Int)<=(M.broken v4.2.2 (nth (t:=TBond) bonds v4.2.1))) (ag ((M.broken v4.2.2 (nth (t:=TBond) bonds v4.2.1))<=((nth (t:=TTable) v4.2.2 (nth (t:=TBond) bonds v4.2.1).2.1).2.1.length:Int)) (ag ((([]:List (Ty.sl aa).D).length+(aB (nth (t:=TTable) v4.2.2 (nth (t:=TBond) bonds v4.2.1).2.1).2.1 (some ((0:Int),(M.broken v4.2.2 (nth (t:=TBond) bonds v4.2.1))))).length) * 24<=lim) (ag (0<=wrap64 ((M.broken v4.2.2 (nth (t:=TBond) bonds v4.2.1))+(1:Int))) (ag (wrap64 ((M.broken v4.2.2 (nth (t:=TBond) bonds v4.2.1))+(1:Int))<=((nth (t:=TTable) v4.2.2 (nth (t:=TBond) bonds v4.2.1).2.1).2.1.length:Int)) (ag ((([]++(aB (nth (t:=TTable) v4.2.2 (nth (t:=TBond) bonds v4.2.1).2.1).2.1 (some ((0:Int),(M.broken v4.2.2 (nth (t:=TBond) bonds v4.2.1)))))).length+(aB (nth (t:=TTable) v4.2.2 (nth (t:=TBond) bonds v4.2.1).2.1).2.1 (some (wrap64 ((M.broken v4.2.2 (nth (t:=TBond) bonds v4.2.1))+(1:Int)),((nth (t:=TTable) v4.2.2 (nth (t:=TBond) bonds v4.2.1).2.1).2.1.length:Int)))).length) * 24<=lim) (bD ((v4.2.2.set (nth (t:=TBond) bonds v4.2.1).2.1.toNat ((nth (t:=TTable) v4.2.2 (nth (t:=TBond) bonds v4.2.1).2.1).1,((([]++(aB (nth (t:=TTable) v4.2.2 (nth (t:=TBond) bonds v4.2.1).2.1).2.1 (some ((0:Int),(M.broken v4.2.2 (nth (t:=TBond) bonds v4.2.1))))))++(aB (nth (t:=TTable) v4.2.2 (nth (t:=TBond) bonds v4.2.1).2.1).2.1 (some (wrap64 ((M.broken v4.2.2 (nth (t:=TBond) bonds v4.2.1))+(1:Int)),((nth (t:=TTable) v4.2.2 (nth (t:=TBond) bonds v4.2.1).2.1).2.1.length:Int))))),()))):LTb) (fun y1:LTb=>some (.inl (true,wrap64 (v4.2.1+(1:Int)),y1)))))))))))) (some (.inl (v4.1,wrap64 (v4.2.1+(1:Int)),v4.2.2)))) (some (.inl (v4.1,wrap64 (v4.2.1+(1:Int)),v4.2.2)))))))) (some (.inr (v4.1,v4.2.2)))) (some (.inr (v4.1,v4.2.2)))
noncomputable def F.dz (tables:LTb) (bonds:(List TBond.D)) (c:TChange.D)   (v2:Bool×LTb):Option (Sum (Bool×LTb) LTb):=
 cond v2.1 (Option.bind (cC (F.cu tables bonds c) (false,(0:Int),v2.2)) (fun e4:Bool×LTb=>some (.inl (e4.1,e4.2)))) (some (.inr v2.2))
noncomputable def F.dy (tables:LTb) (bonds:(List TBond.D)) (c:TChange.D) (c0_0:LTb) (z0:TBond.D) (v0:Bool):Option (Sum Bool Unit):=
 cond (v0==true) (some (.inl (M.aA tables&&M.aN tables z0))) (some (.inl false))
noncomputable def F.jk (tables:LTb) (bonds:(List TBond.D)) (c:TChange.D):Option (LTb×Bool):=
 bD ((cond (M.aV tables c) (M.bt tables c) [],M.aV tables c):LTb×Bool) (fun r1:LTb×Bool=>aT (aK (F.dy tables bonds c r1.1) bonds r1.2) (fun v0:Bool=>cond ((!v0)==false) (cond (decide ((4:Int)<(bonds.length:Int))) (some ([],false)) (Option.bind (cC (F.dz tables bonds c) (true,r1.1)) (fun e2:LTb=>ag (Sm (Ty.sl TTable) e2) (cond (!(M.cU e2 bonds)) (some ([],false)) (some (e2,true)))))) (some ([],false))) (fun(_:Unit)=>none))
noncomputable def F.qo (n:Int) (low:Int) (high:Int):Option Bool:=
 cond ((decide (low<=n))==true) (some (decide (n<=high))) (some false)
noncomputable def F.oM (c:ai.D):Option Bool:=
 some (!(M.inR c.1 (1:Int) (3:Int)))
noncomputable def F.cD (xs:LC)  (i0:Int) (v0:Unit):Option (Sum Unit Int):=
 cond (!M.dO (nth (t:=ai) xs i0)) (some (.inr i0)) (some (.inl ()))
noncomputable def F.gE (xs:LC):Option Int:=
 aT (aK (F.cD xs) (aH (0:Int) (xs.length:Int)) ()) (fun v0:Unit=>some (-1:Int)) (fun q0:Int=>some q0)
noncomputable def F.dw (xs:LC):Option Bool:=
 some (decide ((0:Int)<=(M.idx (t:=ai) (fun e=>!M.dO e) xs)))
noncomputable def F.mJ (columns:LC):Option Bool:=
 cond ((decide ((columns.length:Int)<=(4:Int)))==true) (some (!(List.any columns (fun e=>!M.dO e)))) (some false)
noncomputable def F.mq (v:aa.D):Option Bool:=
 some (decide (v.1=(0:Int)))
noncomputable def F.iF (s:ByteArray)  (z0:Int) (v0:Unit):Option (Sum Unit Unit):=
 cond (!(M.inR (wrap64 z0) (97:Int) (122:Int))) (some (.inr ())) (some (.inl ()))
noncomputable def F.pS (s:ByteArray):Option Bool:=
 aT (aK (F.iF s) (bI s) ()) (fun v0:Unit=>some true) (fun q0:Unit=>some false)
noncomputable def F.oe (v:aa.D):Option Bool:=
 cond (decide (v.1=(0:Int))) (some (Ty.beq aa v ((0:Int),((0:Int),((⟨#[]⟩:ByteArray),()))))) (cond (decide (v.1=(1:Int))) (cond ((decide (v.2.2.1=(⟨#[]⟩:ByteArray)))==true) (some (M.inR v.2.1 (-9999:Int) (9999:Int))) (some false)) (cond (decide (v.1=(2:Int))) (cond ((decide (v.2.1=(0:Int)))==true) (cond ((decide ((v.2.2.1.size:Int)<=(6:Int)))==true) (some (M.lower (bI v.2.2.1))) (some false)) (some false)) (cond (decide (v.1=(3:Int))) (cond ((decide (v.2.2.1=(⟨#[]⟩:ByteArray)))==true) (some (M.inR v.2.1 (0:Int) (1:Int))) (some false)) (some false))))
noncomputable def F.vG (v:aa.D):Option Bool:=
 some (!(M.aO v))
noncomputable def F.ck (xs:LV)  (i0:Int) (v0:Unit):Option (Sum Unit Int):=
 cond (decide ((nth (t:=aa) xs i0).1=0)) (some (.inr i0)) (some (.inl ()))
noncomputable def F.fT (xs:LV):Option Int:=
 aT (aK (F.ck xs) (aH (0:Int) (xs.length:Int)) ()) (fun v0:Unit=>some (-1:Int)) (fun q0:Int=>some q0)
noncomputable def F.cX (xs:LV)  (i0:Int) (v0:Unit):Option (Sum Unit Int):=
 cond (!M.aO (nth (t:=aa) xs i0)) (some (.inr i0)) (some (.inl ()))
noncomputable def F.jv (xs:LV):Option Int:=
 aT (aK (F.cX xs) (aH (0:Int) (xs.length:Int)) ()) (fun v0:Unit=>some (-1:Int)) (fun q0:Int=>some q0)
noncomputable def F.cW (xs:LV):Option Bool:=
 some (decide ((0:Int)<=(M.idx (t:=aa) (fun e=>decide (e.1=0)) xs)))
noncomputable def F.eg (xs:LV):Option Bool:=
 some (decide ((0:Int)<=(M.idx (t:=aa) (fun e=>!M.aO e) xs)))
noncomputable def F.tM (row:LV):Option Bool:=
 cond ((decide ((row.length:Int)<=(4:Int)))==true) (some (!(List.any row (fun e=>!M.aO e)))) (some false)
noncomputable def F.iC (columns:LC) (row:LV)  (i0:Int) (v0:Unit):Option (Sum Unit Unit):=
 ag (i0<(columns.length:Int)) (cond ((!decide ((nth (t:=aa) row i0).1=(nth (t:=ai) columns i0).1))==true) (cond ((!decide ((nth (t:=aa) row i0).1=(0:Int)))==false) (cond (!(nth (t:=ai) columns i0).2.1) (some (.inr ())) (some (.inl ()))) (some (.inr ()))) (some (.inl ())))
noncomputable def F.qm (columns:LC) (row:LV):Option Bool:=
 cond ((!(M.bC columns))==false) (cond ((!(M.oS row))==false) (cond (!decide ((row.length:Int)=(columns.length:Int))) (some false) (aT (aK (F.iC columns row) (aH (0:Int) (row.length:Int)) ()) (fun v0:Unit=>some true) (fun q0:Unit=>some false))) (some false)) (some false)
noncomputable def F.tc (r:LV) (columns:LC):Option Bool:=
 some (!(M.bG columns r))
noncomputable def F.iM (xs:LV) (ys:LV)  (i0:Int) (v0:Unit):Option (Sum Unit Unit):=
 ag (i0<(ys.length:Int)) (cond (!(Ty.beq aa (nth (t:=aa) xs i0) (nth (t:=aa) ys i0))) (some (.inr ())) (some (.inl ())))
noncomputable def F.uT (xs:LV) (ys:LV):Option Bool:=
 cond (!decide ((xs.length:Int)=(ys.length:Int))) (some false) (aT (aK (F.iM xs ys) (aH (0:Int) (xs.length:Int)) ()) (fun v0:Unit=>some true) (fun q0:Unit=>some false))
noncomputable def F.ug (r:LV) (row:LV):Option Bool:=
 some (decide (r=row))
noncomputable def F.uG (xs:LV):Option LV:=
 cond (decide ((xs.length:Int)=(0:Int))) (some ([]:List aa.D)) (some (xs.take (xs.length:Int).toNat))
noncomputable def F.ko (row:LV) (list:(List Int))  (z0:Int) (v0:LV):Option (Sum LV Unit):=
 ag (0<=z0) (ag (z0<(row.length:Int)) (ag ((v0.length+[(nth (t:=aa) row z0)].length) * 32<=lim) (some (.inl (v0++[(nth (t:=aa) row z0)])))))
noncomputable def F.tP (row:LV) (list:(List Int)):Option LV:=
 aT (aK (F.ko row list) list []) (fun v0:LV=>ag (Sm (Ty.sl aa) v0) (bD (v0:LV) (fun r1:LV=>some (aB r1 (some ((0:Int),(r1.length:Int))))))) (fun(_:Unit)=>none)
noncomputable def F.kF (r:LV) (list:(List Int)) (key:LV):Option Bool:=
 bD ((M.taken r list):LV) (fun r1:LV=>some (decide (r1=key)))
noncomputable def F.cY (xs:LLV) (k0:LV)  (i0:Int) (v0:Unit):Option (Sum Unit Int):=
 cond (decide ((nth (t:=(Ty.sl aa)) xs i0)=k0)) (some (.inr i0)) (some (.inl ()))
noncomputable def F.jq (xs:LLV) (k0:LV):Option Int:=
 aT (aK (F.cY xs k0) (aH (0:Int) (xs.length:Int)) ()) (fun v0:Unit=>some (-1:Int)) (fun q0:Int=>some q0)
noncomputable def F.cQ (xs:LLV) (k0:LC)  (i0:Int) (v0:Unit):Option (Sum Unit Int):=
 cond (!M.bG k0 (nth (t:=(Ty.sl aa)) xs i0)) (some (.inr i0)) (some (.inl ()))
noncomputable def F.iW (xs:LLV) (k0:LC):Option Int:=
 aT (aK (F.cQ xs k0) (aH (0:Int) (xs.length:Int)) ()) (fun v0:Unit=>some (-1:Int)) (fun q0:Int=>some q0)
noncomputable def F.bV (xs:LLV) (k0:(List Int)) (k1:LV)  (i0:Int) (v0:Unit):Option (Sum Unit Int):=
 ag (M.eJ (nth (t:=(Ty.sl aa)) xs i0) k0) (cond (decide (M.taken (nth (t:=(Ty.sl aa)) xs i0) k0=k1)) (some (.inr i0)) (some (.inl ())))
noncomputable def F.fy (xs:LLV) (k0:(List Int)) (k1:LV):Option Int:=
 aT (aK (F.bV xs k0 k1) (aH (0:Int) (xs.length:Int)) ()) (fun v0:Unit=>some (-1:Int)) (fun q0:Int=>some q0)
noncomputable def F.dV (xs:LLV) (k0:LC):Option Bool:=
 some (decide ((0:Int)<=(M.idx (t:=(Ty.sl aa)) (fun e=>!M.bG k0 e) xs)))
noncomputable def F.cO (xs:LLV) (k0:(List Int)) (k1:LV):Option Bool:=
 some (decide ((0:Int)<=(M.idx (t:=(Ty.sl aa)) (fun e=>decide (M.taken e k0=k1)) xs)))
noncomputable def F.rO (columns:LC) (rows:LLV):Option Bool:=
 cond ((M.bC columns)==true) (some (!(List.any rows (fun e=>!M.bG columns e)))) (some false)
noncomputable def F.lq (t:TTable.D):Option Bool:=
 cond ((!(M.bC t.1))==false) (cond ((decide ((6:Int)<(t.2.1.length:Int)))==false) (some (!(M.fX t.1 t.2.1))) (some true)) (some true)
noncomputable def F.cH (xs:LTb)  (i0:Int) (v0:Unit):Option (Sum Unit Int):=
 cond (!M.cN (nth (t:=TTable) xs i0)) (some (.inr i0)) (some (.inl ()))
noncomputable def F.hO (xs:LTb):Option Int:=
 aT (aK (F.cH xs) (aH (0:Int) (xs.length:Int)) ()) (fun v0:Unit=>some (-1:Int)) (fun q0:Int=>some q0)
noncomputable def F.dJ (xs:LTb):Option Bool:=
 some (decide ((0:Int)<=(M.idx (t:=TTable) (fun e=>!M.cN e) xs)))
noncomputable def F.ov (tables:LTb):Option Bool:=
 cond ((decide ((tables.length:Int)<=(3:Int)))==true) (some (!(List.any tables (fun e=>!M.cN e)))) (some false)
noncomputable def F.Ag (rows:LLV) (row:LV):Option Int:=
 some (M.idx (t:=(Ty.sl aa)) (fun e=>decide (e=row)) rows)
noncomputable def F.ny (tables:LTb) (c:TChange.D):Option Bool:=
 cond ((!(M.aA tables))==false) (cond (!(M.inR c.1 (0:Int) (wrap64 ((tables.length:Int)-(1:Int))))) (some false) (cond ((M.bG (nth (t:=TTable) tables c.1).1 c.2.1)==true) (cond (c.2.2.1==true) (cond ((decide (((nth (t:=TTable) tables c.1).2.1.length:Int)<(6:Int)))==false) (some false) (some true)) (some (decide ((0:Int)<=(M.rowAt (nth (t:=TTable) tables c.1).2.1 c.2.1))))) (some false))) (some false)
noncomputable def F.gQ (rows:LLV)  (z0:LV) (v0:LLV):Option (Sum LLV Unit):=
 bD (z0:LV) (fun r1:LV=>ag ((v0.length+[(aB r1 (some ((0:Int),(r1.length:Int))))].length) * 24<=lim) (some (.inl (v0++[(aB r1 (some ((0:Int),(r1.length:Int))))]))))
noncomputable def F.om (rows:LLV):Option LLV:=
 aT (aK (F.gQ rows) rows []) (fun v0:LLV=>some (v0.take (v0.length:Int).toNat)) (fun(_:Unit)=>none)
noncomputable def F.ta (xs:LC):Option LC:=
 cond (decide ((xs.length:Int)=(0:Int))) (some ([]:List ai.D)) (some (xs.take (xs.length:Int).toNat))
noncomputable def F.fO (tables:LTb)  (z0:TTable.D) (v0:LTb):Option (Sum LTb Unit):=
 bD (z0.1:LC) (fun r1:LC=>bD (z0.2.1:LLV) (fun r2:LLV=>ag ((v0.length+[((aB r1 (some ((0:Int),(r1.length:Int)))),((aB r2 (some ((0:Int),(r2.length:Int)))),()))].length) * 48<=lim) (some (.inl (v0++[((aB r1 (some ((0:Int),(r1.length:Int)))),((aB r2 (some ((0:Int),(r2.length:Int)))),()))])))))
noncomputable def F.lC (tables:LTb):Option LTb:=
 aT (aK (F.fO tables) tables []) (fun v0:LTb=>some (v0.take (v0.length:Int).toNat)) (fun(_:Unit)=>none)
noncomputable def F.jU (tables:LTb) (c:TChange.D):Option LTb:=
 bD (tables:LTb) (fun r1:LTb=>ag (0<=c.1) (ag (c.1<(r1.length:Int)) (cond c.2.2.1 (bD (c.2.1:LV) (fun r2:LV=>ag (((nth (t:=TTable) r1 c.1).2.1.length+[(aB r2 (some ((0:Int),(r2.length:Int))))].length) * 24<=lim) (bD (((r1.set c.1.toNat ((nth (t:=TTable) r1 c.1).1,([],()))).set c.1.toNat ((nth (t:=TTable) (r1.set c.1.toNat ((nth (t:=TTable) r1 c.1).1,([],()))) c.1).1,(((nth (t:=TTable) r1 c.1).2.1++[(aB r2 (some ((0:Int),(r2.length:Int))))]),()))):LTb) (fun y1:LTb=>ag (Sm (Ty.sl (Ty.sl aa)) (nth (t:=TTable) y1 c.1).2.1) (bD ((nth (t:=TTable) y1 c.1).2.1:LLV) (fun r3:LLV=>bD ((y1.set c.1.toNat ((nth (t:=TTable) y1 c.1).1,((aB r3 (some ((0:Int),(r3.length:Int)))),()))):LTb) (fun y2:LTb=>some y2))))))) (ag (Sm (Ty.sl (Ty.sl aa)) (nth (t:=TTable) r1 c.1).2.1) (ag (0<=(M.rowAt (nth (t:=TTable) r1 c.1).2.1 c.2.1)) (ag ((M.rowAt (nth (t:=TTable) r1 c.1).2.1 c.2.1)<=wrap64 ((M.rowAt (nth (t:=TTable) r1 c.1).2.1 c.2.1)+(1:Int))) (ag (wrap64 ((M.rowAt (nth (t:=TTable) r1 c.1).2.1 c.2.1)+(1:Int))<=((nth (t:=TTable) r1 c.1).2.1.length:Int)) (bD (((r1.set c.1.toNat ((nth (t:=TTable) r1 c.1).1,([],()))).set c.1.toNat ((nth (t:=TTable) (r1.set c.1.toNat ((nth (t:=TTable) r1 c.1).1,([],()))) c.1).1,(((nth (t:=TTable) r1 c.1).2.1.take (M.rowAt (nth (t:=TTable) r1 c.1).2.1 c.2.1).toNat++(nth (t:=TTable) r1 c.1).2.1.drop (wrap64 ((M.rowAt (nth (t:=TTable) r1 c.1).2.1 c.2.1)+(1:Int))).toNat),()))):LTb) (fun y3:LTb=>ag (Sm (Ty.sl (Ty.sl aa)) (nth (t:=TTable) y3 c.1).2.1) (bD ((nth (t:=TTable) y3 c.1).2.1:LLV) (fun r3:LLV=>bD ((y3.set c.1.toNat ((nth (t:=TTable) y3 c.1).1,((aB r3 (some ((0:Int),(r3.length:Int)))),()))):LTb) (fun y2:LTb=>some y2))))))))))))
noncomputable def F.jL (tables:LTb) (c:TChange.D):Option (LTb×Bool):=
 cond (!(M.aV tables c)) (some ([],false)) (ag (M.aV tables c) (bD ((M.bt tables c):LTb) (fun r1:LTb=>some (r1,true))))
noncomputable def F.lp (p:ax.D):Option Int:=
 cond (decide (p.1=(3:Int))) (some (2:Int)) (cond (decide (p.1=(4:Int))) (some (2:Int)) (cond (decide (p.1=(5:Int))) (some (2:Int)) (cond (decide (p.1=(6:Int))) (some (2:Int)) (cond (decide (p.1=(7:Int))) (some (1:Int)) (cond (decide (p.1=(8:Int))) (some (1:Int)) (some (0:Int)))))))
noncomputable def F.pN (truth:Int):Option (aa.D):=
 cond (!(M.inR truth (0:Int) (1:Int))) (some ((0:Int),((0:Int),((⟨#[]⟩:ByteArray),())))) (some ((3:Int),(truth,((⟨#[]⟩:ByteArray),()))))
noncomputable def F.iq (vals:(List Int))  (z0:Int) (v0:Unit):Option (Sum Unit Int):=
 cond (!decide (z0=(0:Int))) (some (.inr z0)) (some (.inl ()))
noncomputable def F.uf (vals:(List Int)):Option Int:=
 aT (aK (F.iq vals) vals ()) (fun v0:Unit=>some (0:Int)) (fun q0:Int=>some q0)
noncomputable def F.cmp_isNaN_int (x:Int):Option Bool:=
 some (!decide (x=x))
noncomputable def F.ld (x:Int) (y:Int):Option Int:=
 cond false (some (0:Int)) (cond (decide (x<y)) (some (-1:Int)) (cond (decide (y<x)) (some (1:Int)) (some (0:Int))))
noncomputable def F.cmp_isNaN_string (x:ByteArray):Option Bool:=
 some (!decide (x=x))
noncomputable def F.iQ (x:ByteArray) (y:ByteArray):Option Int:=
 cond false (some (0:Int)) (cond (Op.bytesLess x.toList y.toList) (some (-1:Int)) (cond (!(Op.bytesLess x.toList y.toList||decide (x=y))) (some (1:Int)) (some (0:Int))))
noncomputable def F.jO (v:aa.D) (w:aa.D):Option Int:=
 ag (Sm (Ty.sl (Ty.int .i64)) [(M.uZ v.1 w.1),(M.uZ v.2.1 w.2.1),(M.uN v.2.2.1 w.2.2.1)]) (some (M.orI [(M.uZ v.1 w.1),(M.uZ v.2.1 w.2.1),(M.uN v.2.2.1 w.2.2.1)]))
noncomputable def F.pO (b:Bool):Option Int:=
 cond b (some (1:Int)) (some (0:Int))
noncomputable def F.qs (kind:Int) (a:aa.D) (b:aa.D):Option Int:=
 cond ((!(M.inR kind (1:Int) (4:Int)))==false) (cond ((!(M.aO a))==false) (cond (!(M.aO b)) (some (-1:Int)) (cond ((decide (a.1=(0:Int)))==false) (cond (decide (b.1=(0:Int))) (some (2:Int)) (cond (!decide (a.1=b.1)) (some (-1:Int)) (cond ((decide (kind=(1:Int)))==true) (cond ((decide ((M.order a b)=(0:Int)))==false) (some (M.bool false)) (some (M.bool true))) (cond ((decide (kind=(2:Int)))==true) (cond ((!decide ((M.order a b)=(0:Int)))==false) (some (M.bool false)) (some (M.bool true))) (cond ((decide (kind=(3:Int)))==true) (cond ((decide ((M.order a b)<(0:Int)))==false) (some (M.bool false)) (some (M.bool true))) (cond ((decide (kind=(4:Int)))==true) (some (M.bool (decide ((M.order a b)<=(0:Int))))) (some (M.bool false)))))))) (some (2:Int)))) (some (-1:Int))) (some (-1:Int))
noncomputable def F.vg (n:Int):Option Bool:=
 some (M.inR n (0:Int) (2:Int))
noncomputable def F.wo (a:Int) (b:Int) (alone:Int):Option Int:=
 cond ((!(M.inR a 0 2))==false) (cond (!(M.inR b 0 2)) (some (-1:Int)) (cond ((decide (a=alone))==false) (cond (decide (b=alone)) (some alone) (cond ((decide (a=(2:Int)))==false) (cond (decide (b=(2:Int))) (some (2:Int)) (some (wrap64 ((1:Int)-alone)))) (some (2:Int)))) (some alone))) (some (-1:Int))
noncomputable def F.tQ (a:Int) (b:Int):Option Int:=
 ag (0<=(0:Int)/\(0:Int)<=1) (some (M.fold a b (0:Int)))
noncomputable def F.qf (v:aa.D):Option Int:=
 cond (!(M.aO v)) (some (-1:Int)) (cond (decide (v.1=(0:Int))) (some (2:Int)) (cond (decide (v.1=(3:Int))) (some v.2.1) (some (-1:Int))))
noncomputable def F.wK (a:Int) (b:Int):Option Int:=
 ag (0<=(1:Int)/\(1:Int)<=1) (some (M.fold a b (1:Int)))
noncomputable def F.tu (a:Int):Option Int:=
 cond (decide (a=(0:Int))) (some (1:Int)) (cond (decide (a=(1:Int))) (some (0:Int)) (cond (decide (a=(2:Int))) (some (2:Int)) (some (-1:Int))))
noncomputable def F.kX (p:ax.D) (row:LV) (inp:LV):Option (aa.D):=
 cond (decide (p.1=(1:Int))) (some p.2.2.1) (cond (decide (p.1=(2:Int))) (ag (0<=p.2.1) (ag (p.2.1<(row.length:Int)) (some (nth (t:=aa) row p.2.1)))) (cond (decide (p.1=(3:Int))) (ag ((0:Int)<(inp.length:Int)) (ag ((1:Int)<(inp.length:Int)) (cond ((decide ((nth (t:=aa) inp (0:Int)).1=(0:Int)))==false) (cond ((decide ((nth (t:=aa) inp (1:Int)).1=(0:Int)))==false) (cond (!(M.aO ((1:Int),(wrap64 ((nth (t:=aa) inp (0:Int)).2.1+(nth (t:=aa) inp (1:Int)).2.1),((⟨#[]⟩:ByteArray),()))))) (some ((0:Int),((0:Int),((⟨#[]⟩:ByteArray),())))) (some ((1:Int),(wrap64 ((nth (t:=aa) inp (0:Int)).2.1+(nth (t:=aa) inp (1:Int)).2.1),((⟨#[]⟩:ByteArray),()))))) (some ((0:Int),((0:Int),((⟨#[]⟩:ByteArray),()))))) (some ((0:Int),((0:Int),((⟨#[]⟩:ByteArray),()))))))) (cond (decide (p.1=(4:Int))) (ag ((0:Int)<(inp.length:Int)) (ag ((1:Int)<(inp.length:Int)) (bD ((M.valueOf (M.compare p.2.1 (nth (t:=aa) inp (0:Int)) (nth (t:=aa) inp (1:Int)))):aa.D) (fun r1:aa.D=>some r1)))) (cond (decide (p.1=(5:Int))) (ag ((0:Int)<(inp.length:Int)) (ag ((1:Int)<(inp.length:Int)) (bD ((M.valueOf (M.rj (M.bU (nth (t:=aa) inp (0:Int))) (M.bU (nth (t:=aa) inp (1:Int))))):aa.D) (fun r2:aa.D=>some r2)))) (cond (decide (p.1=(6:Int))) (ag ((0:Int)<(inp.length:Int)) (ag ((1:Int)<(inp.length:Int)) (bD ((M.valueOf (M.zE (M.bU (nth (t:=aa) inp (0:Int))) (M.bU (nth (t:=aa) inp (1:Int))))):aa.D) (fun r3:aa.D=>some r3)))) (cond (decide (p.1=(7:Int))) (ag ((0:Int)<(inp.length:Int)) (bD ((M.valueOf (M.rK (M.bU (nth (t:=aa) inp (0:Int))))):aa.D) (fun r4:aa.D=>some r4))) (ag ((0:Int)<(inp.length:Int)) (bD ((M.valueOf (M.bool (decide ((nth (t:=aa) inp (0:Int)).1=(0:Int))))):aa.D) (fun r5:aa.D=>some r5)))))))))
noncomputable def F.dG (row:LV) (e:LPt)  (z0:ax.D) (v0:LV):Option (Sum LV Unit):=
 ag (0<=wrap64 ((v0.length:Int)-(M.takes z0))) (ag (wrap64 ((v0.length:Int)-(M.takes z0))<=(v0.length:Int)) (ag (Sm (Ty.sl aa) (aB v0 (some (wrap64 ((v0.length:Int)-(M.takes z0)),(v0.length:Int))))) (ag (((aB v0 (some (wrap64 ((v0.length:Int)-(M.takes z0)),(v0.length:Int)))).length:Int)=M.takes z0) (ag (M.nr z0 row.length) (ag (1<=z0.1/\z0.1<=8) (bD ((M.gU z0 row (aB v0 (some (wrap64 ((v0.length:Int)-(M.takes z0)),(v0.length:Int))))):aa.D) (fun r1:aa.D=>ag ((0:Int)<=wrap64 ((v0.length:Int)-(M.takes z0))) (ag (((wrap64 ((v0.length:Int)-(M.takes z0))).toNat+[r1].length) * 32<=lim) (some (.inl (v0.take (wrap64 ((v0.length:Int)-(M.takes z0))).toNat++[r1])))))))))))
noncomputable def F.mz (row:LV) (e:LPt):Option (aa.D):=
 aT (aK (F.dG row e) e []) (fun v0:LV=>ag ((0:Int)<(v0.length:Int)) (some (nth (t:=aa) v0 (0:Int)))) (fun(_:Unit)=>none)
noncomputable def F.mC (list:(List Int)) (key:LV):Option ((List Int)×LV):=
 some (list,key)
noncomputable def F.jZ (b:TBond.D) (tables:LTb) (n:Int):Option Bool:=
 ag (0<=b.2.1) (ag (b.2.1<(tables.length:Int)) (ag (0<=n) (ag (n<((nth (t:=TTable) tables b.2.1).2.1.length:Int)) (cond (decide (b.1=(3:Int))) (ag (M.jB (nth (t:=(Ty.sl aa)) (nth (t:=TTable) tables b.2.1).2.1 n).length b.2.2.2.2.2.2.1) (bD ((M.ep (nth (t:=(Ty.sl aa)) (nth (t:=TTable) tables b.2.1).2.1 n) b.2.2.2.2.2.2.1):aa.D) (fun r1:aa.D=>bD ((M.valueOf (0:Int)):aa.D) (fun r2:aa.D=>some (Ty.beq aa r1 r2))))) (ag (M.eJ (nth (t:=(Ty.sl aa)) (nth (t:=TTable) tables b.2.1).2.1 n) b.2.2.1) (bD ((M.taken (nth (t:=(Ty.sl aa)) (nth (t:=TTable) tables b.2.1).2.1 n) b.2.2.1):LV) (fun r3:LV=>cond (List.any r3 (fun e=>decide (e.1=0))) (some false) (cond (decide (b.1=(1:Int))) (ag ((0:Int)<=n) (ag (n<=((nth (t:=TTable) tables b.2.1).2.1.length:Int)) (bD ((b.2.2.1,r3):(List Int)×LV) (fun r4:(List Int)×LV=>ag (∀e∈(aB (nth (t:=TTable) tables b.2.1).2.1 (some ((0:Int),n))),M.eJ e r4.1) (some (List.any (aB (nth (t:=TTable) tables b.2.1).2.1 (some ((0:Int),n))) (fun e=>decide (M.taken e r4.1=r4.2)))))))) (ag (0<=b.2.2.2.1) (ag (b.2.2.2.1<(tables.length:Int)) (bD ((b.2.2.2.2.1,r3):(List Int)×LV) (fun r5:(List Int)×LV=>ag (∀e∈(nth (t:=TTable) tables b.2.2.2.1).2.1,M.eJ e r5.1) (some (!(List.any (nth (t:=TTable) tables b.2.2.2.1).2.1 (fun e=>decide (M.taken e r5.1=r5.2)))))))))))))))))
noncomputable def F.eT (b:TBond.D) (tables:LTb)  (i0:Int) (v0:Unit):Option (Sum Unit Int):=
 ag ((M.aA tables&&M.aN tables b)=true) (ag (0<=i0/\i0<((M.dZ tables b).length:Int)) (cond (M.breaks tables b i0) (some (.inr i0)) (some (.inl ()))))
noncomputable def F.jK (b:TBond.D) (tables:LTb):Option Int:=
 ag (0<=b.2.1) (ag (b.2.1<(tables.length:Int)) (aT (aK (F.eT b tables) (aH (0:Int) ((nth (t:=TTable) tables b.2.1).2.1.length:Int)) ()) (fun v0:Unit=>some (-1:Int)) (fun q0:Int=>some q0)))
noncomputable def F.ia (b:TBond.D) (out:LTb):Option Bool:=
 cond (b.2.2.2.2.2.1==true) (some (decide ((0:Int)<=(M.broken out b)))) (some false)
noncomputable def F.xA (b:TBond.D) (tables:LTb):Option Bool:=
 some (decide ((0:Int)<=(M.broken tables b)))
noncomputable def F.lf (p:ax.D) (columns:LC):Option Bool:=
 cond (decide (p.1=(1:Int))) (cond ((decide (p.2.1=(0:Int)))==true) (cond ((M.aO p.2.2.1)==true) (some (!decide (p.2.2.1.1=(0:Int)))) (some false)) (some false)) (cond (decide (p.1=(2:Int))) (cond ((M.inR p.2.1 (0:Int) (wrap64 ((columns.length:Int)-(1:Int))))==true) (some (Ty.beq aa p.2.2.1 ((0:Int),((0:Int),((⟨#[]⟩:ByteArray),()))))) (some false)) (cond (decide (p.1=(4:Int))) (cond ((M.inR p.2.1 (1:Int) (4:Int))==true) (some (Ty.beq aa p.2.2.1 ((0:Int),((0:Int),((⟨#[]⟩:ByteArray),()))))) (some false)) (cond (decide (p.1=(3:Int))) (cond ((decide (p.2.1=(0:Int)))==true) (some (Ty.beq aa p.2.2.1 ((0:Int),((0:Int),((⟨#[]⟩:ByteArray),()))))) (some false)) (cond (decide (p.1=(5:Int))) (cond ((decide (p.2.1=(0:Int)))==true) (some (Ty.beq aa p.2.2.1 ((0:Int),((0:Int),((⟨#[]⟩:ByteArray),()))))) (some false)) (cond (decide (p.1=(6:Int))) (cond ((decide (p.2.1=(0:Int)))==true) (some (Ty.beq aa p.2.2.1 ((0:Int),((0:Int),((⟨#[]⟩:ByteArray),()))))) (some false)) (cond (decide (p.1=(7:Int))) (cond ((decide (p.2.1=(0:Int)))==true) (some (Ty.beq aa p.2.2.1 ((0:Int),((0:Int),((⟨#[]⟩:ByteArray),()))))) (some false)) (cond (decide (p.1=(8:Int))) (cond ((decide (p.2.1=(0:Int)))==true) (some (Ty.beq aa p.2.2.1 ((0:Int),((0:Int),((⟨#[]⟩:ByteArray),()))))) (some false)) (some false))))))))
noncomputable def F.mV (k:Int) (kind:Int):Option Bool:=
 some (!decide (k=kind))
noncomputable def F.nL (n:Int) (t:TTable.D):Option Bool:=
 some (!(M.inR n (0:Int) (wrap64 ((t.1.length:Int)-(1:Int)))))
noncomputable def F.cT (xs:(List Int)) (k0:TTable.D)  (i0:Int) (v0:Unit):Option (Sum Unit Int):=
 cond (!M.inR (nth (t:=(Ty.int .i64)) xs i0) 0 (k0.1.length-1)) (some (.inr i0)) (some (.inl ()))
noncomputable def F.iY (xs:(List Int)) (k0:TTable.D):Option Int:=
 aT (aK (F.cT xs k0) (aH (0:Int) (xs.length:Int)) ()) (fun v0:Unit=>some (-1:Int)) (fun q0:Int=>some q0)
noncomputable def F.cm (xs:(List Int)) (k0:Int)  (i0:Int) (v0:Unit):Option (Sum Unit Int):=
 cond (!decide ((nth (t:=(Ty.int .i64)) xs i0)=k0)) (some (.inr i0)) (some (.inl ()))
noncomputable def F.fU (xs:(List Int)) (k0:Int):Option Int:=
 aT (aK (F.cm xs k0) (aH (0:Int) (xs.length:Int)) ()) (fun v0:Unit=>some (-1:Int)) (fun q0:Int=>some q0)
noncomputable def F.dX (xs:(List Int)) (k0:TTable.D):Option Bool:=
 some (decide ((0:Int)<=(M.idx (t:=(Ty.int .i64)) (fun e=>!M.inR e 0 (k0.1.length-1)) xs)))
noncomputable def F.cV (xs:(List Int)) (k0:Int):Option Bool:=
 some (decide ((0:Int)<=(M.idx (t:=(Ty.int .i64)) (fun e=>!decide (e=k0)) xs)))
noncomputable def F.ki (kind:Int) (ins:(List Int)):Option Bool:=
 some (!(List.any ins (fun e=>!decide (e=kind))))
noncomputable def F.mL (p:ax.D) (columns:LC) (inp:(List Int)):Option (Int×Bool):=
 cond (decide (p.1=(1:Int))) (some (p.2.2.1.1,true)) (cond (decide (p.1=(2:Int))) (ag (0<=p.2.1) (ag (p.2.1<(columns.length:Int)) (some ((nth (t:=ai) columns p.2.1).1,true)))) (cond (decide (p.1=(3:Int))) (some ((1:Int),(List.all inp (fun k=>decide (k=(1:Int)))))) (cond (decide (p.1=(4:Int))) (ag ((0:Int)<(inp.length:Int)) (ag ((1:Int)<(inp.length:Int)) (some ((3:Int),(decide ((nth (t:=(Ty.int .i64)) inp (0:Int))=(nth (t:=(Ty.int .i64)) inp (1:Int)))))))) (cond (decide (p.1=(8:Int))) (some ((3:Int),true)) (some ((3:Int),(List.all inp (fun k=>decide (k=(3:Int))))))))))
noncomputable def F.dR (columns:LC) (e:LPt)  (z0:ax.D) (v0:(List Int)):Option (Sum (List Int) Unit):=
 cond ((!(M.lI z0 columns))==false) (cond (decide ((v0.length:Int)<(M.takes z0))) (some (.inr ())) (ag (0<=wrap64 ((v0.length:Int)-(M.takes z0))) (ag (wrap64 ((v0.length:Int)-(M.takes z0))<=(v0.length:Int)) (ag (Sm (Ty.sl (Ty.int .i64)) (aB v0 (some (wrap64 ((v0.length:Int)-(M.takes z0)),(v0.length:Int))))) (ag (((aB v0 (some (wrap64 ((v0.length:Int)-(M.takes z0)),(v0.length:Int)))).length:Int)=M.takes z0) (bD ((M.cF z0 columns (aB v0 (some (wrap64 ((v0.length:Int)-(M.takes z0)),(v0.length:Int))))):Int×Bool) (fun r1:Int×Bool=>cond (!r1.2) (some (.inr ())) (ag ((0:Int)<=wrap64 ((v0.length:Int)-(M.takes z0))) (ag (((wrap64 ((v0.length:Int)-(M.takes z0))).toNat+[r1.1].length) * 8<=lim) (some (.inl (v0.take (wrap64 ((v0.length:Int)-(M.takes z0))).toNat++[r1.1])))))))))))) (some (.inr ()))
noncomputable def F.nO (columns:LC) (e:LPt):Option Int:=
 cond ((!(M.bC columns))==false) (cond (decide ((12:Int)<(e.length:Int))) (some (-1:Int)) (aT (aK (F.dR columns e) e []) (fun v0:(List Int)=>cond (!decide ((v0.length:Int)=(1:Int))) (some (-1:Int)) (ag ((0:Int)<(v0.length:Int)) (some (nth (t:=(Ty.int .i64)) v0 (0:Int))))) (fun q0:Unit=>some (-1:Int)))) (some (-1:Int))
noncomputable def F.qD (t:TTable.D) (list:(List Int)):Option Bool:=
 cond ((M.inR (list.length:Int) (1:Int) (4:Int))==true) (some (!(List.any list (fun e=>!M.inR e 0 (t.1.length-1))))) (some false)
noncomputable def F.fk (tables:LTb) (b:TBond.D)  (i1:Int) (v1:Unit):Option (Sum Unit Unit):=
 ag (0<=(nth (t:=(Ty.int .i64)) b.2.2.1 i1)) (ag ((nth (t:=(Ty.int .i64)) b.2.2.1 i1)<((nth (t:=TTable) tables b.2.1).1.length:Int)) (ag (0<=b.2.2.2.1) (ag (b.2.2.2.1<(tables.length:Int)) (ag (i1<(b.2.2.2.2.1.length:Int)) (ag (0<=(nth (t:=(Ty.int .i64)) b.2.2.2.2.1 i1)) (ag ((nth (t:=(Ty.int .i64)) b.2.2.2.2.1 i1)<((nth (t:=TTable) tables b.2.2.2.1).1.length:Int)) (cond (!decide ((nth (t:=ai) (nth (t:=TTable) tables b.2.1).1 (nth (t:=(Ty.int .i64)) b.2.2.1 i1)).1=(nth (t:=ai) (nth (t:=TTable) tables b.2.2.2.1).1 (nth (t:=(Ty.int .i64)) b.2.2.2.2.1 i1)).1)) (some (.inr ())) (some (.inl ())))))))))
noncomputable def F.qO (tables:LTb) (b:TBond.D):Option Bool:=
 cond (!(M.inR b.2.1 (0:Int) (wrap64 ((tables.length:Int)-(1:Int))))) (some false) (cond ((decide (b.2.2.2.1=(0:Int)))==true) (cond ((decide ((b.2.2.2.2.1.length:Int)=(0:Int)))==true) (cond (decide (b.1=(1:Int))) (cond ((M.bT (nth (t:=TTable) tables b.2.1).1 b.2.2.1)==true) (cond ((!b.2.2.2.2.2.1)==true) (some (decide ((b.2.2.2.2.2.2.1.length:Int)=(0:Int)))) (some false)) (some false)) (cond (decide (b.1=(3:Int))) (cond ((decide ((M.dg (nth (t:=TTable) tables b.2.1).1 b.2.2.2.2.2.2.1)=(3:Int)))==true) (cond ((!b.2.2.2.2.2.1)==true) (some (decide ((b.2.2.1.length:Int)=(0:Int)))) (some false)) (some false)) (cond (decide (b.1=(2:Int))) (cond ((!(M.inR b.2.2.2.1 (0:Int) (wrap64 ((tables.length:Int)-(1:Int)))))==false) (cond ((decide ((0:Int)<(b.2.2.2.2.2.2.1.length:Int)))==false) (cond ((!(M.bT (nth (t:=TTable) tables b.2.1).1 b.2.2.1))==false) (cond ((!(M.bT (nth (t:=TTable) tables b.2.2.2.1).1 b.2.2.2.2.1))==false) (cond (!decide ((b.2.2.2.2.1.length:Int)=(b.2.2.1.length:Int))) (some false) (aT (aK (F.fk tables b) (aH (0:Int) (b.2.2.1.length:Int)) ()) (fun v1:Unit=>some true) (fun q1:Unit=>some false))) (some false)) (some false)) (some false)) (some false)) (some false)))) (cond (decide (b.1=(1:Int))) (cond ((M.bT (nth (t:=TTable) tables b.2.1).1 b.2.2.1)==true) (some false) (some false)) (cond (decide (b.1=(3:Int))) (cond ((decide ((M.dg (nth (t:=TTable) tables b.2.1).1 b.2.2.2.2.2.2.1)=(3:Int)))==true) (some false) (some false)) (cond (decide (b.1=(2:Int))) (cond ((!(M.inR b.2.2.2.1 (0:Int) (wrap64 ((tables.length:Int)-(1:Int)))))==false) (cond ((decide ((0:Int)<(b.2.2.2.2.2.2.1.length:Int)))==false) (cond ((!(M.bT (nth (t:=TTable) tables b.2.1).1 b.2.2.1))==false) (cond ((!(M.bT (nth (t:=TTable) tables b.2.2.2.1).1 b.2.2.2.2.1))==false) (cond (!decide ((b.2.2.2.2.1.length:Int)=(b.2.2.1.length:Int))) (some false) (aT (aK (F.fk tables b) (aH (0:Int) (b.2.2.1.length:Int)) ()) (fun v1:Unit=>some true) (fun q1:Unit=>some false))) (some false)) (some false)) (some false)) (some false)) (some false))))) (cond (decide (b.1=(1:Int))) (cond ((M.bT (nth (t:=TTable) tables b.2.1).1 b.2.2.1)==true) (some false) (some false)) (cond (decide (b.1=(3:Int))) (cond ((decide ((M.dg (nth (t:=TTable) tables b.2.1).1 b.2.2.2.2.2.2.1)=(3:Int)))==true) (some false) (some false)) (cond (decide (b.1=(2:Int))) (cond ((!(M.inR b.2.2.2.1 (0:Int) (wrap64 ((tables.length:Int)-(1:Int)))))==false) (cond ((decide ((0:Int)<(b.2.2.2.2.2.2.1.length:Int)))==false) (cond ((!(M.bT (nth (t:=TTable) tables b.2.1).1 b.2.2.1))==false) (cond ((!(M.bT (nth (t:=TTable) tables b.2.2.2.1).1 b.2.2.2.2.1))==false) (cond (!decide ((b.2.2.2.2.1.length:Int)=(b.2.2.1.length:Int))) (some false) (aT (aK (F.fk tables b) (aH (0:Int) (b.2.2.1.length:Int)) ()) (fun v1:Unit=>some true) (fun q1:Unit=>some false))) (some false)) (some false)) (some false)) (some false)) (some false)))))
noncomputable def F.rI (b:TBond.D) (tables:LTb):Option Bool:=
 some (!(M.aN tables b))
noncomputable def F.bY (xs:(List TBond.D)) (k0:LTb)  (i0:Int) (v0:Unit):Option (Sum Unit Int):=
 ag ((M.aA k0&&M.aN k0 (nth (t:=TBond) xs i0))=true) (cond (M.loose k0 (nth (t:=TBond) xs i0)) (some (.inr i0)) (some (.inl ())))
noncomputable def F.fD (xs:(List TBond.D)) (k0:LTb):Option Int:=
 aT (aK (F.bY xs k0) (aH (0:Int) (xs.length:Int)) ()) (fun v0:Unit=>some (-1:Int)) (fun q0:Int=>some q0)
noncomputable def F.dn (xs:(List TBond.D)) (k0:LTb)  (i0:Int) (v0:Unit):Option (Sum Unit Int):=
 ag ((M.aA k0&&M.aN k0 (nth (t:=TBond) xs i0))=true) (cond (decide (0<=M.broken k0 (nth (t:=TBond) xs i0))) (some (.inr i0)) (some (.inl ())))
noncomputable def F.jJ (xs:(List TBond.D)) (k0:LTb):Option Int:=
 aT (aK (F.dn xs k0) (aH (0:Int) (xs.length:Int)) ()) (fun v0:Unit=>some (-1:Int)) (fun q0:Int=>some q0)
noncomputable def F.cM (xs:(List TBond.D)) (k0:LTb)  (i0:Int) (v0:Unit):Option (Sum Unit Int):=
 cond (!M.aN k0 (nth (t:=TBond) xs i0)) (some (.inr i0)) (some (.inl ()))
noncomputable def F.ij (xs:(List TBond.D)) (k0:LTb):Option Int:=
 aT (aK (F.cM xs k0) (aH (0:Int) (xs.length:Int)) ()) (fun v0:Unit=>some (-1:Int)) (fun q0:Int=>some q0)
noncomputable def F.eP (xs:(List TBond.D)) (k0:LTb):Option Bool:=
 some (decide ((0:Int)<=(M.idx (t:=TBond) (fun e=>decide (0<=M.broken k0 e)) xs)))
noncomputable def F.dQ (xs:(List TBond.D)) (k0:LTb):Option Bool:=
 some (decide ((0:Int)<=(M.idx (t:=TBond) (fun e=>!M.aN k0 e) xs)))
noncomputable def F.BG (tables:LTb) (bonds:(List TBond.D)):Option Bool:=
 some (!(List.any bonds (fun e=>decide (0<=M.broken tables e))))
noncomputable def F.pL (tables:LTb) (bonds:(List TBond.D)):Option Bool:=
 cond ((M.aA tables)==true) (some (!(List.any bonds (fun e=>!M.aN tables e)))) (some false)
noncomputable def F.dA (tables:LTb) (bonds:(List TBond.D)) (c:TChange.D)   (v0:LTb):Option (Sum LTb LTb):=
 ag (Sm (Ty.sl TTable) v0) (ag (∀e∈bonds,(M.aA v0&&M.aN v0 e)=true) (cond (decide ((M.idx (t:=TBond) (fun e=>M.loose v0 e) bonds)<(0:Int))) (some (.inr v0)) (ag (0<=(M.idx (t:=TBond) (fun e=>M.loose v0 e) bonds)) (ag ((M.idx (t:=TBond) (fun e=>M.loose v0 e) bonds)<(bonds.length:Int)) (ag ((M.aA v0&&M.aN v0 (nth (t:=TBond) bonds (M.idx (t:=TBond) (fun e=>M.loose v0 e) bonds)))=true) (ag (0<=(nth (t:=TBond) bonds (M.idx (t:=TBond) (fun e=>M.loose v0 e) bonds)).2.1) (ag ((nth (t:=TBond) bonds (M.idx (t:=TBond) (fun e=>M.loose v0 e) bonds)).2.1<(v0.length:Int)) (ag (0<=(M.broken v0 (nth (t:=TBond) bonds (M.idx (t:=TBond) (fun e=>M.loose v0 e) bonds)))) (ag ((M.broken v0 (nth (t:=TBond) bonds (M.idx (t:=TBond) (fun e=>M.loose v0 e) bonds)))<=wrap64 ((M.broken v0 (nth (t:=TBond) bonds (M.idx (t:=TBond) (fun e=>M.loose v0 e) bonds)))+(1:Int))) (ag (wrap64 ((M.broken v0 (nth (t:=TBond) bonds (M.idx (t:=TBond) (fun e=>M.loose v0 e) bonds)))+(1:Int))<=((nth (t:=TTable) v0 (nth (t:=TBond) bonds (M.idx (t:=TBond) (fun e=>M.loose v0 e) bonds)).2.1).2.1.length:Int)) (ag (Sm (Ty.sl (Ty.sl aa)) ((nth (t:=TTable) v0 (nth (t:=TBond) bonds (M.idx (t:=TBond) (fun e=>M.loose v0 e) bonds)).2.1).2.1.take (M.broken v0 (nth (t:=TBond) bonds (M.idx (t:=TBond) (fun e=>M.loose v0 e) bonds))).toNat++(nth (t:=TTable) v0 (nth (t:=TBond) bonds (M.idx (t:=TBond) (fun e=>M.loose v0 e) bonds)).2.1).2.1.drop (wrap64 ((M.broken v0 (nth (t:=TBond) bonds (M.idx (t:=TBond) (fun e=>M.loose v0 e) bonds)))+(1:Int))).toNat)) (bD (((nth (t:=TTable) v0 (nth (t:=TBond) bonds (M.idx (t:=TBond) (fun e=>M.loose v0 e) bonds)).2.1).2.1.take (M.broken v0 (nth (t:=TBond) bonds (M.idx (t:=TBond) (fun e=>M.loose v0 e) bonds))).toNat++(nth (t:=TTable) v0 (nth (t:=TBond) bonds (M.idx (t:=TBond) (fun e=>M.loose v0 e) bonds)).2.1).2.1.drop (wrap64 ((M.broken v0 (nth (t:=TBond) bonds (M.idx (t:=TBond) (fun e=>M.loose v0 e) bonds)))+(1:Int))).toNat):LLV) (fun r1:LLV=>ag ((nth (t:=TBond) bonds (M.idx (t:=TBond) (fun e=>M.loose v0 e) bonds)).2.1<((v0.set (nth (t:=TBond) bonds (M.idx (t:=TBond) (fun e=>M.loose v0 e) bonds)).2.1.toNat ((nth (t:=TTable) v0 (nth (t:=TBond) bonds (M.idx (t:=TBond) (fun e=>M.loose v0 e) bonds)).2.1).1,([],()))).length:Int)) (bD (((v0.set (nth (t:=TBond) bonds (M.idx (t:=TBond) (fun e=>M.loose v0 e) bonds)).2.1.toNat ((nth (t:=TTable) v0 (nth (t:=TBond) bonds (M.idx (t:=TBond) (fun e=>M.loose v0 e) bonds)).2.1).1,([],()))).set (nth (t:=TBond) bonds (M.idx (t:=TBond) (fun e=>M.loose v0 e) bonds)).2.1.toNat ((nth (t:=TTable) (v0.set (nth (t:=TBond) bonds (M.idx (t:=TBond) (fun e=>M.loose v0 e) bonds)).2.1.toNat ((nth (t:=TTable) v0 (nth (t:=TBond) bonds (M.idx (t:=TBond) (fun e=>M.loose v0 e) bonds)).2.1).1,([],()))) (nth (t:=TBond) bonds (M.idx (t:=TBond) (fun e=>M.loose v0 e) bonds)).2.1).1,((aB r1 (some ((0:Int),(r1.length:Int)))),()))):LTb) (fun y1:LTb=>some (.inl y1))))))))))))))))
noncomputable def F.ju (tables:LTb) (bonds:(List TBond.D)) (c:TChange.D):Option (LTb×Bool):=
 bD ((cond (M.aV tables c) (M.bt tables c) [],M.aV tables c):LTb×Bool) (fun r2:LTb×Bool=>cond ((!r2.2)==false) (cond ((decide ((4:Int)<(bonds.length:Int)))==false) (cond (!(M.aA tables&&List.all bonds (M.aN tables))) (some ([],false)) (Option.bind (cC (F.dA tables bonds c) r2.1) (fun e0:LTb=>ag (Sm (Ty.sl TTable) e0) (ag (∀e∈bonds,(M.aA e0&&M.aN e0 e)=true) (cond (!(!List.any bonds (fun e=>decide (0<=M.broken e0 e)))) (some ([],false)) (some (e0,true))))))) (some ([],false))) (some ([],false)))
noncomputable def F.nK (x:TChange.D) (y:TChange.D):Option Bool:=
 cond (!decide (x.1=y.1)) (some false) (ag (x.2.1=y.2.1) (cond (!true) (some false) (cond (!(Ty.beq Ty.bool x.2.2.1 y.2.2.1)) (some false) (some true))))
noncomputable def F.eR (aTables:LTb) (aBonds:(List TBond.D)) (aC:TChange.D):Option Bool:=
 ag (0<=(1048576:Int)) (ag ((1048576:Int)<=1048576) (cond (decide ((M.szS M.bH aTables (1048576:Int))<(0:Int))) (some true) (ag (0<=(M.szS M.bH aTables (1048576:Int))) (ag ((M.szS M.bH aTables (1048576:Int))<=1048576) (cond (decide ((M.szS M.dj aBonds (M.szS M.bH aTables (1048576:Int)))<(0:Int))) (some true) (ag (0<=(M.szS M.dj aBonds (M.szS M.bH aTables (1048576:Int)))) (ag ((M.szS M.dj aBonds (M.szS M.bH aTables (1048576:Int)))<=1048576) (cond (decide ((M.ir aC (M.szS M.dj aBonds (M.szS M.bH aTables (1048576:Int))))<(0:Int))) (some true) (ag (Sm (Ty.sl TTable) aTables) (bD (aTables:LTb) (fun r1:LTb=>ag (Sm (Ty.sl TBond) aBonds) (bD (aBonds:(List TBond.D)) (fun r2:(List TBond.D)=>ag (Sm (Ty.sl aa) aC.2.1) (bD (aC.2.1:LV) (fun r3:LV=>ag (Sm (Ty.sl TTable) r1) (ag (Sm (Ty.sl TBond) r2) (ag (Sm TChange (aC.1,(r3,aC.2.2))) (bD ((M.bR r1 r2 (aC.1,(r3,aC.2.2))):LTb×Bool) (fun r4:LTb×Bool=>bD (aTables:LTb) (fun r5:LTb=>bD (aBonds:(List TBond.D)) (fun r6:(List TBond.D)=>bD (aC.2.1:LV) (fun r7:LV=>ag (Sm (Ty.sl TTable) r5) (ag (Sm (Ty.sl TBond) r6) (ag (Sm TChange (aC.1,(r7,aC.2.2))) (bD ((M.bR r5 r6 (aC.1,(r7,aC.2.2))):LTb×Bool) (fun r8:LTb×Bool=>ag (Sm (Ty.sl TTable) r8.1) (ag (Sm (Ty.sl TTable) r4.1) (ag (r8.1=r4.1) (cond ((!true)==false) (cond (!(Ty.beq Ty.bool r8.2 r4.2)) (some false) (bD (aTables:LTb) (fun r9:LTb=>ag (Sm (Ty.sl TTable) r9) (ag (r5=r9) (bD (aBonds:(List TBond.D)) (fun r10:(List TBond.D)=>ag (Sm (Ty.sl TBond) r10) (ag (r6=r10) (bD (aC.2.1:LV) (fun r11:LV=>ag (Sm TChange (aC.1,(r11,aC.2.2))) (ag ((aC.1,(r7,aC.2.2))=(aC.1,(r11,aC.2.2))) (ag (Ln (Ty.sl TTable) r5) (ag (0<=(1:Int)) (ag ((1:Int)+(M.count (Ty.sl TTable) r5:Int)<=M.big) (bD ((M.mark (Ty.sl TTable) r5 (1:Int),(1:Int)+(M.count (Ty.sl TTable) r5:Int)):LTb×Int) (fun r12:LTb×Int=>ag (Ln (Ty.sl TBond) r6) (ag (0<=r12.2) (ag (r12.2+(M.count (Ty.sl TBond) r6:Int)<=M.big) (bD ((M.mark (Ty.sl TBond) r6 r12.2,r12.2+(M.count (Ty.sl TBond) r6:Int)):(List TBond.D)×Int) (fun r13:(List TBond.D)×Int=>ag (Ln (Ty.sl aa) r7) (ag (0<=r13.2) (ag (r13.2+(M.count (Ty.sl aa) r7:Int)<=M.big) (bD ((M.mark (Ty.sl aa) r7 r13.2,r13.2+(M.count (Ty.sl aa) r7:Int)):LV×Int) (fun r14:LV×Int=>cond ((decide (r14.2<(0:Int)))==false) (ag (Ln (Ty.sl TTable) r8.1) (ag ((1:Int)+(M.count (Ty.sl TTable) r8.1:Int)<=M.big) (bD ((M.mark (Ty.sl TTable) r8.1 (1:Int),(1:Int)+(M.count (Ty.sl TTable) r8.1:Int)):LTb×Int) (fun r15:LTb×Int=>ag (Ln (Ty.sl TTable) r15.1) (ag ((1:Int)+(M.count (Ty.sl TTable) r15.1:Int)<=M.big) (ag (M.mark (Ty.sl TTable) r15.1 (1:Int)=r15.1) (cond (decide (((1:Int)+(M.count (Ty.sl TTable) r15.1:Int))<(0:Int))) (some false) (cond (!decide (((1:Int)+(M.count (Ty.sl TTable) r15.1:Int))=r15.2)) (some false) (bD (aTables:LTb) (fun r16:LTb=>bD (aBonds:(List TBond.D)) (fun r17:(List TBond.D)=>bD (aC.2.1:LV) (fun r18:LV=>ag (Sm (Ty.sl TTable) r16) (ag (Sm (Ty.sl TBond) r17) (ag (Sm TChange (aC.1,(r18,aC.2.2))) (bD ((M.bR r16 r17 (aC.1,(r18,aC.2.2))):LTb×Bool) (fun r19:LTb×Bool=>ag (Sm (Ty.sl TTable) r19.1) (ag (r19.1=r4.1) (cond (!(Ty.beq Ty.bool r19.2 r4.2)) (some false) (some true))))))))))))))))))) (some false)))))))))))))))))))))))) (some false))))))))))))))))))))))))))))))
end Go.AE
