/- What the functions compute, read off the code. -/
import Derived.Test.YtgfopdekfopmcaaGreatAeMN
import Derived.Test.YtgfopdekfopmcaaGreatAeMD
import Derived.Test.YtgfopdekfopmcaaGreatAeSN
namespace Go.AE
open Go Go.RowKit
set_option linter.unusedVariables false
noncomputable def F.jI (b:(List Int)) (p:Int) (n:Int):Option (Int×Int):=
 cond ((decide (n<(1:Int)))==false) (cond (decide ((b.length:Int)=(0:Int))) (some ((0:Int),wrap64 (p+(1:Int)))) (cond (decide (wrap64 (wrap64 (p+(1:Int))-(1:Int))<(b.length:Int))) (ah (0<=wrap64 (wrap64 (p+(1:Int))-(1:Int))) (ah (wrap64 (wrap64 (p+(1:Int))-(1:Int))<(b.length:Int)) (ah (n≠0) (some (((wrap64 (nth (t:=(Ty.int .u8)) b (wrap64 (wrap64 (p+(1:Int))-(1:Int))))).tmod n),wrap64 (p+(1:Int))))))) (ah ((b.length:Int)≠0) (ah (0<=((wrap64 (wrap64 (p+(1:Int))-(1:Int))).tmod (b.length:Int))) (ah (((wrap64 (wrap64 (p+(1:Int))-(1:Int))).tmod (b.length:Int))<(b.length:Int)) (ah (0<=((wrap64 (wrap64 ((wrap64 (wrap64 (p+(1:Int))-(1:Int))) * (7:Int))+(3:Int))).tmod (b.length:Int))) (ah (((wrap64 (wrap64 ((wrap64 (wrap64 (p+(1:Int))-(1:Int))) * (7:Int))+(3:Int))).tmod (b.length:Int))<(b.length:Int)) (ah (n≠0) (some (((iZ .xor .i64 (wrap64 (wrap64 (wrap64 (wrap64 ((wrap64 (nth (t:=(Ty.int .u8)) b ((wrap64 (wrap64 (p+(1:Int))-(1:Int))).tmod (b.length:Int)))) * (131:Int))+wrap64 ((wrap64 (nth (t:=(Ty.int .u8)) b ((wrap64 (wrap64 ((wrap64 (wrap64 (p+(1:Int))-(1:Int))) * (7:Int))+(3:Int))).tmod (b.length:Int)))) * (1117:Int)))+wrap64 ((wrap64 (wrap64 (p+(1:Int))-(1:Int))) * (29:Int)))+wrap64 ((wrap64 ((wrap64 (wrap64 (p+(1:Int))-(1:Int))).tdiv (b.length:Int))) * (53:Int)))) (wrap64 ((wrap64 (wrap64 (wrap64 (wrap64 ((wrap64 (nth (t:=(Ty.int .u8)) b ((wrap64 (wrap64 (p+(1:Int))-(1:Int))).tmod (b.length:Int)))) * (131:Int))+wrap64 ((wrap64 (nth (t:=(Ty.int .u8)) b ((wrap64 (wrap64 ((wrap64 (wrap64 (p+(1:Int))-(1:Int))) * (7:Int))+(3:Int))).tmod (b.length:Int)))) * (1117:Int)))+wrap64 ((wrap64 (wrap64 (p+(1:Int))-(1:Int))) * (29:Int)))+wrap64 ((wrap64 ((wrap64 (wrap64 (p+(1:Int))-(1:Int))).tdiv (b.length:Int))) * (53:Int)))).tdiv (64:Int)))).tmod n),wrap64 (p+(1:Int)))))))))))) (some ((0:Int),wrap64 (p+(1:Int))))
noncomputable def M.pick (b:(List Int)) (p:Int) (n:Int):Int×Int:=(F.jI b p n).getD (0,0)
noncomputable def F.lJ (b:(List Int)) (p:Int) (n:Int):Option (Bool×Int):=
 cond ((decide ((0:Int)<n))==true) (ah (p<=1000000000000000) (aY ((M.pick b p n):Int×Int) (fun r1:Int×Int=>some ((decide (r1.1=wrap64 (n-(1:Int)))),r1.2)))) (some (false,p))
noncomputable def M.odd (b:(List Int)) (p:Int) (n:Int):Bool×Int:=(F.lJ b p n).getD (false,0)
noncomputable def F.dD (b:(List Int)) (p:Int) (n:Int)   (v0:Int×Int×LC):Option (Sum (Int×Int×LC) (Int×LC)):=
 cond (decide ((0:Int)<v0.1)) (ah (M.ak b) (ah (0<=v0.2.1) (ah (v0.2.1<=1000000000000000) (aY ((M.pick b v0.2.1 (4:Int)):Int×Int) (fun r1:Int×Int=>ah (0<=r1.1) (ah (r1.1<([(1:Int),(1:Int),(2:Int),(3:Int)].length:Int)) (ah (0<=r1.2) (ah (r1.2<=1000000000000000) (aY ((M.pick b r1.2 (3:Int)):Int×Int) (fun r2:Int×Int=>ah ((v0.2.2.length+[((nth (t:=(Ty.int .i64)) [(1:Int),(1:Int),(2:Int),(3:Int)] r1.1),((decide ((0:Int)<r2.1)),()))].length) * 16<=lim) (some (.inl (wrap64 (v0.1-(1:Int)),r2.2,(v0.2.2++[((nth (t:=(Ty.int .i64)) [(1:Int),(1:Int),(2:Int),(3:Int)] r1.1),((decide ((0:Int)<r2.1)),()))])))))))))))))) (some (.inr (v0.2.1,v0.2.2)))
noncomputable def F.dL (b:(List Int)) (p:Int) (n:Int):Option (LC×Int):=
 ah (p<=1000000000000000) (aY ((M.pick b p (3:Int)):Int×Int) (fun r3:Int×Int=>Option.bind (bM (F.dD b p n) (wrap64 ((1:Int)+r3.1),r3.2,[])) (fun e0:Int×LC=>ah (0<=e0.1) (ah (e0.1<=999000000000000) (aY ((M.odd b e0.1 n):Bool×Int) (fun r4:Bool×Int=>cond r4.1 (ah (0<=r4.2) (ah (r4.2<=1000000000000000) (aY ((M.pick b r4.2 (6:Int)):Int×Int) (fun r5:Int×Int=>ah ((e0.2.length+[(wrap64 (r5.1-(1:Int)),(false,())),((1:Int),(false,())),((1:Int),(false,()))].length) * 16<=lim) (some ((e0.2++[(wrap64 (r5.1-(1:Int)),(false,())),((1:Int),(false,())),((1:Int),(false,()))]),r5.2)))))) (some (e0.2,r4.2))))))))
noncomputable def M.dA (b:(List Int)) (p:Int) (n:Int):LC×Int:=(F.dL b p n).getD ([],0)
noncomputable def F.rq (row:LV):Option LV:=
 some ([]++row)
noncomputable def F.fQ (b:(List Int)) (p:Int) (c:ai.D):Option (ag.D×Int):=
 cond (c.2.1==true) (ah (p<=1000000000000000) (aY ((M.pick b p (5:Int)):Int×Int) (fun r1:Int×Int=>cond (decide (r1.1=(0:Int))) (some (((0:Int),((0:Int),((⟨#[]⟩:ByteArray),()))),r1.2)) (cond (decide (c.1=(1:Int))) (ah (0<=r1.2) (ah (r1.2<=1000000000000000) (aY ((M.pick b r1.2 (4:Int)):Int×Int) (fun r2:Int×Int=>some (((1:Int),(r2.1,((⟨#[]⟩:ByteArray),()))),r2.2))))) (cond (decide (c.1=(2:Int))) (ah (0<=r1.2) (ah (r1.2<=1000000000000000) (aY ((M.pick b r1.2 (4:Int)):Int×Int) (fun r3:Int×Int=>ah (0<=r3.1) (ah (r3.1<([(⟨#[]⟩:ByteArray),(⟨#[97]⟩:ByteArray),(⟨#[98]⟩:ByteArray),(⟨#[97,98]⟩:ByteArray)].length:Int)) (some (((2:Int),((0:Int),((nth (t:=Ty.str) [(⟨#[]⟩:ByteArray),(⟨#[97]⟩:ByteArray),(⟨#[98]⟩:ByteArray),(⟨#[97,98]⟩:ByteArray)] r3.1),()))),r3.2))))))) (ah (0<=r1.2) (ah (r1.2<=1000000000000000) (aY ((M.pick b r1.2 (2:Int)):Int×Int) (fun r4:Int×Int=>some (((3:Int),(r4.1,((⟨#[]⟩:ByteArray),()))),r4.2)))))))))) (cond (decide (c.1=(1:Int))) (ah (p<=1000000000000000) (aY ((M.pick b p (4:Int)):Int×Int) (fun r2:Int×Int=>some (((1:Int),(r2.1,((⟨#[]⟩:ByteArray),()))),r2.2)))) (cond (decide (c.1=(2:Int))) (ah (p<=1000000000000000) (aY ((M.pick b p (4:Int)):Int×Int) (fun r3:Int×Int=>ah (0<=r3.1) (ah (r3.1<([(⟨#[]⟩:ByteArray),(⟨#[97]⟩:ByteArray),(⟨#[98]⟩:ByteArray),(⟨#[97,98]⟩:ByteArray)].length:Int)) (some (((2:Int),((0:Int),((nth (t:=Ty.str) [(⟨#[]⟩:ByteArray),(⟨#[97]⟩:ByteArray),(⟨#[98]⟩:ByteArray),(⟨#[97,98]⟩:ByteArray)] r3.1),()))),r3.2)))))) (ah (p<=1000000000000000) (aY ((M.pick b p (2:Int)):Int×Int) (fun r4:Int×Int=>some (((3:Int),(r4.1,((⟨#[]⟩:ByteArray),()))),r4.2))))))
noncomputable def M.je (b:(List Int)) (p:Int) (c:ai.D):ag.D×Int:=(F.fQ b p c).getD (M.zeroV,0)
noncomputable def F.cH (b:(List Int)) (p:Int) (n:Int)   (v1:Int×Int×ByteArray):Option (Sum (Int×Int×ByteArray) (Int×ByteArray)):=
 cond (decide ((0:Int)<v1.1)) (ah (M.ak b) (ah (0<=v1.2.1) (ah (v1.2.1<=1000000000000000) (aY ((M.pick b v1.2.1 (3:Int)):Int×Int) (fun r1:Int×Int=>ah (v1.2.2.size+(strOf [((wrap64 ((97:Int)+r1.1)) % 256)]).size<=9223372036854775807) (some (.inl (wrap64 (v1.1-(1:Int)),r1.2,(v1.2.2++(strOf [((wrap64 ((97:Int)+r1.1)) % 256)])))))))))) (some (.inr (v1.2.1,v1.2.2)))
noncomputable def F.eU (b:(List Int)) (p:Int) (n:Int) (c0_0:Int) (c0_1:Int)  (v0:Unit):Option (Sum Unit (Int×Int×Int×ByteArray)):=
 cond (decide (c0_0=(0:Int))) (some (.inr (c0_1,(0:Int),(0:Int),(⟨#[]⟩:ByteArray)))) (cond (decide (c0_0=(1:Int))) (ah (M.ak b) (ah (0<=c0_1) (ah (c0_1<=1000000000000000) (aY ((M.pick b c0_1 (7:Int)):Int×Int) (fun r2:Int×Int=>ah (0<=r2.2) (ah (r2.2<=1000000000000000) (aY ((M.pick b r2.2 (8:Int)):Int×Int) (fun r3:Int×Int=>cond (decide (r3.1=(0:Int))) (ah (0<=r3.2) (ah (r3.2<=1000000000000000) (aY ((M.pick b r3.2 (5:Int)):Int×Int) (fun r4:Int×Int=>ah (0<=r4.1) (ah (r4.1<([(9999:Int),(-9999:Int),(255:Int),(256:Int),(-256:Int)].length:Int)) (some (.inr (r4.2,(1:Int),(nth (t:=(Ty.int .i64)) [(9999:Int),(-9999:Int),(255:Int),(256:Int),(-256:Int)] r4.1),(⟨#[]⟩:ByteArray))))))))) (some (.inr (r3.2,(1:Int),wrap64 (r2.1-(3:Int)),(⟨#[]⟩:ByteArray)))))))))))) (cond (decide (c0_0=(2:Int))) (ah (M.ak b) (ah (0<=c0_1) (ah (c0_1<=1000000000000000) (aY ((M.pick b c0_1 (7:Int)):Int×Int) (fun r2:Int×Int=>ah (0<=r2.2) (ah (r2.2<=1000000000000000) (aY ((M.pick b r2.2 (8:Int)):Int×Int) (fun r3:Int×Int=>cond (decide (r3.1=(0:Int))) (ah (0<=r3.2) (ah (r3.2<=1000000000000000) (aY ((M.pick b r3.2 (5:Int)):Int×Int) (fun r4:Int×Int=>ah (0<=r4.1) (ah (r4.1<([(9999:Int),(-9999:Int),(255:Int),(256:Int),(-256:Int)].length:Int)) (some (.inr (r4.2,(1:Int),(nth (t:=(Ty.int .i64)) [(9999:Int),(-9999:Int),(255:Int),(256:Int),(-256:Int)] r4.1),(⟨#[]⟩:ByteArray))))))))) (some (.inr (r3.2,(1:Int),wrap64 (r2.1-(3:Int)),(⟨#[]⟩:ByteArray)))))))))))) (cond (decide (c0_0=(3:Int))) (ah (M.ak b) (ah (0<=c0_1) (ah (c0_1<=1000000000000000) (aY ((M.pick b c0_1 (7:Int)):Int×Int) (fun r2:Int×Int=>ah (0<=r2.2) (ah (r2.2<=1000000000000000) (aY ((M.pick b r2.2 (8:Int)):Int×Int) (fun r3:Int×Int=>cond (decide (r3.1=(0:Int))) (ah (0<=r3.2) (ah (r3.2<=1000000000000000) (aY ((M.pick b r3.2 (5:Int)):Int×Int) (fun r4:Int×Int=>ah (0<=r4.1) (ah (r4.1<([(9999:Int),(-9999:Int),(255:Int),(256:Int),(-256:Int)].length:Int)) (some (.inr (r4.2,(1:Int),(nth (t:=(Ty.int .i64)) [(9999:Int),(-9999:Int),(255:Int),(256:Int),(-256:Int)] r4.1),(⟨#[]⟩:ByteArray))))))))) (some (.inr (r3.2,(1:Int),wrap64 (r2.1-(3:Int)),(⟨#[]⟩:ByteArray)))))))))))) (cond (decide (c0_0=(4:Int))) (ah (M.ak b) (ah (0<=c0_1) (ah (c0_1<=1000000000000000) (aY ((M.pick b c0_1 (4:Int)):Int×Int) (fun r5:Int×Int=>Option.bind (bM (F.cH b p n) (r5.1,r5.2,(⟨#[]⟩:ByteArray))) (fun e1:Int×ByteArray=>some (.inr (e1.1,(2:Int),(0:Int),e1.2)))))))) (cond (decide (c0_0=(5:Int))) (ah (M.ak b) (ah (0<=c0_1) (ah (c0_1<=1000000000000000) (aY ((M.pick b c0_1 (4:Int)):Int×Int) (fun r5:Int×Int=>Option.bind (bM (F.cH b p n) (r5.1,r5.2,(⟨#[]⟩:ByteArray))) (fun e1:Int×ByteArray=>some (.inr (e1.1,(2:Int),(0:Int),e1.2)))))))) (ah (M.ak b) (ah (0<=c0_1) (ah (c0_1<=1000000000000000) (aY ((M.pick b c0_1 (2:Int)):Int×Int) (fun r6:Int×Int=>some (.inr (r6.2,(3:Int),r6.1,(⟨#[]⟩:ByteArray)))))))))))))
noncomputable def F.fc (b:(List Int)) (p:Int) (n:Int):Option (ag.D×Int):=
 ah (p<=1000000000000000) (aY ((M.pick b p (7:Int)):Int×Int) (fun r7:Int×Int=>Option.bind (bM (F.eU b p n r7.1 r7.2) ()) (fun e0:Int×Int×Int×ByteArray=>ah (0<=e0.1) (ah (e0.1<=999000000000000) (aY ((M.odd b e0.1 n):Bool×Int) (fun r8:Bool×Int=>cond r8.1 (ah (0<=r8.2) (ah (r8.2<=1000000000000000) (aY ((M.pick b r8.2 (4:Int)):Int×Int) (fun r9:Int×Int=>cond (decide (r9.1=(0:Int))) (some ((e0.2.1,((10000:Int),(e0.2.2.2,()))),r9.2)) (cond (decide (r9.1=(1:Int))) (ah (e0.2.2.2.size+(⟨#[97,98,99,100,101,102,103]⟩:ByteArray).size<=9223372036854775807) (some ((e0.2.1,(e0.2.2.1,((e0.2.2.2++(⟨#[97,98,99,100,101,102,103]⟩:ByteArray)),()))),r9.2))) (cond (decide (r9.1=(2:Int))) (ah (0<=r9.2) (ah (r9.2<=1000000000000000) (aY ((M.pick b r9.2 (7:Int)):Int×Int) (fun r10:Int×Int=>some ((wrap64 (r10.1-(1:Int)),(e0.2.2.1,(e0.2.2.2,()))),r10.2))))) (ah (e0.2.2.2.size+(⟨#[65]⟩:ByteArray).size<=9223372036854775807) (some ((e0.2.1,(e0.2.2.1,((e0.2.2.2++(⟨#[65]⟩:ByteArray)),()))),r9.2))))))))) (some ((e0.2.1,(e0.2.2.1,(e0.2.2.2,()))),r8.2))))))))
noncomputable def M.cR (b:(List Int)) (p:Int) (n:Int):ag.D×Int:=(F.fc b p n).getD (M.zeroV,0)
noncomputable def F.fI (b:(List Int)) (p:Int) (columns:LC) (n:Int)  (z0:ai.D) (v0:Int×LV):Option (Sum (Int×LV) Unit):=
 ah (M.ak b) (ah (0<=v0.1) (ah (v0.1<=998000000000000) (aY ((M.je b v0.1 z0):ag.D×Int) (fun r1:ag.D×Int=>ah ((v0.2.length+[r1.1].length) * 32<=lim) (some (.inl (r1.2,(v0.2++[r1.1]))))))))
noncomputable def F.gy (b:(List Int)) (p:Int) (columns:LC) (n:Int):Option (LV×Int):=
 bG (aU (F.fI b p columns n) columns (p,[])) (fun v0:Int×LV=>ah (0<=v0.1) (ah (v0.1<=999000000000000) (aY ((M.odd b v0.1 n):Bool×Int) (fun r2:Bool×Int=>cond r2.1 (ah (0<=r2.2) (ah (r2.2<=1000000000000000) (aY ((M.pick b r2.2 (3:Int)):Int×Int) (fun r3:Int×Int=>cond (decide (r3.1=(0:Int))) (ah ((v0.2.length+([((0:Int),((0:Int),((⟨#[]⟩:ByteArray),())))]:List ag.D).length) * 32<=lim) (some ((v0.2++[((0:Int),((0:Int),((⟨#[]⟩:ByteArray),())))]),r3.2))) (cond (decide (r3.1=(1:Int))) (cond (decide ((0:Int)<(v0.2.length:Int))) (ah (0<=r3.2) (ah (r3.2<=1000000000000000) (aY ((M.pick b r3.2 (v0.2.length:Int)):Int×Int) (fun r4:Int×Int=>ah (0<=r4.2) (ah (r4.2<=998000000000000) (aY ((M.cR b r4.2 (3:Int)):ag.D×Int) (fun r5:ag.D×Int=>ah (0<=r4.1) (ah (r4.1<(v0.2.length:Int)) (some ((v0.2.set r4.1.toNat r5.1),r5.2)))))))))) (some (v0.2,r3.2))) (ah (0<=r3.2) (ah (r3.2<=998000000000000) (aY ((M.cR b r3.2 (0:Int)):ag.D×Int) (fun r6:ag.D×Int=>ah (0<=r6.2) (ah (r6.2<=998000000000000) (aY ((M.cR b r6.2 (0:Int)):ag.D×Int) (fun r7:ag.D×Int=>ah (0<=r7.2) (ah (r7.2<=998000000000000) (aY ((M.cR b r7.2 (0:Int)):ag.D×Int) (fun r8:ag.D×Int=>ah ((v0.2.length+[r6.1,r7.1,r8.1].length) * 32<=lim) (some ((v0.2++[r6.1,r7.1,r8.1]),r8.2))))))))))))))))) (some (v0.2,r2.2)))))) (fun(_:Unit)=>none)
noncomputable def M.gL (b:(List Int)) (p:Int) (columns:LC) (n:Int):LV×Int:=(F.gy b p columns n).getD ([],0)
noncomputable def F.fX (b:(List Int)) (p:Int) (c:LC) (n:Int)   (v0:Int×Int×LLV):Option (Sum (Int×Int×LLV) (Int×LLV)):=
 cond (decide ((0:Int)<v0.1)) (cond ((decide ((0:Int)<(v0.2.2.length:Int)))==true) (ah (M.ak b) (ah (0<=v0.2.1) (ah (v0.2.1<=1000000000000000) (aY ((M.pick b v0.2.1 (3:Int)):Int×Int) (fun r1:Int×Int=>cond (decide (r1.1=(0:Int))) (ah (0<=r1.2) (ah (r1.2<=1000000000000000) (aY ((M.pick b r1.2 (v0.2.2.length:Int)):Int×Int) (fun r2:Int×Int=>ah (0<=r2.1) (ah (r2.1<(v0.2.2.length:Int)) (ah (Sm (Ty.sl ag) (nth (t:=(Ty.sl ag)) v0.2.2 r2.1)) (aY ((nth (t:=(Ty.sl ag)) v0.2.2 r2.1):LV) (fun r3:LV=>ah ((v0.2.2.length+[r3].length) * 24<=lim) (some (.inl (wrap64 (v0.1-(1:Int)),r2.2,(v0.2.2++[r3])))))))))))) (ah (0<=r1.2) (ah (r1.2<=997000000000000) (aY ((M.gL b r1.2 c n):LV×Int) (fun r4:LV×Int=>ah ((v0.2.2.length+[r4.1].length) * 24<=lim) (some (.inl (wrap64 (v0.1-(1:Int)),r4.2,(v0.2.2++[r4.1]))))))))))))) (ah (M.ak b) (ah (0<=v0.2.1) (ah (v0.2.1<=997000000000000) (aY ((M.gL b v0.2.1 c n):LV×Int) (fun r4:LV×Int=>ah ((v0.2.2.length+[r4.1].length) * 24<=lim) (some (.inl (wrap64 (v0.1-(1:Int)),r4.2,(v0.2.2++[r4.1])))))))))) (some (.inr (v0.2.1,v0.2.2)))
noncomputable def F.gH (b:(List Int)) (p:Int) (c:LC) (n:Int):Option (LLV×Int):=
 ah (p<=1000000000000000) (aY ((M.pick b p (7:Int)):Int×Int) (fun r5:Int×Int=>Option.bind (bM (F.fX b p c n) (r5.1,r5.2,[])) (fun e0:Int×LLV=>some (e0.2,e0.1))))
noncomputable def M.jA (b:(List Int)) (p:Int) (c:LC) (n:Int):LLV×Int:=(F.gH b p c n).getD ([],0)
noncomputable def F.dS (b:(List Int)) (p:Int) (n:Int)   (v0:Int×Int×LTb):Option (Sum (Int×Int×LTb) (Int×LTb)):=
 cond (decide ((0:Int)<v0.1)) (ah (M.ak b) (ah (0<=v0.2.1) (ah (v0.2.1<=998000000000000) (aY ((M.dA b v0.2.1 (0:Int)):LC×Int) (fun r1:LC×Int=>ah (0<=r1.2) (ah (r1.2<=1000000000000000) (aY ((M.pick b r1.2 (2:Int)):Int×Int) (fun r2:Int×Int=>ah ((r1.1.length:Int)≠0) (ah ((0:Int)<=wrap64 ((1:Int)+(r2.1.tmod (r1.1.length:Int)))) (ah (wrap64 ((1:Int)+(r2.1.tmod (r1.1.length:Int)))<=(r1.1.length:Int)) (ah (Sm (Ty.sl ai) (ax r1.1 (some ((0:Int),wrap64 ((1:Int)+(r2.1.tmod (r1.1.length:Int))))))) (ah (0<=r2.2) (ah (r2.2<=996000000000000) (ah ((ax r1.1 (some ((0:Int),wrap64 ((1:Int)+(r2.1.tmod (r1.1.length:Int)))))).length<=6) (ah ((0:Int)=0) (aY ((M.jA b r2.2 (ax r1.1 (some ((0:Int),wrap64 ((1:Int)+(r2.1.tmod (r1.1.length:Int)))))) (0:Int)):LLV×Int) (fun r3:LLV×Int=>ah ((v0.2.2.length+[((ax r1.1 (some ((0:Int),wrap64 ((1:Int)+(r2.1.tmod (r1.1.length:Int)))))),(r3.1,()))].length) * 48<=lim) (some (.inl (wrap64 (v0.1-(1:Int)),r3.2,(v0.2.2++[((ax r1.1 (some ((0:Int),wrap64 ((1:Int)+(r2.1.tmod (r1.1.length:Int)))))),(r3.1,()))]))))))))))))))))))))) (some (.inr (v0.2.1,v0.2.2)))
noncomputable def F.eG (b:(List Int)) (p:Int) (n:Int):Option (LTb×Int):=
 ah (p<=1000000000000000) (aY ((M.pick b p (3:Int)):Int×Int) (fun r4:Int×Int=>Option.bind (bM (F.dS b p n) (wrap64 ((1:Int)+r4.1),r4.2,[])) (fun e0:Int×LTb=>ah (0<=e0.1) (ah (e0.1<=999000000000000) (aY ((M.odd b e0.1 n):Bool×Int) (fun r5:Bool×Int=>cond r5.1 (ah (0<=r5.2) (ah (r5.2<=1000000000000000) (aY ((M.pick b r5.2 (3:Int)):Int×Int) (fun r6:Int×Int=>cond (decide (r6.1=(0:Int))) (ah ((e0.2.length+([([],([],())),([],([],())),([],([],()))]:List aj.D).length) * 48<=lim) (some ((e0.2++[([],([],())),([],([],())),([],([],()))]),r6.2))) (cond (decide (r6.1=(1:Int))) (ah ((0:Int)<(e0.2.length:Int)) (ah (((nth (t:=aj) e0.2 (0:Int)).2.1.length+([[((9:Int),((0:Int),((⟨#[]⟩:ByteArray),())))]]:List (Ty.sl ag).D).length) * 24<=lim) (ah ((0:Int)<((e0.2.set (0:Int).toNat ((nth (t:=aj) e0.2 (0:Int)).1,([],()))).length:Int)) (aY (((e0.2.set (0:Int).toNat ((nth (t:=aj) e0.2 (0:Int)).1,([],()))).set (0:Int).toNat ((nth (t:=aj) (e0.2.set (0:Int).toNat ((nth (t:=aj) e0.2 (0:Int)).1,([],()))) (0:Int)).1,(((nth (t:=aj) e0.2 (0:Int)).2.1++[[((9:Int),((0:Int),((⟨#[]⟩:ByteArray),())))]]),()))):LTb) (fun y1:LTb=>some (y1,r6.2)))))) (ah ((0:Int)<(e0.2.length:Int)) (ah (((nth (t:=aj) e0.2 (0:Int)).1.length+[((1:Int),(false,()))].length) * 16<=lim) (ah ((0:Int)<((e0.2.set (0:Int).toNat ([],(nth (t:=aj) e0.2 (0:Int)).2)).length:Int)) (aY (((e0.2.set (0:Int).toNat ([],(nth (t:=aj) e0.2 (0:Int)).2)).set (0:Int).toNat (((nth (t:=aj) e0.2 (0:Int)).1++[((1:Int),(false,()))]),(nth (t:=aj) (e0.2.set (0:Int).toNat ([],(nth (t:=aj) e0.2 (0:Int)).2)) (0:Int)).2)):LTb) (fun y2:LTb=>some (y2,r6.2))))))))))) (some (e0.2,r5.2))))))))
noncomputable def M.cz (b:(List Int)) (p:Int) (n:Int):LTb×Int:=(F.eG b p n).getD ([],0)
noncomputable def F.cW (code:(List Int)):Option LTb:=
 cond (decide ((2000:Int)<(code.length:Int))) (ah ((0:Int)<=(2000:Int)) (ah ((2000:Int)<=(code.length:Int)) (ah (M.ak (ax code (some ((0:Int),(2000:Int))))) (ah (0<=(0:Int)) (ah ((0:Int)<=995000000000000) (aY ((M.cz (ax code (some ((0:Int),(2000:Int)))) (0:Int) (6:Int)):LTb×Int) (fun r1:LTb×Int=>some r1.1))))))) (ah (0<=(0:Int)) (ah ((0:Int)<=995000000000000) (aY ((M.cz code (0:Int) (6:Int)):LTb×Int) (fun r1:LTb×Int=>some r1.1))))
noncomputable def M.cT (code:(List Int)):LTb:=(F.cW code).getD []
noncomputable def F.ke (n:Int) (low:Int) (high:Int):Option Bool:=
 cond ((decide (low<=n))==true) (some (decide (n<=high))) (some false)
noncomputable def F.jO (c:ai.D):Option Bool:=
 some (!(M.inR c.1 (1:Int) (3:Int)))
noncomputable def F.bE (xs:LC)  (i0:Int) (v0:Unit):Option (Sum Unit Int):=
 cond (!M.cE (nth (t:=ai) xs i0)) (some (.inr i0)) (some (.inl ()))
noncomputable def F.eF (xs:LC):Option Int:=
 bG (aU (F.bE xs) (aN (0:Int) (xs.length:Int)) ()) (fun v0:Unit=>some (-1:Int)) (fun q0:Int=>some q0)
noncomputable def F.cw (xs:LC):Option Bool:=
 some (decide ((0:Int)<=(M.idx (t:=ai) (fun e=>!M.cE e) xs)))
noncomputable def F.iL (columns:LC):Option Bool:=
 cond ((decide ((columns.length:Int)<=(4:Int)))==true) (some (!(List.any columns (fun e=>!M.cE e)))) (some false)
noncomputable def F.fo (s:ByteArray)  (z0:Int) (v0:Unit):Option (Sum Unit Unit):=
 cond (!(M.inR (wrap64 z0) (97:Int) (122:Int))) (some (.inr ())) (some (.inl ()))
noncomputable def F.kD (s:ByteArray):Option Bool:=
 bG (aU (F.fo s) (aP s) ()) (fun v0:Unit=>some true) (fun q0:Unit=>some false)
noncomputable def F.jz (v:ag.D):Option Bool:=
 cond (decide (v.1=(0:Int))) (some (Ty.beq ag v ((0:Int),((0:Int),((⟨#[]⟩:ByteArray),()))))) (cond (decide (v.1=(1:Int))) (cond ((decide (v.2.2.1=(⟨#[]⟩:ByteArray)))==true) (some (M.inR v.2.1 (-9999:Int) (9999:Int))) (some false)) (cond (decide (v.1=(2:Int))) (cond ((decide (v.2.1=(0:Int)))==true) (cond ((decide ((v.2.2.1.size:Int)<=(6:Int)))==true) (some (M.lower (aP v.2.2.1))) (some false)) (some false)) (cond (decide (v.1=(3:Int))) (cond ((decide (v.2.2.1=(⟨#[]⟩:ByteArray)))==true) (some (M.inR v.2.1 (0:Int) (1:Int))) (some false)) (some false))))
noncomputable def F.nH (v:ag.D):Option Bool:=
 some (!(M.aK v))
noncomputable def F.bY (xs:LV)  (i0:Int) (v0:Unit):Option (Sum Unit Int):=
 cond (!M.aK (nth (t:=ag) xs i0)) (some (.inr i0)) (some (.inl ()))
noncomputable def F.fP (xs:LV):Option Int:=
 bG (aU (F.bY xs) (aN (0:Int) (xs.length:Int)) ()) (fun v0:Unit=>some (-1:Int)) (fun q0:Int=>some q0)
noncomputable def F.cO (xs:LV):Option Bool:=
 some (decide ((0:Int)<=(M.idx (t:=ag) (fun e=>!M.aK e) xs)))
noncomputable def F.nj (row:LV):Option Bool:=
 cond ((decide ((row.length:Int)<=(4:Int)))==true) (some (!(List.any row (fun e=>!M.aK e)))) (some false)
noncomputable def F.fm (columns:LC) (row:LV)  (i0:Int) (v0:Unit):Option (Sum Unit Unit):=
 ah (i0<(columns.length:Int)) (cond ((!decide ((nth (t:=ag) row i0).1=(nth (t:=ai) columns i0).1))==true) (cond ((!decide ((nth (t:=ag) row i0).1=(0:Int)))==false) (cond (!(nth (t:=ai) columns i0).2.1) (some (.inr ())) (some (.inl ()))) (some (.inr ()))) (some (.inl ())))
noncomputable def F.jX (columns:LC) (row:LV):Option Bool:=
 cond ((!(M.aW columns))==false) (cond ((!(M.jL row))==false) (cond (!decide ((row.length:Int)=(columns.length:Int))) (some false) (bG (aU (F.fm columns row) (aN (0:Int) (row.length:Int)) ()) (fun v0:Unit=>some true) (fun q0:Unit=>some false))) (some false)) (some false)
noncomputable def F.mB (r:LV) (columns:LC):Option Bool:=
 some (!(M.bD columns r))
noncomputable def F.bS (xs:LLV) (k0:LC)  (i0:Int) (v0:Unit):Option (Sum Unit Int):=
 cond (!M.bD k0 (nth (t:=(Ty.sl ag)) xs i0)) (some (.inr i0)) (some (.inl ()))
noncomputable def F.fG (xs:LLV) (k0:LC):Option Int:=
 bG (aU (F.bS xs k0) (aN (0:Int) (xs.length:Int)) ()) (fun v0:Unit=>some (-1:Int)) (fun q0:Int=>some q0)
noncomputable def F.cK (xs:LLV) (k0:LC):Option Bool:=
 some (decide ((0:Int)<=(M.idx (t:=(Ty.sl ag)) (fun e=>!M.bD k0 e) xs)))
noncomputable def F.lp (columns:LC) (rows:LLV):Option Bool:=
 cond ((M.aW columns)==true) (some (!(List.any rows (fun e=>!M.bD columns e)))) (some false)
noncomputable def F.gT (t:aj.D):Option Bool:=
 cond ((!(M.aW t.1))==false) (cond ((decide ((6:Int)<(t.2.1.length:Int)))==false) (some (!(M.fW t.1 t.2.1))) (some true)) (some true)
noncomputable def F.bJ (xs:LTb)  (i0:Int) (v0:Unit):Option (Sum Unit Int):=
 cond (!M.cM (nth (t:=aj) xs i0)) (some (.inr i0)) (some (.inl ()))
noncomputable def F.eW (xs:LTb):Option Int:=
 bG (aU (F.bJ xs) (aN (0:Int) (xs.length:Int)) ()) (fun v0:Unit=>some (-1:Int)) (fun q0:Int=>some q0)
noncomputable def F.cB (xs:LTb):Option Bool:=
 some (decide ((0:Int)<=(M.idx (t:=aj) (fun e=>!M.cM e) xs)))
noncomputable def F.jw (tables:LTb):Option Bool:=
 cond ((decide ((tables.length:Int)<=(3:Int)))==true) (some (!(List.any tables (fun e=>!M.cM e)))) (some false)
noncomputable def F.mK (xs:LC):Option LC:=
 cond (decide ((xs.length:Int)=(0:Int))) (some ([]:List ai.D)) (some (xs.take (xs.length:Int).toNat))
noncomputable def F.od (xs:LV):Option LV:=
 cond (decide ((xs.length:Int)=(0:Int))) (some ([]:List ag.D)) (some (xs.take (xs.length:Int).toNat))
noncomputable def F.eR (rows:LLV)  (z0:LV) (v0:LLV):Option (Sum LLV Unit):=
 aY (z0:LV) (fun r1:LV=>ah ((v0.length+[(ax r1 (some ((0:Int),(r1.length:Int))))].length) * 24<=lim) (some (.inl (v0++[(ax r1 (some ((0:Int),(r1.length:Int))))]))))
noncomputable def F.jr (rows:LLV):Option LLV:=
 bG (aU (F.eR rows) rows []) (fun v0:LLV=>some (v0.take (v0.length:Int).toNat)) (fun(_:Unit)=>none)
noncomputable def F.dF (tables:LTb)  (z0:aj.D) (v0:LTb):Option (Sum LTb Unit):=
 aY (z0.1:LC) (fun r1:LC=>aY (z0.2.1:LLV) (fun r2:LLV=>ah ((v0.length+[((ax r1 (some ((0:Int),(r1.length:Int)))),((ax r2 (some ((0:Int),(r2.length:Int)))),()))].length) * 48<=lim) (some (.inl (v0++[((ax r1 (some ((0:Int),(r1.length:Int)))),((ax r2 (some ((0:Int),(r2.length:Int)))),()))])))))
noncomputable def F.gP (tables:LTb):Option LTb:=
 bG (aU (F.dF tables) tables []) (fun v0:LTb=>some (v0.take (v0.length:Int).toNat)) (fun(_:Unit)=>none)
noncomputable def F.jB (tables:LTb):Option (aE.D):=
 cond (!(M.bt tables)) (some ([],([],([],())))) (aY (tables:LTb) (fun r1:LTb=>some ((ax r1 (some ((0:Int),(r1.length:Int)))),((List.replicate (tables.length:Int).toNat (0:Int)),([],())))))
noncomputable def F.fy (a:LV) (b:LV)  (i0:Int) (v0:Unit):Option (Sum Unit Unit):=
 ah (i0<(b.length:Int)) (cond (!(Ty.beq ag (nth (t:=ag) a i0) (nth (t:=ag) b i0))) (some (.inr ())) (some (.inl ())))
noncomputable def F.kq (a:LV) (b:LV):Option Bool:=
 cond (!decide ((a.length:Int)=(b.length:Int))) (some false) (bG (aU (F.fy a b) (aN (0:Int) (a.length:Int)) ()) (fun v0:Unit=>some true) (fun q0:Unit=>some false))
noncomputable def F.eM (a:LLV) (b:LLV)  (i0:Int) (v0:Unit):Option (Sum Unit Unit):=
 ah (i0<(b.length:Int)) (ah ((nth (t:=(Ty.sl ag)) a i0)=(nth (t:=(Ty.sl ag)) b i0)) (cond (!true) (some (.inr ())) (some (.inl ()))))
noncomputable def F.js (a:LLV) (b:LLV):Option Bool:=
 cond (!decide ((a.length:Int)=(b.length:Int))) (some false) (bG (aU (F.eM a b) (aN (0:Int) (a.length:Int)) ()) (fun v0:Unit=>some true) (fun q0:Unit=>some false))
noncomputable def F.bN (a:LTb) (b:LTb) (c2_0:Int)  (v2:Int):Option (Sum Int (Sum Unit Unit)):=
 ah (0<=c2_0) (ah (c2_0<(a.length:Int)) (cond (decide (v2<((nth (t:=aj) a c2_0).1.length:Int))) (ah (0<=v2) (ah (v2<((nth (t:=aj) a c2_0).1.length:Int)) (ah (c2_0<(b.length:Int)) (ah (v2<((nth (t:=aj) b c2_0).1.length:Int)) (cond (!(Ty.beq ai (nth (t:=ai) (nth (t:=aj) a c2_0).1 v2) (nth (t:=ai) (nth (t:=aj) b c2_0).1 v2))) (some (.inr (.inr ()))) (some (.inl (wrap64 (v2+(1:Int)))))))))) (some (.inr (.inl ())))))
noncomputable def F.dH (a:LTb) (b:LTb)  (i0:Int) (v0:Unit):Option (Sum Unit Unit):=
 ah (i0<(b.length:Int)) (cond ((!decide (((nth (t:=aj) a i0).1.length:Int)=((nth (t:=aj) b i0).1.length:Int)))==false) (ah ((nth (t:=aj) a i0).2.1=(nth (t:=aj) b i0).2.1) (cond (!true) (some (.inr ())) (bG (bM (F.bN a b i0) (0:Int)) (fun e2:Unit=>some (.inl ())) (fun q2:Unit=>some (.inr ()))))) (some (.inr ())))
noncomputable def F.gX (a:LTb) (b:LTb):Option Bool:=
 cond (!decide ((a.length:Int)=(b.length:Int))) (some false) (bG (aU (F.dH a b) (aN (0:Int) (a.length:Int)) ()) (fun v0:Unit=>some true) (fun q0:Unit=>some false))
noncomputable def F.eV (a:(List Int)) (b:(List Int))  (i0:Int) (v0:Unit):Option (Sum Unit Unit):=
 ah (i0<(b.length:Int)) (cond (!decide ((nth (t:=(Ty.int .i64)) a i0)=(nth (t:=(Ty.int .i64)) b i0))) (some (.inr ())) (some (.inl ())))
noncomputable def F.jx (a:(List Int)) (b:(List Int)):Option Bool:=
 cond (!decide ((a.length:Int)=(b.length:Int))) (some false) (bG (aU (F.eV a b) (aN (0:Int) (a.length:Int)) ()) (fun v0:Unit=>some true) (fun q0:Unit=>some false))
noncomputable def F.dQ (a:LPt) (b:LPt)  (i0:Int) (v0:Unit):Option (Sum Unit Unit):=
 ah (i0<(b.length:Int)) (cond (!(Ty.beq dy (nth (t:=dy) a i0) (nth (t:=dy) b i0))) (some (.inr ())) (some (.inl ())))
noncomputable def F.iF (a:LPt) (b:LPt):Option Bool:=
 cond (!decide ((a.length:Int)=(b.length:Int))) (some false) (bG (aU (F.dQ a b) (aN (0:Int) (a.length:Int)) ()) (fun v0:Unit=>some true) (fun q0:Unit=>some false))
noncomputable def F.dV (a:LS) (b:LS)  (i0:Int) (v0:Unit):Option (Sum Unit Unit):=
 ah (i0<(b.length:Int)) (cond ((!decide ((nth (t:=de) a i0).1=(nth (t:=de) b i0).1))==false) (cond ((!decide ((nth (t:=de) a i0).2.1=(nth (t:=de) b i0).2.1))==false) (cond ((!decide ((nth (t:=de) a i0).2.2.1=(nth (t:=de) b i0).2.2.1))==false) (cond ((!decide ((nth (t:=de) a i0).2.2.2.1=(nth (t:=de) b i0).2.2.2.1))==false) (ah ((nth (t:=de) a i0).2.2.2.2.1=(nth (t:=de) b i0).2.2.2.2.1) (cond ((!true)==false) (ah ((nth (t:=de) a i0).2.2.2.2.2.1=(nth (t:=de) b i0).2.2.2.2.2.1) (some (.inl ()))) (some (.inr ())))) (some (.inr ()))) (some (.inr ()))) (some (.inr ()))) (some (.inr ())))
noncomputable def F.iI (a:LS) (b:LS):Option Bool:=
 cond (!decide ((a.length:Int)=(b.length:Int))) (some false) (bG (aU (F.dV a b) (aN (0:Int) (a.length:Int)) ()) (fun v0:Unit=>some true) (fun q0:Unit=>some false))
noncomputable def F.fJ (a:aE.D) (b:aE.D)  (i0:Int) (v0:Unit):Option (Sum Unit Unit):=
 ah (i0<(b.2.2.1.length:Int)) (ah ((nth (t:=cn) a.2.2.1 i0).1=(nth (t:=cn) b.2.2.1 i0).1) (cond ((!true)==false) (ah ((nth (t:=cn) a.2.2.1 i0).2.1=(nth (t:=cn) b.2.2.1 i0).2.1) (ah ((nth (t:=cn) a.2.2.1 i0).2.2.1=(nth (t:=cn) b.2.2.1 i0).2.2.1) (some (.inl ())))) (some (.inr ()))))
noncomputable def F.iK (a:aE.D) (b:aE.D):Option Bool:=
 ah (a.1=b.1) (cond ((!true)==false) (ah (a.2.1=b.2.1) (cond (!decide ((a.2.2.1.length:Int)=(b.2.2.1.length:Int))) (some false) (bG (aU (F.fJ a b) (aN (0:Int) (a.2.2.1.length:Int)) ()) (fun v0:Unit=>some true) (fun q0:Unit=>some false)))) (some false))
noncomputable def F.oV (n:Int) (low:Int) (high:Int):Option Bool:=
 cond ((decide (low<=n))==true) (some (decide (n<=high))) (some false)
noncomputable def F.dR (columns:LC)  (z0:ai.D) (v0:Unit):Option (Sum Unit Unit):=
 cond (!(M.inR z0.1 (1:Int) (3:Int))) (some (.inr ())) (some (.inl ()))
noncomputable def F.iN (columns:LC):Option Bool:=
 bG (aU (F.dR columns) columns ()) (fun v0:Unit=>some (decide ((columns.length:Int)<=(4:Int)))) (fun q0:Unit=>some false)
noncomputable def F.fR (s:ByteArray)  (i0:Int) (v0:Unit):Option (Sum Unit Unit):=
 cond ((decide (((s.get! i0.toNat).toNat:Int)<(97:Int)))==false) (cond (decide ((122:Int)<((s.get! i0.toNat).toNat:Int))) (some (.inr ())) (some (.inl ()))) (some (.inr ()))
noncomputable def F.lO (s:ByteArray):Option Bool:=
 bG (aU (F.fR s) (aN (0:Int) (s.size:Int)) ()) (fun v0:Unit=>some (decide ((s.size:Int)<=(6:Int)))) (fun q0:Unit=>some false)
noncomputable def F.kr (v:ag.D):Option Bool:=
 cond (decide (v.1=(0:Int))) (cond ((decide (v.2.1=(0:Int)))==true) (some (decide (v.2.2.1=(⟨#[]⟩:ByteArray)))) (some false)) (cond (decide (v.1=(1:Int))) (cond ((M.inR v.2.1 (-9999:Int) (9999:Int))==true) (some (decide (v.2.2.1=(⟨#[]⟩:ByteArray)))) (some false)) (cond (decide (v.1=(2:Int))) (cond ((decide (v.2.1=(0:Int)))==true) (some (M.text v.2.2.1)) (some false)) (cond (decide (v.1=(3:Int))) (cond ((M.inR v.2.1 (0:Int) (1:Int))==true) (some (decide (v.2.2.1=(⟨#[]⟩:ByteArray)))) (some false)) (some false))))
noncomputable def F.gw (row:LV)  (z0:ag.D) (v0:Unit):Option (Sum Unit Unit):=
 cond (!(M.aK z0)) (some (.inr ())) (some (.inl ()))
noncomputable def F.nv (row:LV):Option Bool:=
 bG (aU (F.gw row) row ()) (fun v0:Unit=>some (decide ((row.length:Int)<=(4:Int)))) (fun q0:Unit=>some false)
noncomputable def F.fq (columns:LC) (row:LV)  (i0:Int) (v0:Unit):Option (Sum Unit Unit):=
 ah (i0<(columns.length:Int)) (cond ((!decide ((nth (t:=ag) row i0).1=(nth (t:=ai) columns i0).1))==true) (cond ((!decide ((nth (t:=ag) row i0).1=(0:Int)))==false) (cond (!(nth (t:=ai) columns i0).2.1) (some (.inr ())) (some (.inl ()))) (some (.inr ()))) (some (.inl ())))
noncomputable def F.jV (columns:LC) (row:LV):Option Bool:=
 cond ((!(M.aW columns))==false) (cond ((!(M.jL row))==false) (cond (!decide ((row.length:Int)=(columns.length:Int))) (some false) (bG (aU (F.fq columns row) (aN (0:Int) (row.length:Int)) ()) (fun v0:Unit=>some true) (fun q0:Unit=>some false))) (some false)) (some false)
noncomputable def F.fL (columns:LC) (rows:LLV)  (z0:LV) (v0:Unit):Option (Sum Unit Unit):=
 cond (!(M.bD columns z0)) (some (.inr ())) (some (.inl ()))
noncomputable def F.lq (columns:LC) (rows:LLV):Option Bool:=
 bG (aU (F.fL columns rows) rows ()) (fun v0:Unit=>some (M.aW columns)) (fun q0:Unit=>some false)
noncomputable def F.eN (tables:LTb)  (z0:aj.D) (v0:Unit):Option (Sum Unit Unit):=
 cond ((decide ((6:Int)<(z0.2.1.length:Int)))==false) (cond (!(M.fW z0.1 z0.2.1)) (some (.inr ())) (some (.inl ()))) (some (.inr ()))
noncomputable def F.jt (tables:LTb):Option Bool:=
 bG (aU (F.eN tables) tables ()) (fun v0:Unit=>some (decide ((tables.length:Int)<=(3:Int)))) (fun q0:Unit=>some false)
noncomputable def F.cQ (tables:LTb) (c2_0:Int) (c2_1:LTb) (c2_2:LC)  (v2:Int×LLV):Option (Sum (Int×LLV) LLV):=
 ah (0<=c2_0) (ah (c2_0<(tables.length:Int)) (cond (decide (v2.1<((nth (t:=aj) tables c2_0).2.1.length:Int))) (ah (0<=v2.1) (ah (v2.1<((nth (t:=aj) tables c2_0).2.1.length:Int)) (aY ((nth (t:=(Ty.sl ag)) (nth (t:=aj) tables c2_0).2.1 v2.1):LV) (fun r1:LV=>ah ((v2.2.length+[r1].length) * 24<=lim) (some (.inl (wrap64 (v2.1+(1:Int)),(v2.2++[r1])))))))) (some (.inr v2.2))))
noncomputable def F.dX (tables:LTb)  (i0:Int) (v0:LTb):Option (Sum LTb Unit):=
 Option.bind (bM (F.cQ tables i0 v0 ([]++(nth (t:=aj) tables i0).1)) ((0:Int),[])) (fun e2:LLV=>ah ((v0.length+[(([]++(nth (t:=aj) tables i0).1),(e2,()))].length) * 48<=lim) (some (.inl (v0++[(([]++(nth (t:=aj) tables i0).1),(e2,()))]))))
noncomputable def F.iO (tables:LTb):Option LTb:=
 bG (aU (F.dX tables) (aN (0:Int) (tables.length:Int)) []) (fun v0:LTb=>some v0) (fun(_:Unit)=>none)
noncomputable def F.ju (tables:LTb):Option (aE.D):=
 cond (!(M.bt tables)) (some ([],([],([],())))) (aY (tables:LTb) (fun r1:LTb=>some (r1,((List.replicate (tables.length:Int).toNat (0:Int)),([],())))))
noncomputable def F.lU (m:Int):Option Bool:=
 some (!(M.inR m (0:Int) (1000:Int)))
noncomputable def F.bQ (xs:(List Int))  (i0:Int) (v0:Unit):Option (Sum Unit Int):=
 cond (!M.inR (nth (t:=(Ty.int .i64)) xs i0) 0 1000) (some (.inr i0)) (some (.inl ()))
noncomputable def F.ff (xs:(List Int)):Option Int:=
 bG (aU (F.bQ xs) (aN (0:Int) (xs.length:Int)) ()) (fun v0:Unit=>some (-1:Int)) (fun q0:Int=>some q0)
noncomputable def F.cG (xs:(List Int)):Option Bool:=
 some (decide ((0:Int)<=(M.idx (t:=(Ty.int .i64)) (fun e=>!M.inR e 0 1000) xs)))
noncomputable def F.fu (s:aE.D)   (v0:Unit):Option (Sum Unit Unit):=
 cond (decide ((0:Int)<(s.2.2.1.length:Int))) none (some (.inr ()))
noncomputable def F.jY (s:aE.D):Option Bool:=
 cond ((!(M.bt s.1))==false) (cond ((!decide ((s.2.1.length:Int)=(s.1.length:Int)))==false) (cond ((decide ((3:Int)<(s.2.2.1.length:Int)))==false) (cond (List.any s.2.1 (fun e=>!M.inR e 0 1000)) (some false) (Option.bind (bM (F.fu s) ()) (fun e0:Unit=>some true))) (some false)) (some false)) (some false)
noncomputable def F.oh (v:ag.D):Option Bool:=
 some (M.aK v)
noncomputable def F.mX  : Option Bool:=
 cond ((M.aK ((1:Int),((3:Int),((⟨#[]⟩:ByteArray),()))))==true) (some (!(M.aK ((9:Int),((0:Int),((⟨#[]⟩:ByteArray),())))))) (some false)
noncomputable def F.gM (code:(List Int)):Option Bool:=
 cond (decide ((1048576:Int)<(code.length:Int))) (some true) (ah (Sm (Ty.sl (Ty.int .u8)) code) (aY ((M.cT code):LTb) (fun r1:LTb=>ah (Sm (Ty.sl aj) r1) (aY ((M.cv r1):aE.D) (fun r2:aE.D=>aY ((M.cv r1):aE.D) (fun r3:aE.D=>ah (Sm aE r2) (ah (Sm aE r3) (ah (r2=r3) (ah (r2.2.2.1=[]) (cond (true==true) (cond ((!(M.bt r1))==false) (cond ((M.kH r2)==true) (cond ((decide ((r2.2.2.1.length:Int)=(0:Int)))==true) (some true) (some false)) (some false)) (some true)) (some false)))))))))))
end Go.AE
