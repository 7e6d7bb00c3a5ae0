/- Contracts. -/
import Derived.Test.YtjakcjmjlfdeoaaGreatAeInl
import Derived.Test.YtjakcjmjlfdeoaaGreatAeEq
import Derived.Test.YtjakcjmjlfdeoaaGreatAeC0
namespace Go.AE
open Go Go.RowKit Go.Proofs.Tryz
set_option maxRecDepth 100000
set_option maxHeartbeats 2000000
set_option linter.unusedVariables false
def c75:Con:=⟨[.any,.dat TTb],fun args hp K=>hpR (fun b p=>args2 (fun a0 a1=>mV a0 (eV TTb a1 fun tables=>(Sm TBy b)/\(Sm TTb tables)/\(M.ay b)/\(0<=p)/\(p<=995000000000000)/\(∀t∈tables,M.mc t)/\(LD (M.kE b p tables) fun r=>K (.own 0 none) [(0,.arr false ah r.1),(1000000,.box [.data TBy b,dI r.2])]))) args []) hp,.plain,true⟩
abbrev C75:Ctx:=cx [(35,c35),(37,c37),(76,c76),(80,c80)] 165 [] 0 true
def ann75:=an [[kp 3],[.weak 26,kp 35],[kp 99],[kp 1073741923],[kp 99],[kp 483],[kp 1099511628003],[kp 16],[kp 739],[kp 1763],[kp 2251799813687011],[kp 1763],[kp 3811],[kp 288230376151715555],[kp 864691128455139043],[kp 2147],[kp 590584040734857367267],[kp 3299],[.mineC false 11 5 800181 aE,kp 7395],[kp 19342813113834066795306211],[kp 7395],[kp 7395],[kp 633825300114402931124503318243],[kp 633825300114402931124503318243],[kp 11491],[kp 27747],[kp 332306998946228968225951765070113891],[kp 2147],[kp 42535295865117307933210056305122741987],[.mineC false 11 4 800180 aC,.freeze 800180,.mineC false 11 5 800182 aE,.freeze 800182,kp 36579],[.keep [0,1,5,6,7,9,10,11,15,129]],[kp 36579],[.fixRow 16 ah,kp 102115],[kp 364259],[.keep [0,1,5,6,7,9,10,11,15,16,142]],[kp 36579],[.keep [0,1,5,6,10,11,144]],[kp 2147],[kp 1050723],[.keep [0,1,5,6,11,159]],[kp 99],[kp 16]] [[kp 32],[],[.freeze 67,.freeze 123,.freeze 800181,.mineC false 11 4 800180 aC,.freeze 800180,.mineC false 11 5 800182 aE,.freeze 800182,kp 2147],[kp 2147],[],[kp 2147]]
abbrev s75_0 (b:LI) (p:Int) (tables:LTb) (v0:Int×Int×LS):St:=⟨[(0,.ptr 1000000 0),(1,.data TTb tables),(5,.own 26 none),(6,dI v0.1)],[(1000000,.box [.data TBy b,dI v0.2.1]),(26,.arr false ah v0.2.2)]⟩
abbrev LP75_0 (b:LI) (p:Int) (tables:LTb) (m:Nat) (st_:St) (K:KX):Prop:=True/\di (s75_0 b p tables) (F.jh b p tables) (fun v0:Int×Int×LS=>True) (br (fun e0:Int×LS=>True->K (.exit 0) (⟨[(5,.own 26 none)],[(1000000,.box [.data TBy b,dI e0.1]),(26,.arr false ah e0.2)]⟩:St)) (fun q0:Int×LS=>K .ret (⟨[(4,.own 26 none)],[(1000000,.box [.data TBy b,dI q0.1]),(26,.arr false ah q0.2)]⟩:St))) m st_
abbrev s75_2 (b:LI) (p:Int) (tables:LTb) (c2_0:Int) (c2_1:(List LC)) (c2_2:Int) (c2_3:Int) (c2_4:Int) (c2_5:Int) (c2_6:LS) (c2_7:Int) (v2:Unit):St:=⟨[(0,.ptr 1000000 0),(1,.data TTb tables),(5,.own 26 none),(6,dI c2_0),(7,.data (Ty.sl TCS) c2_1),(9,dI c2_2),(10,dI c2_3),(11,.ptr 11 0),(58,dI c2_4)],[(1000000,.box [.data TBy b,dI c2_5]),(26,.arr false ah c2_6),(11,.box [dI Z1,dI Z0,dI Z0,dI c2_7,.cst (.slice none 0 0),.cst (.slice none 0 0)])]⟩
abbrev LP75_2 (b:LI) (p:Int) (tables:LTb) (m:Nat) (st_:St) (K:KX):Prop:=∃c2_0:Int,∃c2_1:(List LC),∃c2_2:Int,∃c2_3:Int,∃c2_4:Int,∃c2_5:Int,∃c2_6:LS,∃c2_7:Int,True/\di (s75_2 b p tables c2_0 c2_1 c2_2 c2_3 c2_4 c2_5 c2_6 c2_7) (F.dY b p tables c2_0 c2_1 c2_2 c2_3 c2_4 c2_5 c2_6 c2_7) (fun v2:Unit=>True) (fun e2:Int×Int×Int×Int×Int×LPt×LI=>True->K (.exit 2) (⟨[(0,.ptr 1000000 0),(1,.data TTb tables),(5,.own 26 none),(6,dI c2_0),(11,.ptr 11 0)],[(1000000,.box [.data TBy b,dI e2.1]),(26,.arr false ah c2_6),(11,.box [dI e2.2.1,dI e2.2.2.1,dI e2.2.2.2.1,dI e2.2.2.2.2.1,.data TPS e2.2.2.2.2.2.1,.data (Ty.sl aE) e2.2.2.2.2.2.2])]⟩:St)) m st_
abbrev s75_3 (b:LI) (p:Int) (tables:LTb) (c3_0:Int) (c3_1:(List LC)) (c3_2:Int) (c3_3:LS) (c3_4:Int) (v3:Int×Int×LI):St:=⟨[(0,.ptr 1000000 0),(1,.data TTb tables),(5,.own 26 none),(6,dI c3_0),(7,.data (Ty.sl TCS) c3_1),(10,dI c3_2),(11,.ptr 11 0),(12,dI v3.1)],[(1000000,.box [.data TBy b,dI v3.2.1]),(26,.arr false ah c3_3),(11,.box [dI Z3,dI c3_4,dI Z0,dI Z0,.cst (.slice none 0 0),.own 800181 none]),(800181,.arr false aE v3.2.2)]⟩
abbrev LP75_3 (b:LI) (p:Int) (tables:LTb) (m:Nat) (st_:St) (K:KX):Prop:=∃c3_0:Int,∃c3_1:(List LC),∃c3_2:Int,∃c3_3:LS,∃c3_4:Int,True/\di (s75_3 b p tables c3_0 c3_1 c3_2 c3_3 c3_4) (F.gd b p tables c3_0 c3_1 c3_2 c3_3 c3_4) (fun v3:Int×Int×LI=>True) (fun e3:Int×LI=>True->K (.exit 3) (⟨[(0,.ptr 1000000 0),(1,.data TTb tables),(5,.own 26 none),(6,dI c3_0),(11,.ptr 11 0)],[(1000000,.box [.data TBy b,dI e3.1]),(26,.arr false ah c3_3),(11,.box [dI Z3,dI c3_4,dI Z0,dI Z0,.cst (.slice none 0 0),.own 800181 none]),(800181,.arr false aE e3.2)]⟩:St)) m st_
abbrev s75_5 (b:LI) (p:Int) (tables:LTb) (c5_0:Int) (c5_1:(List LC)) (c5_2:Int) (c5_3:Int) (c5_4:Int) (c5_5:LS) (i5:Int) (v5:Int×Int×Int×Int):St:=⟨[(0,.ptr 1000000 0),(1,.data TTb tables),(5,.own 26 none),(6,dI c5_0),(7,.data (Ty.sl TCS) c5_1),(9,dI c5_2),(10,dI c5_3),(11,.ptr 11 0),(15,dI i5)],[(1000000,.box [.data TBy b,dI c5_4]),(26,.arr false ah c5_5),(11,.box [dI v5.1,dI v5.2.1,dI v5.2.2.1,dI v5.2.2.2,.data TPS [],.data (Ty.sl aE) []])]⟩
abbrev LP75_5 (b:LI) (p:Int) (tables:LTb) (m:Nat) (st_:St) (K:KX):Prop:=∃c5_0:Int,∃c5_1:(List LC),∃c5_2:Int,∃c5_3:Int,∃c5_4:Int,∃c5_5:LS,(c5_2<=kW/\True)/\cI (s75_5 b p tables c5_0 c5_1 c5_2 c5_3 c5_4 c5_5) Z0 c5_2 (F.gr b p tables c5_0 c5_1 c5_2 c5_3 c5_4 c5_5) (fun v5:Int×Int×Int×Int=>True) (br (fun v5:Int×Int×Int×Int=>True->K (.exit 5) (⟨[(0,.ptr 1000000 0),(1,.data TTb tables),(5,.own 26 none),(6,dI c5_0),(11,.ptr 11 0)],[(1000000,.box [.data TBy b,dI c5_4]),(26,.arr false ah c5_5),(11,.box [dI v5.1,dI v5.2.1,dI v5.2.2.1,dI v5.2.2.2,.data TPS [],.data (Ty.sl aE) []])]⟩:St)) (fun _=>False)) m st_
def L75 (b:LI) (p:Int) (tables:LTb):bE:=fun id m st_ K=>match id with
 | 0=>LP75_0 b p tables m st_ K
 | 2=>LP75_2 b p tables m st_ K
 | 3=>LP75_3 b p tables m st_ K
 | 5=>LP75_5 b p tables m st_ K
 | _=>False
theorem vc75 (b:LI) (p:Int) (tables:LTb) (K:KA):vcT C75 (L75 b p tables) ann75 (si [(1000002,true)] f75) [.ptr 1000000 0,.data TTb tables] [(1000000,.box [.data TBy b,dI p])] .raw K =
 ((Sm TBy b)/\(M.ay b)/\(0<=p)/\(p<=1000000000000000)/\(LD (M.pick b p (tables.length:Int)) fun r1=>(Sm TBy b)/\(M.ay b)/\(0<=r1.2)/\(r1.2<=1000000000000000)/\(LD (M.pick b r1.2 Z6) fun r2=>(∃m_,True/\di (s75_0 b p tables) (F.jh b p tables) (fun v0:Int×Int×LS=>True) (br (fun e0:Int×LS=>True->K (.own 0 none) [(0,.arr false ah e0.2),(1000000,.box [.data TBy b,dI e0.1])]) (fun q0:Int×LS=>K (.own 0 none) [(0,.arr false ah q0.2),(1000000,.box [.data TBy b,dI q0.1])])) m_ (s75_0 b p tables (r2.1,r2.2,[(Z1,(Z0,(Z0,(r1.1,([],([],()))))))])))))):=by kernel_rfl
theorem lvc75_0 (b:LI) (p:Int) (tables:LTb)  (v0:Int×Int×LS) (m:Nat) (K:KX):lvT C75 (L75 b p tables) ann75 (si [(1000002,true)] f75) 0 0 (s75_0 b p tables v0) m K =
 (cond (decide (Z0<v0.1)) ((Sm TTb tables)/\(Sm TSS v0.2.2)/\(LD (M.cT tables v0.2.2) fun r3=>cond (!r3.2) (K .ret (⟨[(4,.own 26 none)],[(1000000,.box [.data TBy b,dI v0.2.1]),(26,.arr false ah v0.2.2)]⟩:St)) ((Sm TBy b)/\(M.ay b)/\(0<=v0.2.1)/\(v0.2.1<=1000000000000000)/\(LD (M.pick b v0.2.1 Z5) fun r4=>(Z4≠0)/\cond (decide (wrap64 (wrap64 ((v0.2.2.length:Int)-Z1)-(wrap64 (r4.1.tdiv Z4)))<Z0)) ((Sm TBy b)/\(M.ay b)/\(0<=r4.2)/\(r4.2<=1000000000000000)/\(LD (M.pick b r4.2 (tables.length:Int)) fun r5=>(Sm TBy b)/\(M.ay b)/\(0<=r5.2)/\(r5.2<=1000000000000000)/\(LD (M.pick b r5.2 (7:Int)) fun r6=>(∃m_,∃c2_0:Int,∃c2_1:(List LC),∃c2_2:Int,∃c2_3:Int,∃c2_4:Int,∃c2_5:Int,∃c2_6:LS,∃c2_7:Int,True/\di (s75_2 b p tables c2_0 c2_1 c2_2 c2_3 c2_4 c2_5 c2_6 c2_7) (F.dY b p tables c2_0 c2_1 c2_2 c2_3 c2_4 c2_5 c2_6 c2_7) (fun v2:Unit=>True) (fun e2:Int×Int×Int×Int×Int×LPt×LI=>True->Q5 (((([]:List ah.D).length+c2_6.length) * 80<=lim)/\((([]++c2_6).length+[(e2.2.1,(e2.2.2.1,(e2.2.2.2.1,(e2.2.2.2.2.1,(e2.2.2.2.2.2.1,(e2.2.2.2.2.2.2,()))))))].length) * 80<=lim)/\(Sm TTb tables)/\(Sm TSS (([]++c2_6)++[(e2.2.1,(e2.2.2.1,(e2.2.2.2.1,(e2.2.2.2.2.1,(e2.2.2.2.2.2.1,(e2.2.2.2.2.2.2,()))))))]))/\(LD (M.cT tables (([]++c2_6)++[(e2.2.1,(e2.2.2.1,(e2.2.2.2.1,(e2.2.2.2.2.1,(e2.2.2.2.2.2.1,(e2.2.2.2.2.2.2,()))))))])) fun r7=>cond r7.2 (((c2_6.length+[(e2.2.1,(e2.2.2.1,(e2.2.2.2.1,(e2.2.2.2.2.1,(e2.2.2.2.2.2.1,(e2.2.2.2.2.2.2,()))))))].length) * 80<=lim)/\(nxT (LP75_0 b p tables) m K (s75_0 b p tables (wrap64 (c2_0-Z1),e2.1,(c2_6++[(e2.2.1,(e2.2.2.1,(e2.2.2.2.1,(e2.2.2.2.2.1,(e2.2.2.2.2.2.1,(e2.2.2.2.2.2.2,()))))))]))))) (nxT (LP75_0 b p tables) m K (s75_0 b p tables (wrap64 (c2_0-Z1),e2.1,c2_6)))))) m_ (s75_2 b p tables v0.1 r3.1 (v0.2.2.length:Int) Z0 r6.1 r6.2 v0.2.2 r5.1 ()))))) ((Sm TBy b)/\(M.ay b)/\(0<=r4.2)/\(r4.2<=1000000000000000)/\(LD (M.pick b r4.2 (tables.length:Int)) fun r5=>(Sm TBy b)/\(M.ay b)/\(0<=r5.2)/\(r5.2<=1000000000000000)/\(LD (M.pick b r5.2 (7:Int)) fun r6=>(∃m_,∃c2_0:Int,∃c2_1:(List LC),∃c2_2:Int,∃c2_3:Int,∃c2_4:Int,∃c2_5:Int,∃c2_6:LS,∃c2_7:Int,True/\di (s75_2 b p tables c2_0 c2_1 c2_2 c2_3 c2_4 c2_5 c2_6 c2_7) (F.dY b p tables c2_0 c2_1 c2_2 c2_3 c2_4 c2_5 c2_6 c2_7) (fun v2:Unit=>True) (fun e2:Int×Int×Int×Int×Int×LPt×LI=>True->Q5 (((([]:List ah.D).length+c2_6.length) * 80<=lim)/\((([]++c2_6).length+[(e2.2.1,(e2.2.2.1,(e2.2.2.2.1,(e2.2.2.2.2.1,(e2.2.2.2.2.2.1,(e2.2.2.2.2.2.2,()))))))].length) * 80<=lim)/\(Sm TTb tables)/\(Sm TSS (([]++c2_6)++[(e2.2.1,(e2.2.2.1,(e2.2.2.2.1,(e2.2.2.2.2.1,(e2.2.2.2.2.2.1,(e2.2.2.2.2.2.2,()))))))]))/\(LD (M.cT tables (([]++c2_6)++[(e2.2.1,(e2.2.2.1,(e2.2.2.2.1,(e2.2.2.2.2.1,(e2.2.2.2.2.2.1,(e2.2.2.2.2.2.2,()))))))])) fun r7=>cond r7.2 (((c2_6.length+[(e2.2.1,(e2.2.2.1,(e2.2.2.2.1,(e2.2.2.2.2.1,(e2.2.2.2.2.2.1,(e2.2.2.2.2.2.2,()))))))].length) * 80<=lim)/\(nxT (LP75_0 b p tables) m K (s75_0 b p tables (wrap64 (c2_0-Z1),e2.1,(c2_6++[(e2.2.1,(e2.2.2.1,(e2.2.2.2.1,(e2.2.2.2.2.1,(e2.2.2.2.2.2.1,(e2.2.2.2.2.2.2,()))))))]))))) (nxT (LP75_0 b p tables) m K (s75_0 b p tables (wrap64 (c2_0-Z1),e2.1,c2_6)))))) m_ (s75_2 b p tables v0.1 r3.1 (v0.2.2.length:Int) (wrap64 (wrap64 ((v0.2.2.length:Int)-Z1)-(wrap64 (r4.1.tdiv Z4)))) r6.1 r6.2 v0.2.2 r5.1 ()))))))))) (K (.exit 0) (⟨[(5,.own 26 none)],[(1000000,.box [.data TBy b,dI v0.2.1]),(26,.arr false ah v0.2.2)]⟩:St))):=by kernel_rfl
abbrev S75l2_0 (b:LI) (p:Int) (tables:LTb) (c2_0:Int) (c2_1:(List LC)) (c2_2:Int) (c2_3:Int) (c2_4:Int) (c2_5:Int) (c2_6:LS) (c2_7:Int) (v2:Unit) (m:Nat) (K:KX):Prop:=(Sm TBy b)/\(M.ay b)/\(0<=c2_5)/\(c2_5<=1000000000000000)/\(LD (M.pick b c2_5 c2_2) fun r8=>(0<=c2_3)/\(c2_3<(c2_1.length:Int))/\(0<=r8.1)/\(r8.1<(c2_1.length:Int))/\((([]:List ag.D).length+(nth (t:=TCS) c2_1 c2_3).length) * 16<=lim)/\((([]++(nth (t:=TCS) c2_1 c2_3)).length+(nth (t:=TCS) c2_1 r8.1).length) * 16<=lim)/\cond (decide (((([]++(nth (t:=TCS) c2_1 c2_3))++(nth (t:=TCS) c2_1 r8.1)).length:Int)<=Z4)) ((Sm TBy b)/\(Sm TCS (([]++(nth (t:=TCS) c2_1 c2_3))++(nth (t:=TCS) c2_1 r8.1)))/\(M.ay b)/\(0<=r8.2)/\(r8.2+40 * (M.eB Z2:Int)<=996000000000000)/\(Z2<=3)/\(Z2.toNat<64)/\(LD (M.bG 64 b r8.2 (([]++(nth (t:=TCS) c2_1 c2_3))++(nth (t:=TCS) c2_1 r8.1)) Z3 Z2) fun r9=>K (.exit 2) (⟨[(0,.ptr 1000000 0),(1,.data TTb tables),(5,.own 26 none),(6,dI c2_0),(11,.ptr 11 0)],[(1000000,.box [.data TBy b,dI r9.2]),(26,.arr false ah c2_6),(11,.box [dI Z4,dI c2_3,dI r8.1,dI Z0,.data TPS r9.1,.data (Ty.sl aE) []])]⟩:St))) (K (.exit 2) (⟨[(0,.ptr 1000000 0),(1,.data TTb tables),(5,.own 26 none),(6,dI c2_0),(11,.ptr 11 0)],[(1000000,.box [.data TBy b,dI r8.2]),(26,.arr false ah c2_6),(11,.box [dI Z1,dI Z0,dI Z0,dI c2_7,.data TPS [],.data (Ty.sl aE) []])]⟩:St)))
abbrev S75l2_1 (b:LI) (p:Int) (tables:LTb) (c2_0:Int) (c2_1:(List LC)) (c2_2:Int) (c2_3:Int) (c2_4:Int) (c2_5:Int) (c2_6:LS) (c2_7:Int) (v2:Unit) (m:Nat) (K:KX):Prop:=cond (decide (c2_4=Z4)) (∃m_,∃c5_0:Int,∃c5_1:(List LC),∃c5_2:Int,∃c5_3:Int,∃c5_4:Int,∃c5_5:LS,(c5_2<=kW/\True)/\cI (s75_5 b p tables c5_0 c5_1 c5_2 c5_3 c5_4 c5_5) Z0 c5_2 (F.gr b p tables c5_0 c5_1 c5_2 c5_3 c5_4 c5_5) (fun v5:Int×Int×Int×Int=>True) (br (fun v5:Int×Int×Int×Int=>True->K (.exit 2) (⟨[(0,.ptr 1000000 0),(1,.data TTb tables),(5,.own 26 none),(6,dI c5_0),(11,.ptr 11 0)],[(1000000,.box [.data TBy b,dI c5_4]),(26,.arr false ah c5_5),(11,.box [dI v5.1,dI v5.2.1,dI v5.2.2.1,dI v5.2.2.2,.data TPS [],.data (Ty.sl aE) []])]⟩:St)) (fun _=>False)) m_ (s75_5 b p tables c2_0 c2_1 c2_2 c2_3 c2_5 c2_6 Z0 (Z1,Z0,Z0,c2_7))) (cond (decide (c2_4=Z5)) (K (.exit 2) (⟨[(0,.ptr 1000000 0),(1,.data TTb tables),(5,.own 26 none),(6,dI c2_0),(11,.ptr 11 0)],[(1000000,.box [.data TBy b,dI c2_5]),(26,.arr false ah c2_6),(11,.box [dI Z6,dI c2_3,dI Z0,dI Z0,.data TPS [],.data (Ty.sl aE) []])]⟩:St)) (K (.exit 2) (⟨[(0,.ptr 1000000 0),(1,.data TTb tables),(5,.own 26 none),(6,dI c2_0),(11,.ptr 11 0)],[(1000000,.box [.data TBy b,dI c2_5]),(26,.arr false ah c2_6),(11,.box [dI Z1,dI Z0,dI Z0,dI c2_7,.data TPS [],.data (Ty.sl aE) []])]⟩:St)))
theorem lvc75_1 (b:LI) (p:Int) (tables:LTb) (c2_0:Int) (c2_1:(List LC)) (c2_2:Int) (c2_3:Int) (c2_4:Int) (c2_5:Int) (c2_6:LS) (c2_7:Int) (v2:Unit) (m:Nat) (K:KX):lvT C75 (L75 b p tables) ann75 (si [(1000002,true)] f75) 1 2 (s75_2 b p tables c2_0 c2_1 c2_2 c2_3 c2_4 c2_5 c2_6 c2_7 v2) m K =
 (cond (decide (c2_4=Z0)) ((0<=c2_3)/\(c2_3<(c2_1.length:Int))/\(Sm TBy b)/\(Sm TCS (nth (t:=TCS) c2_1 c2_3))/\(M.ay b)/\(0<=c2_5)/\(c2_5+40 * (M.eB Z2:Int)<=996000000000000)/\(Z2<=3)/\(Z2.toNat<64)/\(LD (M.bG 64 b c2_5 (nth (t:=TCS) c2_1 c2_3) Z3 Z2) fun r10=>K (.exit 2) (⟨[(0,.ptr 1000000 0),(1,.data TTb tables),(5,.own 26 none),(6,dI c2_0),(11,.ptr 11 0)],[(1000000,.box [.data TBy b,dI r10.2]),(26,.arr false ah c2_6),(11,.box [dI Z2,dI c2_3,dI Z0,dI Z0,.data TPS r10.1,.data (Ty.sl aE) []])]⟩:St))) (cond (decide (c2_4=Z1)) ((Sm TBy b)/\(M.ay b)/\(0<=c2_5)/\(c2_5<=1000000000000000)/\(LD (M.pick b c2_5 Z3) fun r11=>(∃m_,∃c3_0:Int,∃c3_1:(List LC),∃c3_2:Int,∃c3_3:LS,∃c3_4:Int,True/\di (s75_3 b p tables c3_0 c3_1 c3_2 c3_3 c3_4) (F.gd b p tables c3_0 c3_1 c3_2 c3_3 c3_4) (fun v3:Int×Int×LI=>True) (fun e3:Int×LI=>True->K (.exit 2) (⟨[(0,.ptr 1000000 0),(1,.data TTb tables),(5,.own 26 none),(6,dI c3_0),(11,.ptr 11 0)],[(1000000,.box [.data TBy b,dI e3.1]),(26,.arr false ah c3_3),(11,.box [dI Z3,dI c3_4,dI Z0,dI Z0,.data TPS [],.data (Ty.sl aE) e3.2])]⟩:St)) m_ (s75_3 b p tables c2_0 c2_1 c2_3 c2_6 c2_3 (r11.1,r11.2,[]))))) (cond (decide (c2_4=Z2)) (cond (decide (c2_4=Z2)) (S75l2_0  b p tables c2_0 c2_1 c2_2 c2_3 c2_4 c2_5 c2_6 c2_7 v2 m K) (S75l2_1  b p tables c2_0 c2_1 c2_2 c2_3 c2_4 c2_5 c2_6 c2_7 v2 m K)) (cond (decide (c2_4=Z3)) (S75l2_0  b p tables c2_0 c2_1 c2_2 c2_3 c2_4 c2_5 c2_6 c2_7 v2 m K) (S75l2_1  b p tables c2_0 c2_1 c2_2 c2_3 c2_4 c2_5 c2_6 c2_7 v2 m K))))):=by kernel_rfl
abbrev S75l3_0 (b:LI) (p:Int) (tables:LTb) (c3_0:Int) (c3_1:(List LC)) (c3_2:Int) (c3_3:LS) (c3_4:Int) (v3:Int×Int×LI) (m:Nat) (K:KX):Prop:=K (.exit 3) (⟨[(0,.ptr 1000000 0),(1,.data TTb tables),(5,.own 26 none),(6,dI c3_0),(11,.ptr 11 0)],[(1000000,.box [.data TBy b,dI v3.2.1]),(26,.arr false ah c3_3),(11,.box [dI Z3,dI c3_4,dI Z0,dI Z0,.cst (.slice none 0 0),.own 800181 none]),(800181,.arr false aE v3.2.2)]⟩:St)
theorem lvc75_2 (b:LI) (p:Int) (tables:LTb) (c3_0:Int) (c3_1:(List LC)) (c3_2:Int) (c3_3:LS) (c3_4:Int) (v3:Int×Int×LI) (m:Nat) (K:KX):lvT C75 (L75 b p tables) ann75 (si [(1000002,true)] f75) 2 3 (s75_3 b p tables c3_0 c3_1 c3_2 c3_3 c3_4 v3) m K =
 (cond ((decide (Z0<=v3.1))==true) ((0<=c3_2)/\(c3_2<(c3_1.length:Int))/\cond (decide (Z0<((nth (t:=TCS) c3_1 c3_2).length:Int))) ((0<=c3_2)/\(c3_2<(c3_1.length:Int))/\((Sm TBy b)/\(M.ay b)/\(0<=v3.2.1)/\(v3.2.1<=1000000000000000)/\(LD (M.pick b v3.2.1 ((nth (t:=TCS) c3_1 c3_2).length:Int)) fun r12=>((v3.2.2.length+[r12.1].length) * 8<=lim)/\(nxT (LP75_3 b p tables) m K (s75_3 b p tables c3_0 c3_1 c3_2 c3_3 c3_4 (wrap64 (v3.1-Z1),r12.2,(v3.2.2++[r12.1]))))))/\((Sm TBy b)/\(M.ay b)/\(0<=v3.2.1)/\(v3.2.1<=1000000000000000)/\(LD (M.pick b v3.2.1 ((nth (t:=TCS) c3_1 c3_2).length:Int)) fun r12=>Q0 (((v3.2.2.length+[r12.1].length) * 8<=lim)/\(nxT (LP75_3 b p tables) m K (s75_3 b p tables c3_0 c3_1 c3_2 c3_3 c3_4 (wrap64 (v3.1-Z1),r12.2,(v3.2.2++[r12.1])))))))) (S75l3_0  b p tables c3_0 c3_1 c3_2 c3_3 c3_4 v3 m K)) (S75l3_0  b p tables c3_0 c3_1 c3_2 c3_3 c3_4 v3 m K)):=by kernel_rfl
theorem lvc75_3 (b:LI) (p:Int) (tables:LTb) (c5_0:Int) (c5_1:(List LC)) (c5_2:Int) (c5_3:Int) (c5_4:Int) (c5_5:LS) (i5:Int) (v5:Int×Int×Int×Int) (m:Nat) (K:KX):lvT C75 (L75 b p tables) ann75 (si [(1000002,true)] f75) 3 5 (s75_5 b p tables c5_0 c5_1 c5_2 c5_3 c5_4 c5_5 i5 v5) m K =
 (cond (decide (i5<c5_2)) ((Sm TTb tables)/\(Sm (Ty.sl TCS) c5_1)/\(Sm ah (Z5,(c5_3,(i5,(Z0,([],([],())))))))/\(LD (M.fI tables c5_1 (Z5,(c5_3,(i5,(Z0,([],([],()))))))) fun r13=>cond r13.2 (nxT (LP75_5 b p tables) m K (s75_5 b p tables c5_0 c5_1 c5_2 c5_3 c5_4 c5_5 (wrap64 (i5+Z1)) (Z5,c5_3,i5,Z0))) (nxT (LP75_5 b p tables) m K (s75_5 b p tables c5_0 c5_1 c5_2 c5_3 c5_4 c5_5 (wrap64 (i5+Z1)) (v5.1,v5.2.1,v5.2.2.1,v5.2.2.2))))) (K (.exit 5) (⟨[(0,.ptr 1000000 0),(1,.data TTb tables),(5,.own 26 none),(6,dI c5_0),(11,.ptr 11 0)],[(1000000,.box [.data TBy b,dI c5_4]),(26,.arr false ah c5_5),(11,.box [dI v5.1,dI v5.2.1,dI v5.2.2.1,dI v5.2.2.2,.data TPS [],.data (Ty.sl aE) []])]⟩:St))):=by kernel_rfl
theorem con75_ok:bg P 75 c75:=HH [(1000002,true)] C75 func75 (kC con35_ok (kC con37_ok (kC con76_ok (kC con80_ok kN)))) fun args hp K h0=>by
 unfold c75 at h0
 dsimp only at h0
 obtain⟨b,p,rfl,h00⟩:=fk h0
 obtain⟨a0,a1,rfl,_,h1⟩:=ck h00
 obtain⟨rfl,h2⟩:=cW h1
 obtain⟨tables,rfl,h3⟩:=bw h2
 obtain⟨h_b,h_tables,p0,p1,p2,p3,hK⟩:=h3
 have h:ok (F.jJ b p tables) (fun r=>K (.own 0 none) [(0,.arr false ah r.1),(1000000,.box [.data TBy b,dI r.2])]):=az (F.yg b p tables h_b h_tables p0 p1 p2 p3) (hK _ rfl)
 refine⟨rfl,ann75,(L75 b p tables),.raw,(Ga (i0:=0) (i1:=2) (i2:=3) (i3:=5) (by kernel_rfl) ?_ ?_ ?_ ?_),?_⟩
 ·rintro _ _ K ⟨hc0,v0,rfl,hv0,h⟩
  exact cast (lvc75_0 _ _ _ _ _ _).symm (cC h (fun m1 hm0 h=>(oC h (fun _ h=>⟨h_tables,(oG h fun _ h=>(oL h fun r3 _ h=>(oC h (fun _ h=>h) fun _ h=>⟨h_b,(oG h fun g1 h=>(oG h fun _ h=>(oG h fun _ h=>(oL h fun r4 _ h=>⟨(by decide),(oC h (fun _ h=>⟨h_b,⟨g1,(oG h fun _ h=>(oG h fun _ h=>(oL h fun r5 _ h=>⟨h_b,⟨g1,(oG h fun _ h=>(oG h fun _ h=>(oL h fun r6 _ h=>(bV (fun m hm=>⟨v0.1,r3.1,(v0.2.2.length:Int),Z0,r6.1,r6.2,v0.2.2,r5.1,trivial,hm⟩) _ rfl trivial (fy h (fun e2 h hv2=>(q5 (oG h fun _ h=>(oG h fun _ h=>⟨h_tables,(oG h fun _ h=>(oL h fun _ _ h=>(oC h (fun _ h=>(oG h fun _ h=>(bD (fun _ hm=>⟨hc0,hm⟩) hm0 _ rfl trivial h))) fun _ h=>(bD (fun _ hm=>⟨hc0,hm⟩) hm0 _ rfl trivial h))))⟩)))))))))⟩⟩)))⟩⟩) fun _ h=>⟨h_b,⟨g1,(oG h fun _ h=>(oG h fun _ h=>(oL h fun r5 _ h=>⟨h_b,⟨g1,(oG h fun _ h=>(oG h fun _ h=>(oL h fun r6 _ h=>(bV (fun m hm=>⟨v0.1,r3.1,(v0.2.2.length:Int),(wrap64 (wrap64 ((v0.2.2.length:Int)-Z1)-(wrap64 (r4.1.tdiv Z4)))),r6.1,r6.2,v0.2.2,r5.1,trivial,hm⟩) _ rfl trivial (fy h (fun e2 h hv2=>(q5 (oG h fun _ h=>(oG h fun _ h=>⟨h_tables,(oG h fun _ h=>(oL h fun _ _ h=>(oC h (fun _ h=>(oG h fun _ h=>(bD (fun _ hm=>⟨hc0,hm⟩) hm0 _ rfl trivial h))) fun _ h=>(bD (fun _ hm=>⟨hc0,hm⟩) hm0 _ rfl trivial h))))⟩)))))))))⟩⟩)))⟩⟩)⟩))))⟩)))⟩) fun _ h=>((cw h :) trivial))))
 ·rintro _ _ K ⟨c2_0,c2_1,c2_2,c2_3,c2_4,c2_5,c2_6,c2_7,hc2,v2,rfl,hv2,h⟩
  exact cast (lvc75_1 _ _ _ _ _ _ _ _ _ _ _ _ _ _).symm (cC h (fun m1 hm2 h=>(oC h (fun _ h=>(oG h fun _ h=>(oG h fun _ h=>⟨h_b,(oG h fun _ h=>(oG h fun _ h=>(oG h fun _ h=>(oG h fun _ h=>(oG h fun _ h=>(oG h fun _ h=>(oL h fun _ _ h=>((cw h :) trivial))))))))⟩))) fun _ h=>(oC h (fun _ h=>⟨h_b,(oG h fun _ h=>(oG h fun _ h=>(oG h fun _ h=>(oL h fun _ _ h=>(bV (fun m hm=>⟨c2_0,c2_1,c2_3,c2_6,c2_3,trivial,hm⟩) _ rfl trivial (fy h (fun e3 h hv3=>((cw h :) trivial))))))))⟩) fun _ h=>(oC h (fun b_41 h=>(bL b_41 ⟨h_b,(oG h fun g2 h=>(oG h fun _ h=>(oG h fun _ h=>(oL h fun _ _ h=>(oG h fun _ h=>(oG h fun _ h=>(oG h fun _ h=>(oG h fun _ h=>(oG h fun _ h=>(oG h fun _ h=>(oC h (fun _ h=>⟨h_b,(oG h fun _ h=>⟨g2,(oG h fun _ h=>(oG h fun _ h=>(oG h fun _ h=>(oG h fun _ h=>(oL h fun _ _ h=>((cw h :) trivial))))))⟩)⟩) fun _ h=>((cw h :) trivial))))))))))))⟩)) fun _ h=>(oC h (fun _ h=>⟨h_b,(oG h fun g3 h=>(oG h fun _ h=>(oG h fun _ h=>(oL h fun _ _ h=>(oG h fun _ h=>(oG h fun _ h=>(oG h fun _ h=>(oG h fun _ h=>(oG h fun _ h=>(oG h fun _ h=>(oC h (fun _ h=>⟨h_b,(oG h fun _ h=>⟨g3,(oG h fun _ h=>(oG h fun _ h=>(oG h fun _ h=>(oG h fun _ h=>(oL h fun _ _ h=>((cw h :) trivial))))))⟩)⟩) fun _ h=>((cw h :) trivial))))))))))))⟩) fun _ h=>(oC h (fun _ h=>(have hi_0:=(aF h).1;have h:=(aF h).2;(bN (fun m hm=>⟨c2_0,c2_1,c2_2,c2_3,c2_5,c2_6,⟨hi_0,trivial⟩,hm⟩) Z0 _ rfl (Int.natCast_nonneg 0) trivial (aU h (fun v5 h hv5=>((cw h :) trivial)) (fun _ h=>h.elim))))) fun _ h=>(oC h (fun _ h=>((cw h :) trivial)) fun _ h=>((cw h :) trivial)))))))))
 ·rintro _ _ K ⟨c3_0,c3_1,c3_2,c3_3,c3_4,hc3,v3,rfl,hv3,h⟩
  exact cast (lvc75_2 _ _ _ _ _ _ _ _ _ _ _).symm (cC h (fun m1 hm3 h=>(oC h (fun _ h=>(oG h fun g4 h=>(oG h fun g5 h=>(oC h (fun _ h=>⟨g4,⟨g5,((fun(g3_0:M.ay b)=>(fun(g3_1:0<=v3.2.1)=>(fun(g3_2:v3.2.1<=1000000000000000)=>(fun(g3_3:(v3.2.2.length+[(M.pick b v3.2.1 ((nth (t:=TCS) c3_1 c3_2).length:Int)).1].length) * 8<=lim)=>⟨⟨h_b,⟨g3_0,have g6:=g3_0;⟨g3_1,have g7:=g3_1;⟨g3_2,have g8:=g3_2;(fun r12 er12=>(have g9:(v3.2.2.length+[r12.1].length) * 8<=lim:=(by rw[er12];exact g3_3);⟨g9,(have h:=(aF (cB (aF (aF (aF h).2).2).2 r12 er12)).2;(bD (fun _ hm=>⟨c3_0,c3_1,c3_2,c3_3,c3_4,hc3,hm⟩) hm3 _ rfl trivial h))⟩))⟩⟩⟩⟩,⟨h_b,⟨g3_0,have g10:=g3_0;⟨g3_1,have g11:=g3_1;⟨g3_2,have g12:=g3_2;(fun r12 er12=>(q0 (have g13:(v3.2.2.length+[r12.1].length) * 8<=lim:=(by rw[er12];exact g3_3);⟨g13,(have h:=(aF (cB (aF (aF (aF h).2).2).2 r12 er12)).2;(bD (fun _ hm=>⟨c3_0,c3_1,c3_2,c3_3,c3_4,hc3,hm⟩) hm3 _ rfl trivial h))⟩)))⟩⟩⟩⟩⟩) (aF (cB (aF (aF (aF h).2).2).2 _ rfl)).1) (aF (aF (aF h).2).2).1) (aF (aF h).2).1) (aF h).1)⟩⟩) fun _ h=>((cw h :) trivial))))) fun _ h=>((cw h :) trivial))))
 ·rintro _ _ K ⟨c5_0,c5_1,c5_2,c5_3,c5_4,c5_5,hc5,i5,v5,rfl,hl5,rfl,hv5,h⟩
  exact cast (lvc75_3 _ _ _ _ _ _ _ _ _ _ _ _ _).symm (cj h (fun ht5 h=>⟨h_tables,(oG h fun _ h=>⟨(show Sm ah _ from⟨trivial,(show Sm (Ty.pair aE (Ty.pair aE (Ty.pair aE (Ty.pair TPS (Ty.pair (Ty.sl aE) Ty.unit))))) _ from⟨trivial,(show Sm (Ty.pair aE (Ty.pair aE (Ty.pair TPS (Ty.pair (Ty.sl aE) Ty.unit)))) _ from⟨trivial,(show Sm (Ty.pair aE (Ty.pair TPS (Ty.pair (Ty.sl aE) Ty.unit))) _ from⟨trivial,(show Sm (Ty.pair TPS (Ty.pair (Ty.sl aE) Ty.unit)) _ from⟨(fY aC),(show Sm (Ty.pair (Ty.sl aE) Ty.unit) _ from⟨(fY aE),trivial⟩)⟩)⟩)⟩)⟩)⟩),(oL h fun _ _ h=>(oC h (fun _ h=>(aT (fun _ hm=>⟨c5_0,c5_1,c5_2,c5_3,c5_4,c5_5,hc5,hm⟩) _ rfl hl5 fS ht5 hc5.1 trivial h)) fun _ h=>(aT (fun _ hm=>⟨c5_0,c5_1,c5_2,c5_3,c5_4,c5_5,hc5,hm⟩) _ rfl hl5 fS ht5 hc5.1 trivial h)))⟩)⟩) fun h=>(h trivial))
 ·rw[vc75]
  exact⟨h_b,⟨p0,⟨p1,(oG h fun _ h=>(oL h fun _ _ h=>⟨h_b,⟨p0,(oG h fun _ h=>(oG h fun _ h=>(oL h fun _ _ h=>(bV (fun m hm=>⟨trivial,hm⟩) _ rfl trivial (aU h (fun e0 h hv0=>h) (fun q0 h=>h))))))⟩⟩))⟩⟩⟩
def c33:Con:=⟨[.any],fun args hp K=>hpR (fun b p=>args1 (fun a0=>mV a0 ((Sm TBy b)/\(M.ay b)/\(0<=p)/\(p<=994000000000000)/\(LD (M.eS b p) fun r=>K (.tup [.data TTb r.1,.data TSS r.2.1]) [(1000000,.box [.data TBy b,dI r.2.2])]))) args []) hp,.plain,true⟩
abbrev C33:Ctx:=cx [(74,c74),(75,c75),(76,c76)] 20 [] 0 false
def ann33:=an [[kp 1],[kp 17],[kp 49],[kp 12]] []
theorem vc33 (b:LI) (p:Int) (K:KA):vcT C33 aA ann33 f33 [.ptr 1000000 0] [(1000000,.box [.data TBy b,dI p])] (.tup [TTb,TSS]) K =
 ((Sm TBy b)/\(M.ay b)/\(0<=p)/\(p<=995000000000000)/\(Z0=0)/\(LD (M.gy b p Z0) fun r1=>(Sm TBy b)/\(Sm TTb r1.1)/\(M.ay b)/\(0<=r1.2)/\(r1.2<=995000000000000)/\(∀t∈r1.1,M.mc t)/\(LD (M.kE b r1.2 r1.1) fun r2=>(Sm TBy b)/\(M.ay b)/\(0<=r2.2)/\(r2.2<=1000000000000000)/\(LD (M.pick b r2.2 (Bj (r2.1.length:Int) Z4)) fun r3=>(0<=Z0)/\(Z0<=wrap64 (Z1+r3.1))/\(wrap64 (Z1+r3.1)<=(r2.1.length:Int))/\(wrap64 (Z1+r3.1)=wrap64 (Z1+r3.1))/\K (.tup [.data TTb r1.1,.data TSS (aj r2.1 (some (Z0,wrap64 (Z1+r3.1))))]) [(1000000,.box [.data TBy b,dI r3.2])])))):=by kernel_rfl
theorem con33_ok:bg P 33 c33:=bq C33 func33 (kC con74_ok (kC con75_ok (kC con76_ok kN))) fun args hp K h0=>by
 unfold c33 at h0
 dsimp only at h0
 obtain⟨b,p,rfl,h00⟩:=fk h0
 obtain⟨a0,rfl,_,h1⟩:=zM h00
 obtain⟨rfl,h2⟩:=cW h1
 obtain⟨h_b,p0,p1,p2,hK⟩:=h2
 have h:ok (F.iP b p) (fun r=>K (.tup [.data TTb r.1,.data TSS r.2.1]) [(1000000,.box [.data TBy b,dI r.2.2])]):=az (F.xq b p h_b p0 p1 p2) (hK _ rfl)
 refine⟨rfl,ann33,aA,(.tup [TTb,TSS]),(aG (by kernel_rfl)),?_⟩
 ·rw[vc33]
  exact⟨h_b,⟨p0,⟨p1,(oG h fun _ h=>(oG h fun _ h=>(oL h fun _ _ h=>⟨h_b,(oG h fun _ h=>⟨p0,(oG h fun _ h=>(oG h fun _ h=>(oG h fun _ h=>(oL h fun _ _ h=>⟨h_b,⟨p0,(oG h fun _ h=>(oG h fun _ h=>(oL h fun _ _ h=>⟨(Int.natCast_nonneg 0),(oG h fun _ h=>(oG h fun _ h=>⟨rfl,h⟩))⟩)))⟩⟩))))⟩)⟩)))⟩⟩⟩
def c47:Con:=⟨[.any,.dat TTb,.dat aE],fun args hp K=>hpR (fun b p=>uM (fun a0 a1 a2=>mV a0 (eV TTb a1 fun tables=>eV aE a2 fun n=>(Sm TBy b)/\(Sm TTb tables)/\(M.ay b)/\(0<=p)/\(p<=994000000000000)/\(tables.length<=3)/\(LD (M.fO b p tables n) fun r=>K (.own 0 none) [(0,.arr false aB r.1),(1000000,.box [.data TBy b,dI r.2])]))) args []) hp,.plain,true⟩
abbrev C47:Ctx:=cx [(35,c35),(76,c76),(92,c92)] 73 [] 0 false
def ann47:=an [[kp 7],[kp 135],[kp 391],[kp 8583],[kp 391],[kp 262535],[kp 391],[kp 274877907073],[kp 1099511627905],[kp 128],[kp 141836999983233],[kp 128],[.keep [0,7,55]],[kp 128],[kp 64]] [[kp 133]]
abbrev s47_0 (b:LI) (p:Int) (tables:LTb) (n:Int) (i0:Int) (v0:Int×LG):St:=⟨[(0,.ptr 1000000 0),(1,.data TTb tables),(2,dI n),(7,.own 9 none),(8,dI i0)],[(1000000,.box [.data TBy b,dI v0.1]),(9,.arr false aB v0.2)]⟩
abbrev LP47_0 (b:LI) (p:Int) (tables:LTb) (n:Int) (m:Nat) (st_:St) (K:KX):Prop:=True/\cI (s47_0 b p tables n) Z0 (tables.length:Int) (F.gO b p tables n) (fun v0:Int×LG=>True) (br (fun v0:Int×LG=>True->K (.exit 0) (⟨[(0,.ptr 1000000 0),(2,dI n),(7,.own 9 none)],[(1000000,.box [.data TBy b,dI v0.1]),(9,.arr false aB v0.2)]⟩:St)) (fun _=>False)) m st_
def L47 (b:LI) (p:Int) (tables:LTb) (n:Int):bE:=lp1 0 (LP47_0 b p tables n)
theorem vc47 (b:LI) (p:Int) (tables:LTb) (n:Int) (K:KA):vcT C47 (L47 b p tables n) ann47 f47 [.ptr 1000000 0,.data TTb tables,dI n] [(1000000,.box [.data TBy b,dI p])] .raw K =
 (∃m_,True/\cI (s47_0 b p tables n) Z0 (tables.length:Int) (F.gO b p tables n) (fun v0:Int×LG=>True) (br (fun v0:Int×LG=>True->cond ((decide (Z0<(v0.2.length:Int)))==true) ((Sm TBy b)/\(M.ay b)/\(0<=v0.1)/\(v0.1<=999000000000000)/\(LD (M.odd b v0.1 n) fun r1=>cond r1.1 ((Sm TBy b)/\(M.ay b)/\(0<=r1.2)/\(r1.2<=1000000000000000)/\(LD (M.pick b r1.2 Z3) fun r2=>cond (decide (r2.1=Z0)) ((Sm TBy b)/\(M.ay b)/\(0<=r2.2)/\(r2.2<=1000000000000000)/\(LD (M.pick b r2.2 Z6) fun r3=>(0<=Z0)/\(Z0<(v0.2.length:Int))/\(let y1:LG:=(v0.2.set Z0.toNat (wrap64 (r3.1-Z1),(nG v0.2 Z0).2));K (.own 0 none) [(0,.arr false aB y1),(1000000,.box [.data TBy b,dI r3.2])]))) (cond (decide (r2.1=Z1)) ((0<=Z0)/\(Z0<(v0.2.length:Int))/\(0<=Z0)/\(Z0<(v0.2.length:Int))/\Q0 ((Sm TBy b)/\(M.ay b)/\(0<=r2.2)/\(r2.2<=1000000000000000)/\(LD (M.pick b r2.2 ((nG v0.2 Z0).2.1.length:Int)) fun r4=>(0<=Z0)/\(Z0<=r4.1)/\(r4.1<=((nG v0.2 Z0).2.1.length:Int))/\(r4.1=r4.1)/\(0<=Z0)/\(Z0<(v0.2.length:Int))/\(let y2:LG:=(v0.2.set Z0.toNat ((nG v0.2 Z0).1,((aj (nG v0.2 Z0).2.1 (some (Z0,r4.1))),())));K (.own 0 none) [(0,.arr false aB y2),(1000000,.box [.data TBy b,dI r4.2])])))) ((0<=Z0)/\(Z0<(v0.2.length:Int))/\((v0.2.length+[(nG v0.2 Z0)].length) * 32<=lim)/\K (.own 0 none) [(0,.arr false aB (v0.2++[(nG v0.2 Z0)])),(1000000,.box [.data TBy b,dI r2.2])])))) (K (.own 0 none) [(0,.arr false aB v0.2),(1000000,.box [.data TBy b,dI r1.2])]))) (K (.own 0 none) [(0,.arr false aB v0.2),(1000000,.box [.data TBy b,dI v0.1])])) (fun _=>False)) m_ (s47_0 b p tables n Z0 (p,[]))):=by kernel_rfl
theorem lvc47_0 (b:LI) (p:Int) (tables:LTb) (n:Int)  (i0:Int) (v0:Int×LG) (m:Nat) (K:KX):lvT C47 (L47 b p tables n) ann47 f47 0 0 (s47_0 b p tables n i0 v0) m K =
 (cond (decide (i0<(tables.length:Int))) ((Sm TBy b)/\(M.ay b)/\(0<=v0.1)/\(v0.1<=1000000000000000)/\(LD (M.pick b v0.1 Z3) fun r5=>cond (decide (Z0<r5.1)) ((0<=i0)/\(i0<(tables.length:Int))/\(Sm TBy b)/\(Sm TCS (nT tables i0).1)/\(M.ay b)/\(0<=r5.2)/\(r5.2+40 * (M.eB Z2:Int)<=996000000000000)/\(Z2<=3)/\(Z2.toNat<64)/\(LD (M.bG 64 b r5.2 (nT tables i0).1 Z3 Z2) fun r6=>((v0.2.length+[(i0,(r6.1,()))].length) * 32<=lim)/\(nxT (LP47_0 b p tables n) m K (s47_0 b p tables n (wrap64 (i0+Z1)) (r6.2,(v0.2++[(i0,(r6.1,()))])))))) (nxT (LP47_0 b p tables n) m K (s47_0 b p tables n (wrap64 (i0+Z1)) (r5.2,v0.2))))) (K (.exit 0) (⟨[(0,.ptr 1000000 0),(2,dI n),(7,.own 9 none)],[(1000000,.box [.data TBy b,dI v0.1]),(9,.arr false aB v0.2)]⟩:St))):=by kernel_rfl
theorem con47_ok:bg P 47 c47:=bq C47 func47 (kC con35_ok (kC con76_ok (kC con92_ok kN))) fun args hp K h0=>by
 unfold c47 at h0
 dsimp only at h0
 obtain⟨b,p,rfl,h00⟩:=fk h0
 obtain⟨a0,a1,a2,rfl,_,h1⟩:=jk h00
 obtain⟨rfl,h2⟩:=cW h1
 obtain⟨tables,rfl,h3⟩:=bw h2
 obtain⟨n,rfl,h4⟩:=bw h3
 obtain⟨h_b,h_tables,p0,p1,p2,p3,hK⟩:=h4
 have h:ok (F.ir b p tables n) (fun r=>K (.own 0 none) [(0,.arr false aB r.1),(1000000,.box [.data TBy b,dI r.2])]):=az (F.vp b p tables n h_b h_tables p0 p1 p2 p3) (hK _ rfl)
 refine⟨rfl,ann47,(L47 b p tables n),.raw,(bA (i0:=0) (by kernel_rfl) ?_),?_⟩
 ·rintro _ _ K ⟨hc0,i0,v0,rfl,hl0,rfl,hv0,h⟩
  exact cast (lvc47_0 _ _ _ _ _ _ _ _).symm (cj h (fun ht0 h=>⟨h_b,(oG h fun g1 h=>(oG h fun _ h=>(oG h fun _ h=>(oL h fun _ _ h=>(oC h (fun _ h=>⟨hl0,⟨ht0,⟨h_b,⟨(aH h_tables i0).1,⟨g1,(oG h fun _ h=>(oG h fun _ h=>(oG h fun _ h=>(oG h fun _ h=>(oL h fun _ _ h=>(oG h fun _ h=>(aT (fun _ hm=>⟨hc0,hm⟩) _ rfl hl0 fS ht0 (aZ h_tables) trivial h)))))))⟩⟩⟩⟩⟩) fun _ h=>(aT (fun _ hm=>⟨hc0,hm⟩) _ rfl hl0 fS ht0 (aZ h_tables) trivial h))))))⟩) fun h=>(h trivial))
 ·rw[vc47]
  exact(bN (fun m hm=>⟨trivial,hm⟩) Z0 _ rfl (Int.natCast_nonneg 0) trivial (aU h (fun v0 h hv0=>(oC h (fun _ h=>⟨h_b,⟨p0,(oG h fun _ h=>(oG h fun _ h=>(oL h fun _ _ h=>(oC h (fun _ h=>⟨h_b,⟨p0,(oG h fun _ h=>(oG h fun _ h=>(oL h fun _ _ h=>(oC h (fun _ h=>⟨h_b,⟨p0,(oG h fun _ h=>(oG h fun _ h=>(oL h fun _ _ h=>⟨(Int.natCast_nonneg 0),(oG h fun _ h=>(have h:=cB h _ rfl;h))⟩)))⟩⟩) fun _ h=>(oC h (fun _ h=>⟨(Int.natCast_nonneg 0),(oG h fun g2 h=>⟨(Int.natCast_nonneg 0),⟨g2,(q0 (⟨h_b,⟨p0,(oG h fun _ h=>(oG h fun _ h=>(oL h fun _ _ h=>⟨(Int.natCast_nonneg 0),(oG h fun _ h=>(oG h fun _ h=>⟨rfl,⟨(Int.natCast_nonneg 0),⟨g2,(have h:=cB h _ rfl;h)⟩⟩⟩))⟩)))⟩⟩))⟩⟩)⟩) fun _ h=>⟨(Int.natCast_nonneg 0),(oG h fun _ h=>(oG h fun _ h=>h))⟩)))))⟩⟩) fun _ h=>h))))⟩⟩) fun _ h=>h)) (fun _ h=>h.elim)))
def c29:Con:=⟨[.dat TBy],fun args hp K=>g1 (pD TBy) (fun code=>(Sm TBy code)/\(M.ay code)/\(LD (M.cE code) fun r=>K (.tup [.data TTb r.1,.data TGS r.2.1,.data TSS r.2.2]) [])) args hp,.plain,false⟩
abbrev C29:Ctx:=cx [(33,c33),(47,c47)] 20 [(32,T32)] 0 false
def ann29:=an [[kp 1],[kp 32],[kp 224],[kp 28]] []
theorem vc29 (code:LI) (K:KA):vcT C29 aA ann29 f29 [.data TBy code] [] (.tup [TTb,TGS,TSS]) K =
 (cond (decide ((2000:Int)<(code.length:Int))) ((0<=Z0)/\(Z0<=(2000:Int))/\((2000:Int)<=(code.length:Int))/\((2000:Int)=(2000:Int))/\(Sm TBy (aj code (some (Z0,(2000:Int)))))/\(M.ay (aj code (some (Z0,(2000:Int)))))/\(0<=Z0)/\(Z0<=994000000000000)/\(LD (M.eS (aj code (some (Z0,(2000:Int)))) Z0) fun r1=>(Sm TBy (aj code (some (Z0,(2000:Int)))))/\(Sm TTb r1.1)/\(M.ay (aj code (some (Z0,(2000:Int)))))/\(0<=r1.2.2)/\(r1.2.2<=994000000000000)/\(r1.1.length<=3)/\(LD (M.fO (aj code (some (Z0,(2000:Int)))) r1.2.2 r1.1 (15:Int)) fun r2=>K (.tup [.data TTb r1.1,.data TGS r2.1,.data TSS r1.2.1]) []))) ((Sm TBy code)/\(M.ay code)/\(0<=Z0)/\(Z0<=994000000000000)/\(LD (M.eS code Z0) fun r1=>(Sm TBy code)/\(Sm TTb r1.1)/\(M.ay code)/\(0<=r1.2.2)/\(r1.2.2<=994000000000000)/\(r1.1.length<=3)/\(LD (M.fO code r1.2.2 r1.1 (15:Int)) fun r2=>K (.tup [.data TTb r1.1,.data TGS r2.1,.data TSS r1.2.1]) [])))):=by kernel_rfl
theorem con29_ok:bg P 29 c29:=bq C29 func29 (kC con33_ok (kC con47_ok (kI inlOk32 kN))) fun args hp K h0=>by
 obtain⟨code,rfl,rfl,h_code,p0,hK⟩:=g1e h0
 have h:ok (F.fu code) (fun r=>K (.tup [.data TTb r.1,.data TGS r.2.1,.data TSS r.2.2]) []):=az (F.rD code h_code p0) (hK _ rfl)
 refine⟨rfl,ann29,aA,(.tup [TTb,TGS,TSS]),(aG (by kernel_rfl)),?_⟩
 ·rw[vc29]
  exact(oC h (fun _ h=>⟨(Int.natCast_nonneg 0),(oG h fun _ h=>(oG h fun _ h=>⟨rfl,⟨(CJ h_code _),(oG h fun g1 h=>(oG h fun _ h=>(oG h fun _ h=>(oL h fun _ _ h=>⟨(CJ h_code _),(oG h fun _ h=>⟨g1,(oG h fun _ h=>(oG h fun _ h=>(oG h fun _ h=>(oL h fun _ _ h=>h))))⟩)⟩))))⟩⟩))⟩) fun _ h=>⟨h_code,⟨p0,(oG h fun _ h=>(oG h fun _ h=>(oL h fun _ _ h=>⟨h_code,(oG h fun _ h=>⟨p0,(oG h fun _ h=>(oG h fun _ h=>(oG h fun _ h=>(oL h fun _ _ h=>h))))⟩)⟩)))⟩⟩)
def c176:Con:=⟨[.dat TVS],fun args hp K=>g1 (pD TVS) (fun row=>(Sm TVS row)/\K (dB (M.oP row)) []) args hp,.plain,false⟩
abbrev C176:Ctx:=cx [(201,c201)] 19 [] 0 false
def ann176:=an [[kp 1],[kp 9],[kp 137],[kp 9],[kp 32777],[kp 4],[kp 4]] [[kp 1]]
abbrev s176_0 (row:LV) (i0:Int) (v0:Unit):St:=⟨[(0,.data TVS row),(3,dI i0)],[]⟩
abbrev LP176_0 (row:LV) (m:Nat) (st_:St) (K:KX):Prop:=True/\bF (t:=aa) (s176_0 row) row (F.kr row) (fun v0:Unit=>True) (br (fun v0:Unit=>True->K (.exit 0) (⟨[(0,.data TVS row)],[]⟩:St)) (fun q0:Unit=>K .ret (⟨[(2,dB false)],[]⟩:St))) m st_
def L176 (row:LV):bE:=lp1 0 (LP176_0 row)
theorem vc176 (row:LV) (K:KA):vcT C176 (L176 row) ann176 f176 [.data TVS row] [] (.dat Ty.bool) K =
 (∃m_,True/\bF (t:=aa) (s176_0 row) row (F.kr row) (fun v0:Unit=>True) (br (fun v0:Unit=>True->K (dB (decide ((row.length:Int)<=Z4))) []) (fun q0:Unit=>K (dB false) [])) m_ (s176_0 row Z0 ())):=by kernel_rfl
theorem lvc176_0 (row:LV)  (i0:Int) (v0:Unit) (m:Nat) (K:KX):lvT C176 (L176 row) ann176 f176 0 0 (s176_0 row i0 v0) m K =
 (cond (decide (i0<(row.length:Int))) ((0<=i0)/\(i0<(row.length:Int))/\(Sm aa (nV row i0))/\cond (!(M.aM (nV row i0))) (K .ret (⟨[(2,dB false)],[]⟩:St)) (nxT (LP176_0 row) m K (s176_0 row (wrap64 (i0+Z1)) ()))) (K (.exit 0) (⟨[(0,.data TVS row)],[]⟩:St))):=by kernel_rfl
theorem con176_ok:bg P 176 c176:=bq C176 func176 (kC con201_ok kN) fun args hp K h0=>by
 obtain⟨row,rfl,rfl,h_row,hK⟩:=g1e h0
 have h:ok (F.tT row) (fun r=>K (dB r) []):=az (F.Bu row h_row) hK
 refine⟨rfl,ann176,(L176 row),(.dat Ty.bool),(bA (i0:=0) (by kernel_rfl) ?_),?_⟩
 ·rintro _ _ K ⟨hc0,i0,v0,rfl,hl0,rfl,hv0,h⟩
  exact cast (lvc176_0 _ _ _ _ _).symm (bf (t:=aa) hl0 h (fun ht0 h=>⟨hl0,⟨ht0,⟨(aH h_row i0),(oC h (fun _ h=>h) fun _ h=>(aQ (t:=aa) (fun _ hm=>⟨hc0,hm⟩) _ rfl hl0 ht0 (aZ h_row) trivial h))⟩⟩⟩) fun h=>(h trivial))
 ·rw[vc176]
  exact(aR (t:=aa) (fun m hm=>⟨trivial,hm⟩) _ rfl trivial (aU h (fun v0 h hv0=>h) (fun q0 h=>h)))
def c133:Con:=⟨[.dat TCS,.dat TVS],fun args hp K=>g2 (pD TCS) (pD TVS) (fun columns row=>(Sm TCS columns)/\(Sm TVS row)/\K (dB (M.cF columns row)) []) args hp,.plain,false⟩
abbrev C133:Ctx:=cx [(134,c134),(176,c176)] 54 [] 0 false
def ann133:=an [[kp 3],[kp 1048579],[kp 16],[kp 35],[kp 16777251],[kp 35],[kp 9007199254741027],[kp 16],[kp 16]] [[kp 0]]
abbrev s133_0 (columns:LC) (row:LV) (i0:Int) (v0:Unit):St:=⟨[(0,.data TCS columns),(1,.data TVS row),(5,dI i0)],[]⟩
abbrev LP133_0 (columns:LC) (row:LV) (m:Nat) (st_:St) (K:KX):Prop:=True/\cI (s133_0 columns row) Z0 (row.length:Int) (F.je columns row) (fun v0:Unit=>True) (br (fun v0:Unit=>True->K (.exit 0) (⟨[],[]⟩:St)) (fun q0:Unit=>K .ret (⟨[(4,dB false)],[]⟩:St))) m st_
def L133 (columns:LC) (row:LV):bE:=lp1 0 (LP133_0 columns row)
theorem vc133 (columns:LC) (row:LV) (K:KA):vcT C133 (L133 columns row) ann133 f133 [.data TCS columns,.data TVS row] [] (.dat Ty.bool) K =
 ((Sm TCS columns)/\cond ((!(M.bJ columns))==false) ((Sm TVS row)/\cond ((!(M.oP row))==false) (cond (!decide ((row.length:Int)=(columns.length:Int))) (K (dB false) []) (∃m_,True/\cI (s133_0 columns row) Z0 (row.length:Int) (F.je columns row) (fun v0:Unit=>True) (br (fun v0:Unit=>True->K (dB true) []) (fun q0:Unit=>K (dB false) [])) m_ (s133_0 columns row Z0 ()))) (K (dB false) [])) (K (dB false) [])):=by kernel_rfl
theorem lvc133_0 (columns:LC) (row:LV)  (i0:Int) (v0:Unit) (m:Nat) (K:KX):lvT C133 (L133 columns row) ann133 f133 0 0 (s133_0 columns row i0 v0) m K =
 (cond (decide (i0<(row.length:Int))) ((0<=i0)/\(i0<(row.length:Int))/\(0<=i0)/\(i0<(columns.length:Int))/\cond ((!decide ((nV row i0).1=(nC columns i0).1))==true) ((0<=i0)/\(i0<(row.length:Int))/\cond ((!decide ((nV row i0).1=Z0))==false) ((0<=i0)/\(i0<(columns.length:Int))/\cond (!(nC columns i0).2.1) (K .ret (⟨[(4,dB false)],[]⟩:St)) (nxT (LP133_0 columns row) m K (s133_0 columns row (wrap64 (i0+Z1)) ()))) (K .ret (⟨[(4,dB false)],[]⟩:St))) (nxT (LP133_0 columns row) m K (s133_0 columns row (wrap64 (i0+Z1)) ()))) (K (.exit 0) (⟨[],[]⟩:St))):=by kernel_rfl
theorem con133_ok:bg P 133 c133:=bq C133 func133 (kC con134_ok (kC con176_ok kN)) fun args hp K h0=>by
 obtain⟨columns,row,rfl,rfl,h_columns,h_row,hK⟩:=g2e h0
 have h:ok (F.qk columns row) (fun r=>K (dB r) []):=az (F.yu columns row h_columns h_row) hK
 refine⟨rfl,ann133,(L133 columns row),(.dat Ty.bool),(bA (i0:=0) (by kernel_rfl) ?_),?_⟩
 ·rintro _ _ K ⟨hc0,i0,v0,rfl,hl0,rfl,hv0,h⟩
  exact cast (lvc133_0 _ _ _ _ _ _).symm (cj h (fun ht0 h=>⟨hl0,⟨ht0,⟨hl0,(oG h fun g1 h=>(oC h (fun _ h=>⟨hl0,⟨ht0,(oC h (fun _ h=>⟨hl0,⟨g1,(oC h (fun _ h=>h) fun _ h=>(aT (fun _ hm=>⟨hc0,hm⟩) _ rfl hl0 fS ht0 (aZ h_row) trivial h))⟩⟩) fun _ h=>h)⟩⟩) fun _ h=>(aT (fun _ hm=>⟨hc0,hm⟩) _ rfl hl0 fS ht0 (aZ h_row) trivial h)))⟩⟩⟩) fun h=>(h trivial))
 ·rw[vc133]
  exact⟨h_columns,(oC h (fun _ h=>⟨h_row,(oC h (fun _ h=>(oC h (fun _ h=>h) fun _ h=>(bN (fun m hm=>⟨trivial,hm⟩) Z0 _ rfl (Int.natCast_nonneg 0) trivial (aU h (fun v0 h hv0=>h) (fun q0 h=>h))))) fun _ h=>h)⟩) fun _ h=>h)⟩
def c82:Con:=⟨[.dat TCS,.dat (Ty.sl TVS)],fun args hp K=>g2 (pD TCS) (pD (Ty.sl TVS)) (fun columns rows=>(Sm TCS columns)/\(Sm (Ty.sl TVS) rows)/\K (dB (M.gA columns rows)) []) args hp,.plain,false⟩
abbrev C82:Ctx:=cx [(133,c133),(134,c134)] 21 [] 0 false
def ann82:=an [[kp 3],[kp 35],[kp 547],[kp 35],[kp 262179],[kp 16],[kp 16]] [[kp 1]]
abbrev s82_0 (columns:LC) (rows:(List LV)) (i0:Int) (v0:Unit):St:=⟨[(0,.data TCS columns),(1,.data (Ty.sl TVS) rows),(5,dI i0)],[]⟩
abbrev LP82_0 (columns:LC) (rows:(List LV)) (m:Nat) (st_:St) (K:KX):Prop:=True/\bF (t:=TVS) (s82_0 columns rows) rows (F.jF columns rows) (fun v0:Unit=>True) (br (fun v0:Unit=>True->K (.exit 0) (⟨[(0,.data TCS columns)],[]⟩:St)) (fun q0:Unit=>K .ret (⟨[(4,dB false)],[]⟩:St))) m st_
def L82 (columns:LC) (rows:(List LV)):bE:=lp1 0 (LP82_0 columns rows)
theorem vc82 (columns:LC) (rows:(List LV)) (K:KA):vcT C82 (L82 columns rows) ann82 f82 [.data TCS columns,.data (Ty.sl TVS) rows] [] (.dat Ty.bool) K =
 (∃m_,True/\bF (t:=TVS) (s82_0 columns rows) rows (F.jF columns rows) (fun v0:Unit=>True) (br (fun v0:Unit=>True->(Sm TCS columns)/\K (dB (M.bJ columns)) []) (fun q0:Unit=>K (dB false) [])) m_ (s82_0 columns rows Z0 ())):=by kernel_rfl
theorem lvc82_0 (columns:LC) (rows:(List LV))  (i0:Int) (v0:Unit) (m:Nat) (K:KX):lvT C82 (L82 columns rows) ann82 f82 0 0 (s82_0 columns rows i0 v0) m K =
 (cond (decide (i0<(rows.length:Int))) ((0<=i0)/\(i0<(rows.length:Int))/\(Sm TCS columns)/\(Sm TVS (nth (t:=TVS) rows i0))/\cond (!(M.cF columns (nth (t:=TVS) rows i0))) (K .ret (⟨[(4,dB false)],[]⟩:St)) (nxT (LP82_0 columns rows) m K (s82_0 columns rows (wrap64 (i0+Z1)) ()))) (K (.exit 0) (⟨[(0,.data TCS columns)],[]⟩:St))):=by kernel_rfl
theorem con82_ok:bg P 82 c82:=bq C82 func82 (kC con133_ok (kC con134_ok kN)) fun args hp K h0=>by
 obtain⟨columns,rows,rfl,rfl,h_columns,h_rows,hK⟩:=g2e h0
 have h:ok (F.rC columns rows) (fun r=>K (dB r) []):=az (F.Au columns rows h_columns h_rows) hK
 refine⟨rfl,ann82,(L82 columns rows),(.dat Ty.bool),(bA (i0:=0) (by kernel_rfl) ?_),?_⟩
 ·rintro _ _ K ⟨hc0,i0,v0,rfl,hl0,rfl,hv0,h⟩
  exact cast (lvc82_0 _ _ _ _ _ _).symm (bf (t:=TVS) hl0 h (fun ht0 h=>⟨hl0,⟨ht0,⟨h_columns,⟨(aH h_rows i0),(oC h (fun _ h=>h) fun _ h=>(aQ (t:=TVS) (fun _ hm=>⟨hc0,hm⟩) _ rfl hl0 ht0 (aZ h_rows) trivial h))⟩⟩⟩⟩) fun h=>(h trivial))
 ·rw[vc82]
  exact(aR (t:=TVS) (fun m hm=>⟨trivial,hm⟩) _ rfl trivial (aU h (fun v0 h hv0=>⟨h_columns,h⟩) (fun q0 h=>h)))
def c38:Con:=⟨[.dat TTb],fun args hp K=>g1 (pD TTb) (fun tables=>(Sm TTb tables)/\K (dB (M.bT tables)) []) args hp,.plain,false⟩
abbrev C38:Ctx:=cx [(82,c82)] 34 [] 0 false
def ann38:=an [[kp 1],[kp 9],[kp 137],[kp 9],[kp 1073741833],[kp 4],[kp 4]] [[kp 1]]
abbrev s38_0 (tables:LTb) (i0:Int) (v0:Unit):St:=⟨[(0,.data TTb tables),(3,dI i0)],[]⟩
abbrev LP38_0 (tables:LTb) (m:Nat) (st_:St) (K:KX):Prop:=True/\bF (t:=aq) (s38_0 tables) tables (F.iC tables) (fun v0:Unit=>True) (br (fun v0:Unit=>True->K (.exit 0) (⟨[(0,.data TTb tables)],[]⟩:St)) (fun q0:Unit=>K .ret (⟨[(2,dB false)],[]⟩:St))) m st_
def L38 (tables:LTb):bE:=lp1 0 (LP38_0 tables)
theorem vc38 (tables:LTb) (K:KA):vcT C38 (L38 tables) ann38 f38 [.data TTb tables] [] (.dat Ty.bool) K =
 (∃m_,True/\bF (t:=aq) (s38_0 tables) tables (F.iC tables) (fun v0:Unit=>True) (br (fun v0:Unit=>True->K (dB (decide ((tables.length:Int)<=Z3))) []) (fun q0:Unit=>K (dB false) [])) m_ (s38_0 tables Z0 ())):=by kernel_rfl
theorem lvc38_0 (tables:LTb)  (i0:Int) (v0:Unit) (m:Nat) (K:KX):lvT C38 (L38 tables) ann38 f38 0 0 (s38_0 tables i0 v0) m K =
 (cond (decide (i0<(tables.length:Int))) ((0<=i0)/\(i0<(tables.length:Int))/\cond ((decide (Z6<((nT tables i0).2.1.length:Int)))==false) ((0<=i0)/\(i0<(tables.length:Int))/\(0<=i0)/\(i0<(tables.length:Int))/\(Sm TCS (nT tables i0).1)/\(Sm (Ty.sl TVS) (nT tables i0).2.1)/\cond (!(M.gA (nT tables i0).1 (nT tables i0).2.1)) (K .ret (⟨[(2,dB false)],[]⟩:St)) (nxT (LP38_0 tables) m K (s38_0 tables (wrap64 (i0+Z1)) ()))) (K .ret (⟨[(2,dB false)],[]⟩:St))) (K (.exit 0) (⟨[(0,.data TTb tables)],[]⟩:St))):=by kernel_rfl
theorem con38_ok:bg P 38 c38:=bq C38 func38 (kC con82_ok kN) fun args hp K h0=>by
 obtain⟨tables,rfl,rfl,h_tables,hK⟩:=g1e h0
 have h:ok (F.oB tables) (fun r=>K (dB r) []):=az (F.vY tables h_tables) hK
 refine⟨rfl,ann38,(L38 tables),(.dat Ty.bool),(bA (i0:=0) (by kernel_rfl) ?_),?_⟩
 ·rintro _ _ K ⟨hc0,i0,v0,rfl,hl0,rfl,hv0,h⟩
  exact cast (lvc38_0 _ _ _ _ _).symm (bf (t:=aq) hl0 h (fun ht0 h=>⟨hl0,⟨ht0,(oC h (fun _ h=>⟨hl0,⟨ht0,⟨hl0,⟨ht0,⟨(aH h_tables i0).1,⟨(aH h_tables i0).2.1,(oC h (fun _ h=>h) fun _ h=>(aQ (t:=aq) (fun _ hm=>⟨hc0,hm⟩) _ rfl hl0 ht0 (aZ h_tables) trivial h))⟩⟩⟩⟩⟩⟩) fun _ h=>h)⟩⟩) fun h=>(h trivial))
 ·rw[vc38]
  exact(aR (t:=aq) (fun m hm=>⟨trivial,hm⟩) _ rfl trivial (aU h (fun v0 h hv0=>h) (fun q0 h=>h)))
def c11:Con:=⟨[.dat TTb,.dat TSS],fun args hp K=>g2 (pD TTb) (pD TSS) (fun tables plan=>(Sm TTb tables)/\(Sm TSS plan)/\K (dB (M.bK tables plan)) []) args hp,.plain,false⟩
abbrev C11:Ctx:=cx [(37,c37),(38,c38),(39,c39)] 23 [] 0 false
def ann11:=an [[kp 3],[kp 67],[kp 16]] []
theorem vc11 (tables:LTb) (plan:LS) (K:KA):vcT C11 aA ann11 f11 [.data TTb tables,.data TSS plan] [] (.dat Ty.bool) K =
 ((Sm TTb tables)/\(Sm TSS plan)/\(LD (M.cT tables plan) fun r1=>cond (r1.2==true) ((Sm TTb tables)/\cond ((M.bT tables)==true) (K (dB (M.inR (plan.length:Int) Z1 Z6)) []) (K (dB false) [])) (K (dB false) []))):=by kernel_rfl
theorem con11_ok:bg P 11 c11:=bq C11 func11 (kC con37_ok (kC con38_ok (kC con39_ok kN))) fun args hp K h0=>by
 obtain⟨tables,plan,rfl,rfl,h_tables,h_plan,hK⟩:=g2e h0
 have h:ok (F.rL tables plan) (fun r=>K (dB r) []):=az (F.zk tables plan h_tables h_plan) hK
 refine⟨rfl,ann11,aA,(.dat Ty.bool),(aG (by kernel_rfl)),?_⟩
 ·rw[vc11]
  exact⟨h_tables,⟨h_plan,(oL h fun _ _ h=>(oC h (fun _ h=>⟨h_tables,(oC h (fun _ h=>h) fun _ h=>h)⟩) fun _ h=>h))⟩⟩
def c186:Con:=⟨[.dat aE],fun args hp K=>g1 (pD aE) (fun truth=>(LD (M.valueOf truth) fun r=>K (.data aa r) [])) args hp,.plain,false⟩
abbrev C186:Ctx:=cx [] 12 [] 0 false
def ann186:=an [[kp 5],[kp 261],[kp 4],[kp 4]] []
theorem vc186 (truth:Int) (K:KA):vcT C186 aA ann186 f186 [dI truth] [] (.dat aa) K =
 (cond ((decide (truth=Z0))==false) (cond (decide (truth=Z1)) (K (.data aa (Z3,(truth,((⟨#[]⟩:ByteArray),())))) []) (K (.data aa (Z0,(Z0,((⟨#[]⟩:ByteArray),())))) [])) (K (.data aa (Z3,(truth,((⟨#[]⟩:ByteArray),())))) [])):=by kernel_rfl
theorem con186_ok:bg P 186 c186:=bq C186 func186 kN fun args hp K h0=>by
 obtain⟨truth,rfl,rfl,hK⟩:=g1e h0
 have h:ok (F.qc truth) (fun r=>K (.data aa r) []):=az (F.yy truth) (hK _ rfl)
 refine⟨rfl,ann186,aA,(.dat aa),(aG (by kernel_rfl)),?_⟩
 ·rw[vc186]
  exact(oC h (fun _ h=>(oC h (fun _ h=>h) fun _ h=>h)) fun _ h=>h)
def c212:Con:=⟨[.dat aa,.dat aa],fun args hp K=>g2 (pD aa) (pD aa) (fun a b=>(Sm aa a)/\(Sm aa b)/\(LD (M.sum a b) fun r=>K (.data aa r) [])) args hp,.plain,false⟩
abbrev C212:Ctx:=cx [(39,c39)] 27 [] 0 false
def ann212:=an [[.fixRow 2 aa,.fixRow 3 aa,kp 28],[kp 60],[kp 8388656],[kp 16],[kp 16]] []
theorem vc212 (a:aa.D) (b:aa.D) (K:KA):vcT C212 aA ann212 f212 [.data aa a,.data aa b] [] (.dat aa) K =
 (cond ((decide (a.1=Z0))==false) (cond ((decide (b.1=Z0))==false) (cond (!(M.inR (wrap64 (a.2.1+b.2.1)) (-9999:Int) (9999:Int))) (K (.data aa (Z0,(Z0,((⟨#[]⟩:ByteArray),())))) []) (K (.data aa (Z1,(wrap64 (a.2.1+b.2.1),((⟨#[]⟩:ByteArray),())))) [])) (K (.data aa (Z0,(Z0,((⟨#[]⟩:ByteArray),())))) [])) (K (.data aa (Z0,(Z0,((⟨#[]⟩:ByteArray),())))) [])):=by kernel_rfl
theorem con212_ok:bg P 212 c212:=bq C212 func212 (kC con39_ok kN) fun args hp K h0=>by
 obtain⟨a,b,rfl,rfl,h_a,h_b,hK⟩:=g2e h0
 have h:ok (F.tv a b) (fun r=>K (.data aa r) []):=az (F.Bc a b h_a h_b) (hK _ rfl)
 refine⟨rfl,ann212,aA,(.dat aa),(aG (by kernel_rfl)),?_⟩
 ·rw[vc212]
  exact(oC h (fun _ h=>(oC h (fun _ h=>(oC h (fun _ h=>h) fun _ h=>h)) fun _ h=>h)) fun _ h=>h)
def c218:Con:=⟨[.dat Ty.bool],fun args hp K=>g1 (pD Ty.bool) (fun b=>K (dI (M.bool b)) []) args hp,.plain,false⟩
abbrev C218:Ctx:=cx [] 4 [] 0 false
def ann218:=an [[kp 1],[kp 8],[kp 4],[kp 4]] []
theorem vc218 (b:Bool) (K:KA):vcT C218 aA ann218 f218 [dB b] [] (.dat aE) K =
 (cond b (K (dI Z1) []) (K (dI Z0) [])):=by kernel_rfl
theorem con218_ok:bg P 218 c218:=bq C218 func218 kN fun args hp K h0=>by
 obtain⟨b,rfl,rfl,hK⟩:=g1e h0
 have h:ok (F.rJ b) (fun r=>K (dI r) []):=az (F.zI b) hK
 refine⟨rfl,ann218,aA,(.dat aE),(aG (by kernel_rfl)),?_⟩
 ·rw[vc218]
  exact(oC h (fun _ h=>h) fun _ h=>h)
def c224:Con:=⟨[.dat aE,.dat aE],fun args hp K=>g2 (pD aE) (pD aE) (fun a b=>K (dI (M.less a b)) []) args hp,.plain,false⟩
abbrev C224:Ctx:=cx [] 8 [] 0 false
def ann224:=an [[kp 3],[kp 128],[kp 16],[kp 16]] []
theorem vc224 (a:Int) (b:Int) (K:KA):vcT C224 aA ann224 f224 [dI a,dI b] [] (.dat aE) K =
 (cond (decide (a<b)) (K (dI Z1) []) (K (dI Z0) [])):=by kernel_rfl
theorem con224_ok:bg P 224 c224:=bq C224 func224 kN fun args hp K h0=>by
 obtain⟨a,b,rfl,rfl,hK⟩:=g2e h0
 have h:ok (F.qX a b) (fun r=>K (dI r) []):=az (F.AJ a b) hK
 refine⟨rfl,ann224,aA,(.dat aE),(aG (by kernel_rfl)),?_⟩
 ·rw[vc224]
  exact(oC h (fun _ h=>h) fun _ h=>h)
def c225:Con:=⟨[.dat Ty.str,.dat Ty.str],fun args hp K=>g2 (pD Ty.str) (pD Ty.str) (fun a b=>(Sm Ty.str a)/\(Sm Ty.str b)/\K (dI (M.uB a b)) []) args hp,.plain,false⟩
abbrev C225:Ctx:=cx [] 11 [] 0 false
def ann225:=an [[kp 3],[kp 131],[kp 16],[kp 1024],[kp 16],[kp 16]] []
theorem vc225 (a:ByteArray) (b:ByteArray) (K:KA):vcT C225 aA ann225 f225 [.data Ty.str a,.data Ty.str b] [] (.dat aE) K =
 (cond (Op.bytesLess a.toList b.toList) (K (dI (-1:Int)) []) (cond (!(Op.bytesLess a.toList b.toList||decide (a=b))) (K (dI Z1) []) (K (dI Z0) []))):=by kernel_rfl
theorem con225_ok:bg P 225 c225:=bq C225 func225 kN fun args hp K h0=>by
 obtain⟨a,b,rfl,rfl,h_a,h_b,hK⟩:=g2e h0
 have h:ok (F.tS a b) (fun r=>K (dI r) []):=az (F.AX a b h_a h_b) hK
 refine⟨rfl,ann225,aA,(.dat aE),(aG (by kernel_rfl)),?_⟩
 ·rw[vc225]
  exact(oC h (fun _ h=>h) fun _ h=>(oC h (fun _ h=>h) fun _ h=>h))
def c221:Con:=⟨[.dat aa,.dat aa],fun args hp K=>g2 (pD aa) (pD aa) (fun a b=>(Sm aa a)/\(Sm aa b)/\K (dI (M.dZ a b)) []) args hp,.plain,false⟩
abbrev C221:Ctx:=cx [(201,c201),(224,c224),(225,c225)] 44 [] 0 false
def ann221:=an [[.fixRow 2 aa,.fixRow 3 aa,kp 12],[kp 4108],[kp 16],[kp 8204],[kp 16],[kp 67108876],[kp 16],[kp 16]] []
theorem vc221 (a:aa.D) (b:aa.D) (K:KA):vcT C221 aA ann221 f221 [.data aa a,.data aa b] [] (.dat aE) K =
 ((Sm aa a)/\cond ((!(M.aM a))==false) ((Sm aa b)/\cond (!(M.aM b)) (K (dI Z0) []) (cond (!decide (a.1=b.1)) (K (dI (wrap64 (wrap64 (Z2 * (M.less b.1 a.1))-Z1))) []) (cond (!decide (a.2.1=b.2.1)) (K (dI (wrap64 (wrap64 (Z2 * (M.less b.2.1 a.2.1))-Z1))) []) ((Sm Ty.str a.2.2.1)/\(Sm Ty.str b.2.2.1)/\K (dI (M.uB a.2.2.1 b.2.2.1)) [])))) (K (dI Z0) [])):=by kernel_rfl
theorem con221_ok:bg P 221 c221:=bq C221 func221 (kC con201_ok (kC con224_ok (kC con225_ok kN))) fun args hp K h0=>by
 obtain⟨a,b,rfl,rfl,h_a,h_b,hK⟩:=g2e h0
 have h:ok (F.lM a b) (fun r=>K (dI r) []):=az (F.tO a b h_a h_b) hK
 refine⟨rfl,ann221,aA,(.dat aE),(aG (by kernel_rfl)),?_⟩
 ·rw[vc221]
  exact⟨h_a,(oC h (fun _ h=>⟨h_b,(oC h (fun _ h=>h) fun _ h=>(oC h (fun _ h=>h) fun _ h=>(oC h (fun _ h=>h) fun _ h=>⟨h_a.2.2.1,⟨h_b.2.2.1,h⟩⟩)))⟩) fun _ h=>h)⟩
def c213:Con:=⟨[.dat aE,.dat aa,.dat aa],fun args hp K=>g3 (pD aE) (pD aa) (pD aa) (fun kind a b=>(Sm aa a)/\(Sm aa b)/\K (dI (M.compare kind a b)) []) args hp,.plain,false⟩
abbrev C213:Ctx:=cx [(39,c39),(201,c201),(218,c218),(221,c221)] 65 [] 0 false
def ann213:=an [[.fixRow 4 aa,.fixRow 5 aa,kp 49],[kp 177],[kp 64],[kp 2097201],[kp 64],[kp 1073741873],[kp 64],[kp 68719476785],[kp 64],[kp 17592186044465],[kp 64],[.keep [4,5,52]],[kp 64],[kp 64]] []
theorem vc213 (kind:Int) (a:aa.D) (b:aa.D) (K:KA):vcT C213 aA ann213 f213 [dI kind,.data aa a,.data aa b] [] (.dat aE) K =
 (cond ((!(M.inR kind Z1 Z4))==false) ((Sm aa a)/\cond ((!(M.aM a))==false) ((Sm aa b)/\cond (!(M.aM b)) (K (dI (-1:Int)) []) (cond ((decide (a.1=Z0))==false) (cond (decide (b.1=Z0)) (K (dI Z2) []) (cond (!decide (a.1=b.1)) (K (dI (-1:Int)) []) (cond (decide (kind=Z1)) ((Sm aa a)/\(Sm aa b)/\K (dI (M.bool (decide ((M.dZ a b)=Z0)))) []) (cond (decide (kind=Z2)) ((Sm aa a)/\(Sm aa b)/\K (dI (M.bool (!decide ((M.dZ a b)=Z0)))) []) (cond (decide (kind=Z3)) ((Sm aa a)/\(Sm aa b)/\K (dI (M.bool (decide ((M.dZ a b)<Z0)))) []) ((Sm aa a)/\(Sm aa b)/\K (dI (M.bool (decide ((M.dZ a b)<=Z0)))) [])))))) (K (dI Z2) []))) (K (dI (-1:Int)) [])) (K (dI (-1:Int)) [])):=by kernel_rfl
theorem con213_ok:bg P 213 c213:=bq C213 func213 (kC con39_ok (kC con201_ok (kC con218_ok (kC con221_ok kN)))) fun args hp K h0=>by
 obtain⟨kind,a,b,rfl,rfl,h_a,h_b,hK⟩:=g3e h0
 have h:ok (F.qq kind a b) (fun r=>K (dI r) []):=az (F.yx kind a b h_a h_b) hK
 refine⟨rfl,ann213,aA,(.dat aE),(aG (by kernel_rfl)),?_⟩
 ·rw[vc213]
  exact(oC h (fun _ h=>⟨h_a,(oC h (fun _ h=>⟨h_b,(oC h (fun _ h=>h) fun _ h=>(oC h (fun _ h=>(oC h (fun _ h=>h) fun _ h=>(oC h (fun _ h=>h) fun _ h=>(oC h (fun _ h=>⟨h_a,⟨h_b,h⟩⟩) fun _ h=>(oC h (fun _ h=>⟨h_a,⟨h_b,h⟩⟩) fun _ h=>(oC h (fun _ h=>⟨h_a,⟨h_b,h⟩⟩) fun _ h=>⟨h_a,⟨h_b,h⟩⟩)))))) fun _ h=>h))⟩) fun _ h=>h)⟩) fun _ h=>h)
def c222:Con:=⟨[.dat aE],fun args hp K=>g1 (pD aE) (fun n=>K (dB (M.inR n 0 2)) []) args hp,.plain,false⟩
abbrev C222:Ctx:=cx [(39,c39)] 5 [] 0 false
def ann222:=an [[kp 1],[kp 4]] []
theorem vc222 (n:Int) (K:KA):vcT C222 aA ann222 f222 [dI n] [] (.dat Ty.bool) K =
 (K (dB (M.inR n Z0 Z2)) []):=by kernel_rfl
theorem con222_ok:bg P 222 c222:=bq C222 func222 (kC con39_ok kN) fun args hp K h0=>by
 obtain⟨n,rfl,rfl,hK⟩:=g1e h0
 have h:ok (F.vk n) (fun r=>K (dB r) []):=az (F.yp n) hK
 refine⟨rfl,ann222,aA,(.dat Ty.bool),(aG (by kernel_rfl)),?_⟩
 ·rw[vc222]
  exact h
def c223:Con:=⟨[.dat aE],fun args hp K=>g1 (pD aE) (fun n=>(M.inR n 0 2=true)/\K (dI (M.sure n)) []) args hp,.plain,false⟩
abbrev C223:Ctx:=cx [] 7 [] 0 false
def ann223:=an [[kp 1],[kp 4]] []
theorem vc223 (n:Int) (K:KA):vcT C223 aA ann223 f223 [dI n] [] (.dat aE) K =
 ((0<=n)/\(n<([Z0,Z2,Z1].length:Int))/\K (dI (nI [Z0,Z2,Z1] n)) []):=by kernel_rfl
theorem con223_ok:bg P 223 c223:=bq C223 func223 kN fun args hp K h0=>by
 obtain⟨n,rfl,rfl,p0,hK⟩:=g1e h0
 have h:ok (F.rH n) (fun r=>K (dI r) []):=az (F.zL n p0) hK
 refine⟨rfl,ann223,aA,(.dat aE),(aG (by kernel_rfl)),?_⟩
 ·rw[vc223]
  exact(oG h fun _ h=>(oG h fun _ h=>h))
def c214:Con:=⟨[.dat aE,.dat aE],fun args hp K=>g2 (pD aE) (pD aE) (fun a b=>K (dI (M.rQ a b)) []) args hp,.plain,false⟩
abbrev C214:Ctx:=cx [(222,c222),(223,c223)] 19 [] 0 false
def ann214:=an [[kp 3],[kp 4099],[kp 16],[kp 16]] []
theorem vc214 (a:Int) (b:Int) (K:KA):vcT C214 aA ann214 f214 [dI a,dI b] [] (.dat aE) K =
 (cond ((!(M.inR a 0 2))==false) (cond (!(M.inR b 0 2)) (K (dI (-1:Int)) []) ((M.inR a 0 2=true)/\(M.inR b 0 2=true)/\(M.inR (Bj (M.sure a) (M.sure b)) 0 2=true)/\K (dI (M.sure (Bj (M.sure a) (M.sure b)))) [])) (K (dI (-1:Int)) [])):=by kernel_rfl
theorem con214_ok:bg P 214 c214:=bq C214 func214 (kC con222_ok (kC con223_ok kN)) fun args hp K h0=>by
 obtain⟨a,b,rfl,rfl,hK⟩:=g2e h0
 have h:ok (F.tQ a b) (fun r=>K (dI r) []):=az (F.Bf a b) hK
 refine⟨rfl,ann214,aA,(.dat aE),(aG (by kernel_rfl)),?_⟩
 ·rw[vc214]
  exact(oC h (fun b_1 h=>(oC h (fun _ h=>h) fun b_2 h=>⟨(bnf (bgt b_1)),⟨(bnf b_2),(oG h fun _ h=>h)⟩⟩)) fun _ h=>h)
def c215:Con:=⟨[.dat aa],fun args hp K=>g1 (pD aa) (fun v=>(Sm aa v)/\K (dI (M.cv v)) []) args hp,.plain,false⟩
abbrev C215:Ctx:=cx [(201,c201)] 23 [] 0 false
def ann215:=an [[.fixRow 1 aa,kp 2],[kp 10],[kp 4],[kp 131074],[kp 4],[kp 4]] []
theorem vc215 (v:aa.D) (K:KA):vcT C215 aA ann215 f215 [.data aa v] [] (.dat aE) K =
 ((Sm aa v)/\cond ((!(M.aM v))==false) (cond ((decide (v.1=Z1))==false) (cond (decide (v.1=Z2)) (K (dI (-1:Int)) []) (cond (decide (v.1=Z0)) (K (dI Z2) []) (K (dI v.2.1) []))) (K (dI (-1:Int)) [])) (K (dI (-1:Int)) [])):=by kernel_rfl
theorem con215_ok:bg P 215 c215:=bq C215 func215 (kC con201_ok kN) fun args hp K h0=>by
 obtain⟨v,rfl,rfl,h_v,hK⟩:=g1e h0
 have h:ok (F.qd v) (fun r=>K (dI r) []):=az (F.xW v h_v) hK
 refine⟨rfl,ann215,aA,(.dat aE),(aG (by kernel_rfl)),?_⟩
 ·rw[vc215]
  exact⟨h_v,(oC h (fun _ h=>(oC h (fun _ h=>(oC h (fun _ h=>h) fun _ h=>(oC h (fun _ h=>h) fun _ h=>h))) fun _ h=>h)) fun _ h=>h)⟩
def c216:Con:=⟨[.dat aE,.dat aE],fun args hp K=>g2 (pD aE) (pD aE) (fun a b=>K (dI (M.zV a b)) []) args hp,.plain,false⟩
abbrev C216:Ctx:=cx [(222,c222),(223,c223)] 19 [] 0 false
def ann216:=an [[kp 3],[kp 4099],[kp 16],[kp 16]] []
theorem vc216 (a:Int) (b:Int) (K:KA):vcT C216 aA ann216 f216 [dI a,dI b] [] (.dat aE) K =
 (cond ((!(M.inR a 0 2))==false) (cond (!(M.inR b 0 2)) (K (dI (-1:Int)) []) ((M.inR a 0 2=true)/\(M.inR b 0 2=true)/\(M.inR (bI (M.sure a) (M.sure b)) 0 2=true)/\K (dI (M.sure (bI (M.sure a) (M.sure b)))) [])) (K (dI (-1:Int)) [])):=by kernel_rfl
theorem con216_ok:bg P 216 c216:=bq C216 func216 (kC con222_ok (kC con223_ok kN)) fun args hp K h0=>by
 obtain⟨a,b,rfl,rfl,hK⟩:=g2e h0
 have h:ok (F.we a b) (fun r=>K (dI r) []):=az (F.CF a b) hK
 refine⟨rfl,ann216,aA,(.dat aE),(aG (by kernel_rfl)),?_⟩
 ·rw[vc216]
  exact(oC h (fun b_1 h=>(oC h (fun _ h=>h) fun b_2 h=>⟨(bnf (bgt b_1)),⟨(bnf b_2),(oG h fun _ h=>h)⟩⟩)) fun _ h=>h)
def c217:Con:=⟨[.dat aE],fun args hp K=>g1 (pD aE) (fun a=>K (dI (M.qU a)) []) args hp,.plain,false⟩
abbrev C217:Ctx:=cx [(222,c222),(223,c223)] 10 [] 0 false
def ann217:=an [[kp 1],[kp 33],[kp 4],[kp 4]] []
theorem vc217 (a:Int) (K:KA):vcT C217 aA ann217 f217 [dI a] [] (.dat aE) K =
 (cond (!(M.inR a 0 2)) (K (dI (-1:Int)) []) ((M.inR a 0 2=true)/\(M.inR (wrap64 (Z2-(M.sure a))) 0 2=true)/\K (dI (M.sure (wrap64 (Z2-(M.sure a))))) [])):=by kernel_rfl
theorem con217_ok:bg P 217 c217:=bq C217 func217 (kC con222_ok (kC con223_ok kN)) fun args hp K h0=>by
 obtain⟨a,rfl,rfl,hK⟩:=g1e h0
 have h:ok (F.tu a) (fun r=>K (dI r) []):=az (F.Bx a) hK
 refine⟨rfl,ann217,aA,(.dat aE),(aG (by kernel_rfl)),?_⟩
 ·rw[vc217]
  exact(oC h (fun _ h=>h) fun b_1 h=>⟨(bnf b_1),(oG h fun _ h=>h)⟩)
def c204:Con:=⟨[.dat TVS,.mv,.dat aC],fun args hp K=>hpN 0 false aa (fun values=>uM (fun a0 a1 a2=>eV TVS a0 fun row=>FP 0 a1 (eV aC a2 fun p=>(Sm TVS row)/\(Sm TVS values)/\(Sm aC p)/\(values.length<=1000)/\(M.takes p<=(values.length:Int))/\(1<=p.1/\p.1<=8)/\(M.nr p row.length)/\(LD (M.fm row values p) fun r=>K (.own 0 none) [(0,.arr false aa r)]))) args []) hp,.mv,false⟩
abbrev C204:Ctx:=cx [(186,c186),(212,c212),(213,c213),(214,c214),(215,c215),(216,c216),(217,c217),(218,c218)] 145 [] 0 true
def ann204:=an [[.fixRow 5 aC,kp 35],[kp 163],[kp 2211],[kp 6307],[kp 64],[kp 526499],[kp 64],[kp 536873122],[kp 64],[kp 281474976712866],[kp 64],[.keep [1,7,11,70]],[kp 64],[.keep [1,7,11,92]],[kp 64],[.keep [1,7,114]],[kp 64],[kp 64]] []
theorem vc204 (row:LV) (values:LV) (p:aC.D) (K:KA):vcT C204 aA ann204 f204 [.data TVS row,.own 0 none,.data aC p] [(0,.arr false aa values)] .raw K =
 (cond (decide (p.1=Z1)) (((values.length+[p.2.2.1].length) * 32<=lim)/\K (.own 0 none) [(0,.arr false aa (values++[p.2.2.1]))]) (cond (decide (p.1=Z2)) ((0<=p.2.1)/\(p.2.1<(row.length:Int))/\((values.length+[(nV row p.2.1)].length) * 32<=lim)/\K (.own 0 none) [(0,.arr false aa (values++[(nV row p.2.1)]))]) (cond (decide (p.1=Z3)) ((0<=Z0)/\(Z0<=wrap64 ((values.length:Int)-Z2))/\(wrap64 ((values.length:Int)-Z2)<=(values.length:Int))/\(wrap64 ((values.length:Int)-Z2)=wrap64 ((values.length:Int)-Z2))/\(0<=wrap64 ((values.length:Int)-Z2))/\(wrap64 ((values.length:Int)-Z2)<(values.length:Int))/\(0<=wrap64 ((values.length:Int)-Z1))/\(wrap64 ((values.length:Int)-Z1)<(values.length:Int))/\(Sm aa (nV values (wrap64 ((values.length:Int)-Z2))))/\(Sm aa (nV values (wrap64 ((values.length:Int)-Z1))))/\(LD (M.sum (nV values (wrap64 ((values.length:Int)-Z2))) (nV values (wrap64 ((values.length:Int)-Z1)))) fun r1=>(Z0=0)/\(((wrap64 ((values.length:Int)-Z2)).toNat+[r1].length) * 32<=lim)/\K (.own 0 none) [(0,.arr false aa (values.take (wrap64 ((values.length:Int)-Z2)).toNat++[r1]))])) (cond (decide (p.1=Z4)) ((0<=Z0)/\(Z0<=wrap64 ((values.length:Int)-Z2))/\(wrap64 ((values.length:Int)-Z2)<=(values.length:Int))/\(wrap64 ((values.length:Int)-Z2)=wrap64 ((values.length:Int)-Z2))/\(0<=wrap64 ((values.length:Int)-Z2))/\(wrap64 ((values.length:Int)-Z2)<(values.length:Int))/\(0<=wrap64 ((values.length:Int)-Z1))/\(wrap64 ((values.length:Int)-Z1)<(values.length:Int))/\(Sm aa (nV values (wrap64 ((values.length:Int)-Z2))))/\(Sm aa (nV values (wrap64 ((values.length:Int)-Z1))))/\(LD (M.valueOf (M.compare p.2.1 (nV values (wrap64 ((values.length:Int)-Z2))) (nV values (wrap64 ((values.length:Int)-Z1))))) fun r2=>(Z0=0)/\(((wrap64 ((values.length:Int)-Z2)).toNat+[r2].length) * 32<=lim)/\K (.own 0 none) [(0,.arr false aa (values.take (wrap64 ((values.length:Int)-Z2)).toNat++[r2]))])) (cond (decide (p.1=Z5)) ((0<=Z0)/\(Z0<=wrap64 ((values.length:Int)-Z2))/\(wrap64 ((values.length:Int)-Z2)<=(values.length:Int))/\(wrap64 ((values.length:Int)-Z2)=wrap64 ((values.length:Int)-Z2))/\(0<=wrap64 ((values.length:Int)-Z2))/\(wrap64 ((values.length:Int)-Z2)<(values.length:Int))/\(0<=wrap64 ((values.length:Int)-Z1))/\(wrap64 ((values.length:Int)-Z1)<(values.length:Int))/\(Sm aa (nV values (wrap64 ((values.length:Int)-Z2))))/\(Sm aa (nV values (wrap64 ((values.length:Int)-Z1))))/\(LD (M.valueOf (M.rQ (M.cv (nV values (wrap64 ((values.length:Int)-Z2)))) (M.cv (nV values (wrap64 ((values.length:Int)-Z1)))))) fun r3=>(Z0=0)/\(((wrap64 ((values.length:Int)-Z2)).toNat+[r3].length) * 32<=lim)/\K (.own 0 none) [(0,.arr false aa (values.take (wrap64 ((values.length:Int)-Z2)).toNat++[r3]))])) (cond (decide (p.1=Z6)) ((0<=Z0)/\(Z0<=wrap64 ((values.length:Int)-Z2))/\(wrap64 ((values.length:Int)-Z2)<=(values.length:Int))/\(wrap64 ((values.length:Int)-Z2)=wrap64 ((values.length:Int)-Z2))/\(0<=wrap64 ((values.length:Int)-Z2))/\(wrap64 ((values.length:Int)-Z2)<(values.length:Int))/\(0<=wrap64 ((values.length:Int)-Z1))/\(wrap64 ((values.length:Int)-Z1)<(values.length:Int))/\(Sm aa (nV values (wrap64 ((values.length:Int)-Z2))))/\(Sm aa (nV values (wrap64 ((values.length:Int)-Z1))))/\(LD (M.valueOf (M.zV (M.cv (nV values (wrap64 ((values.length:Int)-Z2)))) (M.cv (nV values (wrap64 ((values.length:Int)-Z1)))))) fun r4=>(Z0=0)/\(((wrap64 ((values.length:Int)-Z2)).toNat+[r4].length) * 32<=lim)/\K (.own 0 none) [(0,.arr false aa (values.take (wrap64 ((values.length:Int)-Z2)).toNat++[r4]))])) (cond (decide (p.1=(7:Int))) ((0<=Z0)/\(Z0<=wrap64 ((values.length:Int)-Z1))/\(wrap64 ((values.length:Int)-Z1)<=(values.length:Int))/\(wrap64 ((values.length:Int)-Z1)=wrap64 ((values.length:Int)-Z1))/\(0<=wrap64 ((values.length:Int)-Z1))/\(wrap64 ((values.length:Int)-Z1)<(values.length:Int))/\(Sm aa (nV values (wrap64 ((values.length:Int)-Z1))))/\(LD (M.valueOf (M.qU (M.cv (nV values (wrap64 ((values.length:Int)-Z1)))))) fun r5=>(Z0=0)/\(((wrap64 ((values.length:Int)-Z1)).toNat+[r5].length) * 32<=lim)/\K (.own 0 none) [(0,.arr false aa (values.take (wrap64 ((values.length:Int)-Z1)).toNat++[r5]))])) ((0<=Z0)/\(Z0<=wrap64 ((values.length:Int)-Z1))/\(wrap64 ((values.length:Int)-Z1)<=(values.length:Int))/\(wrap64 ((values.length:Int)-Z1)=wrap64 ((values.length:Int)-Z1))/\(0<=wrap64 ((values.length:Int)-Z1))/\(wrap64 ((values.length:Int)-Z1)<(values.length:Int))/\(LD (M.valueOf (M.bool (decide ((nV values (wrap64 ((values.length:Int)-Z1))).1=Z0)))) fun r6=>(Z0=0)/\(((wrap64 ((values.length:Int)-Z1)).toNat+[r6].length) * 32<=lim)/\K (.own 0 none) [(0,.arr false aa (values.take (wrap64 ((values.length:Int)-Z1)).toNat++[r6]))]))))))))):=by kernel_rfl
theorem con204_ok:bg P 204 c204:=bq C204 func204 (kC con186_ok (kC con212_ok (kC con213_ok (kC con214_ok (kC con215_ok (kC con216_ok (kC con217_ok (kC con218_ok kN)))))))) fun args hp K h0=>by
 unfold c204 at h0
 dsimp only at h0
 obtain⟨values,rfl,h00⟩:=DS (n:=0) (d:=false) (t:=aa) h0
 obtain⟨a0,a1,a2,rfl,_,h1⟩:=jk h00
 obtain⟨row,rfl,h2⟩:=bw h1
 obtain⟨rfl,h3⟩:=Ad h2
 obtain⟨p,rfl,h4⟩:=bw h3
 obtain⟨h_row,h_values,h_p,p0,p1,p2,p3,hK⟩:=h4
 have h:ok (F.sC row values p) (fun r=>K (.own 0 none) [(0,.arr false aa r)]):=az (F.Ci row values p h_row h_values h_p p0 p1 p2 p3) (hK _ rfl)
 refine⟨rfl,ann204,aA,.raw,(aG (by kernel_rfl)),?_⟩
 ·rw[vc204]
  exact(oC h (fun _ h=>⟨(kG h_values (CG h_p.2.2.1) rfl),h⟩) fun _ h=>(oC h (fun _ h=>(oG h fun _ h=>(oG h fun _ h=>⟨(kG h_values (CG (aH h_row p.2.1)) rfl),h⟩))) fun _ h=>(oC h (fun _ h=>⟨(Int.natCast_nonneg 0),(oG h fun _ h=>(oG h fun _ h=>⟨rfl,(oG h fun _ h=>(oG h fun _ h=>(oG h fun _ h=>(oG h fun _ h=>⟨(aH h_values (wrap64 ((values.length:Int)-Z2))),⟨(aH h_values (wrap64 ((values.length:Int)-Z1))),(oL h fun _ _ h=>⟨rfl,(oG h fun _ h=>h)⟩)⟩⟩))))⟩))⟩) fun _ h=>(oC h (fun _ h=>⟨(Int.natCast_nonneg 0),(oG h fun _ h=>(oG h fun _ h=>⟨rfl,(oG h fun _ h=>(oG h fun _ h=>(oG h fun _ h=>(oG h fun _ h=>⟨(aH h_values (wrap64 ((values.length:Int)-Z2))),⟨(aH h_values (wrap64 ((values.length:Int)-Z1))),(oL h fun _ _ h=>⟨rfl,(oG h fun _ h=>h)⟩)⟩⟩))))⟩))⟩) fun _ h=>(oC h (fun _ h=>⟨(Int.natCast_nonneg 0),(oG h fun _ h=>(oG h fun _ h=>⟨rfl,(oG h fun _ h=>(oG h fun _ h=>(oG h fun _ h=>(oG h fun _ h=>⟨(aH h_values (wrap64 ((values.length:Int)-Z2))),⟨(aH h_values (wrap64 ((values.length:Int)-Z1))),(oL h fun _ _ h=>⟨rfl,(oG h fun _ h=>h)⟩)⟩⟩))))⟩))⟩) fun _ h=>(oC h (fun _ h=>⟨(Int.natCast_nonneg 0),(oG h fun _ h=>(oG h fun _ h=>⟨rfl,(oG h fun _ h=>(oG h fun _ h=>(oG h fun _ h=>(oG h fun _ h=>⟨(aH h_values (wrap64 ((values.length:Int)-Z2))),⟨(aH h_values (wrap64 ((values.length:Int)-Z1))),(oL h fun _ _ h=>⟨rfl,(oG h fun _ h=>h)⟩)⟩⟩))))⟩))⟩) fun _ h=>(oC h (fun _ h=>⟨(Int.natCast_nonneg 0),(oG h fun _ h=>(oG h fun _ h=>⟨rfl,(oG h fun _ h=>(oG h fun _ h=>⟨(aH h_values (wrap64 ((values.length:Int)-Z1))),(oL h fun _ _ h=>⟨rfl,(oG h fun _ h=>h)⟩)⟩))⟩))⟩) fun _ h=>⟨(Int.natCast_nonneg 0),(oG h fun _ h=>(oG h fun _ h=>⟨rfl,(oG h fun _ h=>(oG h fun _ h=>(oL h fun _ _ h=>⟨rfl,(oG h fun _ h=>h)⟩)))⟩))⟩)))))))
def c185:Con:=⟨[.dat TVS,.dat TPS],fun args hp K=>g2 (pD TVS) (pD TPS) (fun row e=>(Sm TVS row)/\(Sm TPS e)/\(M.bX row.length e)/\(LD (M.fF row e) fun r=>K (.data aa r) [])) args hp,.plain,false⟩
abbrev C185:Ctx:=cx [(204,c204)] 24 [] 0 false
def ann185:=an [[kp 19],[kp 51],[kp 115],[kp 2163],[kp 115],[kp 115],[kp 16]] [[kp 48]]
abbrev s185_0 (row:LV) (e:LPt) (i0:Int) (v0:LV):St:=⟨[(0,.data TVS row),(1,.data TPS e),(4,.ptr 4 0),(5,.own 7 none),(6,dI i0)],[(4,.box [dI Z0,dI Z0,.data Ty.str (⟨#[]⟩:ByteArray)]),(7,.arr false aa v0)]⟩
abbrev LP185_0 (row:LV) (e:LPt) (m:Nat) (st_:St) (K:KX):Prop:=True/\bF (t:=aC) (s185_0 row e) e (F.eZ row e) (fun v0:LV=>True) (br (fun v0:LV=>True->K (.exit 0) (⟨[(4,.ptr 4 0),(5,.own 7 none)],[(4,.box [dI Z0,dI Z0,.data Ty.str (⟨#[]⟩:ByteArray)]),(7,.arr false aa v0)]⟩:St)) (fun _=>False)) m st_
def L185 (row:LV) (e:LPt):bE:=lp1 0 (LP185_0 row e)
theorem vc185 (row:LV) (e:LPt) (K:KA):vcT C185 (L185 row e) ann185 f185 [.data TVS row,.data TPS e] [] (.dat aa) K =
 (∃m_,True/\bF (t:=aC) (s185_0 row e) e (F.eZ row e) (fun v0:LV=>True) (br (fun v0:LV=>True->(0<=Z0)/\(Z0<(v0.length:Int))/\K (.data aa (nV v0 Z0)) []) (fun _=>False)) m_ (s185_0 row e Z0 [])):=by kernel_rfl
theorem lvc185_0 (row:LV) (e:LPt)  (i0:Int) (v0:LV) (m:Nat) (K:KX):lvT C185 (L185 row e) ann185 f185 0 0 (s185_0 row e i0 v0) m K =
 (cond (decide (i0<(e.length:Int))) ((0<=i0)/\(i0<(e.length:Int))/\(Sm TVS row)/\(Sm TVS v0)/\(Sm aC (nP e i0))/\(v0.length<=1000)/\(M.takes (nP e i0)<=(v0.length:Int))/\(1<=(nP e i0).1/\(nP e i0).1<=8)/\(M.nr (nP e i0) row.length)/\(LD (M.fm row v0 (nP e i0)) fun r1=>(nxT (LP185_0 row e) m K (s185_0 row e (wrap64 (i0+Z1)) r1)))) (K (.exit 0) (⟨[(4,.ptr 4 0),(5,.own 7 none)],[(4,.box [dI Z0,dI Z0,.data Ty.str (⟨#[]⟩:ByteArray)]),(7,.arr false aa v0)]⟩:St))):=by kernel_rfl
theorem con185_ok:bg P 185 c185:=bq C185 func185 (kC con204_ok kN) fun args hp K h0=>by
 obtain⟨row,e,rfl,rfl,h_row,h_e,p0,hK⟩:=g2e h0
 have h:ok (F.pV row e) (fun r=>K (.data aa r) []):=az (F.yJ row e h_row h_e p0) (hK _ rfl)
 refine⟨rfl,ann185,(L185 row e),(.dat aa),(bA (i0:=0) (by kernel_rfl) ?_),?_⟩
 ·rintro _ _ K ⟨hc0,i0,v0,rfl,hl0,rfl,hv0,h⟩
  exact cast (lvc185_0 _ _ _ _ _ _).symm (bf (t:=aC) hl0 h (fun ht0 h=>⟨hl0,⟨ht0,⟨h_row,(oG h fun _ h=>⟨(aH h_e i0),(oG h fun _ h=>(oG h fun _ h=>(oG h fun _ h=>(oG h fun _ h=>(oL h fun _ _ h=>(aQ (t:=aC) (fun _ hm=>⟨hc0,hm⟩) _ rfl hl0 ht0 (aZ h_e) trivial h))))))⟩)⟩⟩⟩) fun h=>(h trivial))
 ·rw[vc185]
  exact(aR (t:=aC) (fun m hm=>⟨trivial,hm⟩) _ rfl trivial (aU h (fun v0 h hv0=>⟨(Int.natCast_nonneg 0),(oG h fun _ h=>h)⟩) (fun _ h=>h.elim)))
def c149:Con:=⟨[.dat TVS,.dat TPS],fun args hp K=>g2 (pD TVS) (pD TPS) (fun row e=>(Sm TVS row)/\(Sm TPS e)/\(M.bX row.length e)/\K (dB (M.holds row e)) []) args hp,.plain,false⟩
abbrev C149:Ctx:=cx [(185,c185),(186,c186)] 10 [] 0 false
def ann149:=an [[kp 3],[kp 16]] []
theorem vc149 (row:LV) (e:LPt) (K:KA):vcT C149 aA ann149 f149 [.data TVS row,.data TPS e] [] (.dat Ty.bool) K =
 ((Sm TVS row)/\(Sm TPS e)/\(M.bX row.length e)/\(LD (M.fF row e) fun r1=>(LD (M.valueOf Z1) fun r2=>K (dB (Ty.beq aa r1 r2)) []))):=by kernel_rfl
theorem con149_ok:bg P 149 c149:=bq C149 func149 (kC con185_ok (kC con186_ok kN)) fun args hp K h0=>by
 obtain⟨row,e,rfl,rfl,h_row,h_e,p0,hK⟩:=g2e h0
 have h:ok (F.vG row e) (fun r=>K (dB r) []):=az (F.xY row e h_row h_e p0) hK
 refine⟨rfl,ann149,aA,(.dat Ty.bool),(aG (by kernel_rfl)),?_⟩
 ·rw[vc149]
  exact⟨h_row,⟨h_e,⟨p0,(oL h fun _ _ h=>(oL h fun _ _ h=>h))⟩⟩⟩
def c150:Con:=⟨[.dat TVS,.dat (Ty.sl aE)],fun args hp K=>g2 (pD TVS) (pD (Ty.sl aE)) (fun row list=>(Sm TVS row)/\(Sm (Ty.sl aE) list)/\(M.sY row list)/\(LD (M.taken row list) fun r=>K (.own 0 none) [(0,.arr false aa r)])) args hp,.plain,false⟩
abbrev C150:Ctx:=cx [] 25 [] 0 false
def ann150:=an [[kp 3],[kp 35],[kp 99],[kp 2147],[kp 99],[kp 99],[kp 16]] [[kp 32]]
abbrev s150_0 (row:LV) (list:LI) (i0:Int) (v0:LV):St:=⟨[(0,.data TVS row),(1,.data (Ty.sl aE) list),(5,.own 7 none),(6,dI i0)],[(7,.arr false aa v0)]⟩
abbrev LP150_0 (row:LV) (list:LI) (m:Nat) (st_:St) (K:KX):Prop:=True/\bF (t:=aE) (s150_0 row list) list (F.jc row list) (fun v0:LV=>True) (br (fun v0:LV=>True->K (.exit 0) (⟨[(5,.own 7 none)],[(7,.arr false aa v0)]⟩:St)) (fun _=>False)) m st_
def L150 (row:LV) (list:LI):bE:=lp1 0 (LP150_0 row list)
theorem vc150 (row:LV) (list:LI) (K:KA):vcT C150 (L150 row list) ann150 f150 [.data TVS row,.data (Ty.sl aE) list] [] .raw K =
 (∃m_,True/\bF (t:=aE) (s150_0 row list) list (F.jc row list) (fun v0:LV=>True) (br (fun v0:LV=>True->K (.own 0 none) [(0,.arr false aa v0)]) (fun _=>False)) m_ (s150_0 row list Z0 [])):=by kernel_rfl
theorem lvc150_0 (row:LV) (list:LI)  (i0:Int) (v0:LV) (m:Nat) (K:KX):lvT C150 (L150 row list) ann150 f150 0 0 (s150_0 row list i0 v0) m K =
 (cond (decide (i0<(list.length:Int))) ((0<=i0)/\(i0<(list.length:Int))/\(0<=(nI list i0))/\((nI list i0)<(row.length:Int))/\((v0.length+[(nV row (nI list i0))].length) * 32<=lim)/\(nxT (LP150_0 row list) m K (s150_0 row list (wrap64 (i0+Z1)) (v0++[(nV row (nI list i0))])))) (K (.exit 0) (⟨[(5,.own 7 none)],[(7,.arr false aa v0)]⟩:St))):=by kernel_rfl
theorem con150_ok:bg P 150 c150:=bq C150 func150 kN fun args hp K h0=>by
 obtain⟨row,list,rfl,rfl,h_row,h_list,p0,hK⟩:=g2e h0
 have h:ok (F.qi row list) (fun r=>K (.own 0 none) [(0,.arr false aa r)]):=az (F.yb row list h_row h_list p0) (hK _ rfl)
 refine⟨rfl,ann150,(L150 row list),.raw,(bA (i0:=0) (by kernel_rfl) ?_),?_⟩
 ·rintro _ _ K ⟨hc0,i0,v0,rfl,hl0,rfl,hv0,h⟩
  exact cast (lvc150_0 _ _ _ _ _ _).symm (bf (t:=aE) hl0 h (fun ht0 h=>⟨hl0,⟨ht0,(oG h fun _ h=>(oG h fun _ h=>(oG h fun _ h=>(aQ (t:=aE) (fun _ hm=>⟨hc0,hm⟩) _ rfl hl0 ht0 (aZ h_list) trivial h))))⟩⟩) fun h=>(h trivial))
 ·rw[vc150]
  exact(aR (t:=aE) (fun m hm=>⟨trivial,hm⟩) _ rfl trivial (aU h (fun v0 h hv0=>h) (fun _ h=>h.elim)))
def c151:Con:=⟨[.dat TVS,.dat TVS],fun args hp K=>g2 (pD TVS) (pD TVS) (fun a b=>(Sm TVS a)/\(Sm TVS b)/\(LD (a++b) fun r=>K (.own 0 none) [(0,.arr false aa r)])) args hp,.plain,false⟩
abbrev C151:Ctx:=cx [(94,c94)] 9 [] 0 false
def ann151:=an [[kp 3],[kp 16]] []
theorem vc151 (a:LV) (b:LV) (K:KA):vcT C151 aA ann151 f151 [.data TVS a,.data TVS b] [] .raw K =
 ((Sm TVS a)/\(LD a fun r1=>((r1.length+b.length) * 32<=lim)/\K (.own 0 none) [(0,.arr false aa (r1++b))])):=by kernel_rfl
theorem con151_ok:bg P 151 c151:=bq C151 func151 (kC con94_ok kN) fun args hp K h0=>by
 obtain⟨a,b,rfl,rfl,h_a,h_b,hK⟩:=g2e h0
 have h:ok (F.oH a b) (fun r=>K (.own 0 none) [(0,.arr false aa r)]):=az (F.wo a b h_a h_b) (hK _ rfl)
 refine⟨rfl,ann151,aA,.raw,(aG (by kernel_rfl)),?_⟩
 ·rw[vc151]
  exact⟨h_a,(oL h fun _ _ h=>(oG h fun _ h=>h))⟩
def c205:Con:=⟨[.dat TVS,.dat TVS],fun args hp K=>g2 (pD TVS) (pD TVS) (fun a b=>(Sm TVS a)/\(Sm TVS b)/\K (dB (decide (a=b))) []) args hp,.plain,false⟩
abbrev C205:Ctx:=cx [] 26 [] 0 false
def ann205:=an [[kp 3],[kp 1027],[kp 16],[kp 35],[kp 16419],[kp 35],[kp 33554467],[kp 16],[kp 16]] [[kp 0]]
abbrev s205_0 (a:LV) (b:LV) (i0:Int) (v0:Unit):St:=⟨[(0,.data TVS a),(1,.data TVS b),(5,dI i0)],[]⟩
abbrev LP205_0 (a:LV) (b:LV) (m:Nat) (st_:St) (K:KX):Prop:=True/\cI (s205_0 a b) Z0 (a.length:Int) (F.jB a b) (fun v0:Unit=>True) (br (fun v0:Unit=>True->K (.exit 0) (⟨[],[]⟩:St)) (fun q0:Unit=>K .ret (⟨[(4,dB false)],[]⟩:St))) m st_
def L205 (a:LV) (b:LV):bE:=lp1 0 (LP205_0 a b)
theorem vc205 (a:LV) (b:LV) (K:KA):vcT C205 (L205 a b) ann205 f205 [.data TVS a,.data TVS b] [] (.dat Ty.bool) K =
 (cond (!decide ((a.length:Int)=(b.length:Int))) (K (dB false) []) (∃m_,True/\cI (s205_0 a b) Z0 (a.length:Int) (F.jB a b) (fun v0:Unit=>True) (br (fun v0:Unit=>True->K (dB true) []) (fun q0:Unit=>K (dB false) [])) m_ (s205_0 a b Z0 ()))):=by kernel_rfl
theorem lvc205_0 (a:LV) (b:LV)  (i0:Int) (v0:Unit) (m:Nat) (K:KX):lvT C205 (L205 a b) ann205 f205 0 0 (s205_0 a b i0 v0) m K =
 (cond (decide (i0<(a.length:Int))) ((0<=i0)/\(i0<(a.length:Int))/\(0<=i0)/\(i0<(b.length:Int))/\cond (!(Ty.beq aa (nV a i0) (nV b i0))) (K .ret (⟨[(4,dB false)],[]⟩:St)) (nxT (LP205_0 a b) m K (s205_0 a b (wrap64 (i0+Z1)) ()))) (K (.exit 0) (⟨[],[]⟩:St))):=by kernel_rfl
theorem con205_ok:bg P 205 c205:=bq C205 func205 kN fun args hp K h0=>by
 obtain⟨a,b,rfl,rfl,h_a,h_b,hK⟩:=g2e h0
 have h:ok (F.xy a b) (fun r=>K (dB r) []):=az (F.Ap a b h_a h_b) hK
 refine⟨rfl,ann205,(L205 a b),(.dat Ty.bool),(bA (i0:=0) (by kernel_rfl) ?_),?_⟩
 ·rintro _ _ K ⟨hc0,i0,v0,rfl,hl0,rfl,hv0,h⟩
  exact cast (lvc205_0 _ _ _ _ _ _).symm (cj h (fun ht0 h=>⟨hl0,⟨ht0,⟨hl0,(oG h fun _ h=>(oC h (fun _ h=>h) fun _ h=>(aT (fun _ hm=>⟨hc0,hm⟩) _ rfl hl0 fS ht0 (aZ h_a) trivial h)))⟩⟩⟩) fun h=>(h trivial))
 ·rw[vc205]
  exact(oC h (fun _ h=>h) fun _ h=>(bN (fun m hm=>⟨trivial,hm⟩) Z0 _ rfl (Int.natCast_nonneg 0) trivial (aU h (fun v0 h hv0=>h) (fun q0 h=>h))))
def c187:Con:=⟨[.lent TVS,.dat TVS],fun args hp K=>g2 (pB TVS) (pD TVS) (fun rows row=>(Sm (Ty.sl TVS) rows)/\(Sm TVS row)/\K (dI (M.dH rows row:Int)) []) args hp,.plain,false⟩
abbrev C187:Ctx:=cx [(205,c205)] 22 [] 0 false
def ann187:=an [[kp 3],[kp 35],[kp 99],[kp 1123],[kp 99],[kp 262243],[kp 99],[kp 16]] [[kp 32]]
abbrev s187_0 (rows:(List LV)) (row:LV) (i0:Int) (v0:Int):St:=⟨[(0,.brw TVS rows),(1,.data TVS row),(5,dI v0),(6,dI i0)],[]⟩
abbrev LP187_0 (rows:(List LV)) (row:LV) (m:Nat) (st_:St) (K:KX):Prop:=True/\bF (t:=TVS) (s187_0 rows row) rows (F.gm rows row) (fun v0:Int=>True) (br (fun v0:Int=>True->K (.exit 0) (⟨[(5,dI v0)],[]⟩:St)) (fun _=>False)) m st_
def L187 (rows:(List LV)) (row:LV):bE:=lp1 0 (LP187_0 rows row)
theorem vc187 (rows:(List LV)) (row:LV) (K:KA):vcT C187 (L187 rows row) ann187 f187 [.brw TVS rows,.data TVS row] [] (.dat aE) K =
 (∃m_,True/\bF (t:=TVS) (s187_0 rows row) rows (F.gm rows row) (fun v0:Int=>True) (br (fun v0:Int=>True->K (dI v0) []) (fun _=>False)) m_ (s187_0 rows row Z0 Z0)):=by kernel_rfl
theorem lvc187_0 (rows:(List LV)) (row:LV)  (i0:Int) (v0:Int) (m:Nat) (K:KX):lvT C187 (L187 rows row) ann187 f187 0 0 (s187_0 rows row i0 v0) m K =
 (cond (decide (i0<(rows.length:Int))) ((0<=i0)/\(i0<(rows.length:Int))/\(Sm TVS (nth (t:=TVS) rows i0))/\(Sm TVS row)/\cond (decide ((nth (t:=TVS) rows i0)=row)) (nxT (LP187_0 rows row) m K (s187_0 rows row (wrap64 (i0+Z1)) (wrap64 (v0+Z1)))) (nxT (LP187_0 rows row) m K (s187_0 rows row (wrap64 (i0+Z1)) v0))) (K (.exit 0) (⟨[(5,dI v0)],[]⟩:St))):=by kernel_rfl
theorem con187_ok:bg P 187 c187:=bq C187 func187 (kC con205_ok kN) fun args hp K h0=>by
 obtain⟨rows,row,rfl,rfl,h_rows,h_row,hK⟩:=g2e h0
 have h:ok (F.qt rows row) (fun r=>K (dI r) []):=az (F.yj rows row h_rows h_row) hK
 refine⟨rfl,ann187,(L187 rows row),(.dat aE),(bA (i0:=0) (by kernel_rfl) ?_),?_⟩
 ·rintro _ _ K ⟨hc0,i0,v0,rfl,hl0,rfl,hv0,h⟩
  exact cast (lvc187_0 _ _ _ _ _ _).symm (bf (t:=TVS) hl0 h (fun ht0 h=>⟨hl0,⟨ht0,⟨(aH h_rows i0),⟨h_row,(oC h (fun _ h=>(aQ (t:=TVS) (fun _ hm=>⟨hc0,hm⟩) _ rfl hl0 ht0 (aZ h_rows) trivial h)) fun _ h=>(aQ (t:=TVS) (fun _ hm=>⟨hc0,hm⟩) _ rfl hl0 ht0 (aZ h_rows) trivial h))⟩⟩⟩⟩) fun h=>(h trivial))
 ·rw[vc187]
  exact(aR (t:=TVS) (fun m hm=>⟨trivial,hm⟩) _ rfl trivial (aU h (fun v0 h hv0=>h) (fun _ h=>h.elim)))
def c152:Con:=⟨[.dat (Ty.sl TVS)],fun args hp K=>g1 (pD (Ty.sl TVS)) (fun rows=>(Sm (Ty.sl TVS) rows)/\(LD (M.eO rows) fun r=>K (.own 0 none) [(0,.arr false TVS r)])) args hp,.plain,false⟩
abbrev C152:Ctx:=cx [(94,c94),(187,c187)] 28 [] 0 false
def ann152:=an [[kp 1],[kp 9],[kp 25],[kp 537],[kp 25],[kp 262169],[kp 25],[kp 4]] [[kp 8]]
abbrev s152_0 (rows:(List LV)) (i0:Int) (v0:(List LV)):St:=⟨[(0,.data (Ty.sl TVS) rows),(3,.own 5 none),(4,dI i0)],[(5,.arr false TVS v0)]⟩
abbrev LP152_0 (rows:(List LV)) (m:Nat) (st_:St) (K:KX):Prop:=True/\bF (t:=TVS) (s152_0 rows) rows (F.fE rows) (fun v0:(List LV)=>True) (br (fun v0:(List LV)=>True->K (.exit 0) (⟨[(3,.own 5 none)],[(5,.arr false TVS v0)]⟩:St)) (fun _=>False)) m st_
def L152 (rows:(List LV)):bE:=lp1 0 (LP152_0 rows)
theorem vc152 (rows:(List LV)) (K:KA):vcT C152 (L152 rows) ann152 f152 [.data (Ty.sl TVS) rows] [] .raw K =
 (∃m_,True/\bF (t:=TVS) (s152_0 rows) rows (F.fE rows) (fun v0:(List LV)=>True) (br (fun v0:(List LV)=>True->K (.own 0 none) [(0,.arr false TVS v0)]) (fun _=>False)) m_ (s152_0 rows Z0 [])):=by kernel_rfl
theorem lvc152_0 (rows:(List LV))  (i0:Int) (v0:(List LV)) (m:Nat) (K:KX):lvT C152 (L152 rows) ann152 f152 0 0 (s152_0 rows i0 v0) m K =
 (cond (decide (i0<(rows.length:Int))) ((0<=i0)/\(i0<(rows.length:Int))/\(Sm (Ty.sl TVS) v0)/\(Sm TVS (nth (t:=TVS) rows i0))/\cond (decide ((M.dH v0 (nth (t:=TVS) rows i0):Int)=Z0)) ((0<=i0)/\(i0<(rows.length:Int))/\(Sm TVS (nth (t:=TVS) rows i0))/\(LD (nth (t:=TVS) rows i0) fun r1=>((v0.length+[r1].length) * 24<=lim)/\(nxT (LP152_0 rows) m K (s152_0 rows (wrap64 (i0+Z1)) (v0++[r1]))))) (nxT (LP152_0 rows) m K (s152_0 rows (wrap64 (i0+Z1)) v0))) (K (.exit 0) (⟨[(3,.own 5 none)],[(5,.arr false TVS v0)]⟩:St))):=by kernel_rfl
theorem con152_ok:bg P 152 c152:=bq C152 func152 (kC con94_ok (kC con187_ok kN)) fun args hp K h0=>by
 obtain⟨rows,rfl,rfl,h_rows,hK⟩:=g1e h0
 have h:ok (F.nQ rows) (fun r=>K (.own 0 none) [(0,.arr false TVS r)]):=az (F.xe rows h_rows) (hK _ rfl)
 refine⟨rfl,ann152,(L152 rows),.raw,(bA (i0:=0) (by kernel_rfl) ?_),?_⟩
 ·rintro _ _ K ⟨hc0,i0,v0,rfl,hl0,rfl,hv0,h⟩
  exact cast (lvc152_0 _ _ _ _ _).symm (bf (t:=TVS) hl0 h (fun ht0 h=>⟨hl0,⟨ht0,(oG h fun _ h=>⟨(aH h_rows i0),(oC h (fun _ h=>⟨hl0,⟨ht0,⟨(aH h_rows i0),(oL h fun _ _ h=>(oG h fun _ h=>(aQ (t:=TVS) (fun _ hm=>⟨hc0,hm⟩) _ rfl hl0 ht0 (aZ h_rows) trivial h)))⟩⟩⟩) fun _ h=>(aQ (t:=TVS) (fun _ hm=>⟨hc0,hm⟩) _ rfl hl0 ht0 (aZ h_rows) trivial h))⟩)⟩⟩) fun h=>(h trivial))
 ·rw[vc152]
  exact(aR (t:=TVS) (fun m hm=>⟨trivial,hm⟩) _ rfl trivial (aU h (fun v0 h hv0=>h) (fun _ h=>h.elim)))
def c101:Con:=⟨[.dat TTb,.lent (Ty.sl TVS),.dat ah],fun args hp K=>g3 (pD TTb) (pB (Ty.sl TVS)) (pD ah) (fun tables ahead s=>(Sm TTb tables)/\(Sm (Ty.sl (Ty.sl TVS)) ahead)/\(Sm ah s)/\(M.kA tables ahead s)/\(LD (M.bP tables ahead s) fun r=>K (.data (Ty.sl TVS) r) [])) args hp,.plain,false⟩
abbrev C101:Ctx:=cx [(94,c94),(149,c149),(150,c150),(151,c151),(152,c152)] 208 [] 0 false
def ann101:=an [[.fixRow 5 ah,kp 35],[kp 163],[kp 262307],[kp 786595],[kp 417],[kp 536871329],[kp 417],[kp 417],[kp 35184372351138],[kp 674],[kp 18014398509482658],[kp 674],[.keep [1,5,7,9,67]],[kp 674],[.keep [1,5,7,18,80]],[kp 1186],[.keep [1,5,7,10,89]],[kp 1186],[kp 1186],[.keep [1,5,7,18,106]],[kp 2210],[.keep [1,5,7,11,115]],[kp 2210],[kp 6306],[.keep [1,5,7,11,12,125]],[kp 6306],[kp 14498],[.keep [1,5,7,11,12,13,148]],[kp 6306],[.keep [1,5,7,18,153]],[kp 16546],[.keep [1,5,7,14,162]],[kp 16546],[kp 16546],[kp 32930],[.keep [1,5,7,15,184]],[kp 32930],[kp 32930],[.keep [1,5,7,199]],[kp 128],[kp 64]] [[],[kp 128],[],[kp 128],[],[kp 128],[],[kp 128],[],[kp 2210],[],[kp 162],[],[kp 128]]
abbrev s101_1 (tables:LTb) (ahead:(List (List LV))) (s:ah.D) (v1:Int×(List LV)):St:=⟨[(0,.data TTb tables),(5,.adr ah s),(7,.own 16 none),(8,dI v1.1)],[(16,.arr false TVS v1.2)]⟩
abbrev LP101_1 (tables:LTb) (ahead:(List (List LV))) (s:ah.D) (m:Nat) (st_:St) (K:KX):Prop:=True/\di (s101_1 tables ahead s) (F.gX tables ahead s) (fun v1:Int×(List LV)=>True) (fun e1:(List LV)=>True->K (.exit 1) (⟨[(7,.own 16 none)],[(16,.arr false TVS e1)]⟩:St)) m st_
abbrev s101_3 (tables:LTb) (ahead:(List (List LV))) (s:ah.D) (v3:Int×(List LV)):St:=⟨[(1,.brw (Ty.sl TVS) ahead),(5,.adr ah s),(7,.own 16 none),(9,dI v3.1)],[(16,.arr false TVS v3.2)]⟩
abbrev LP101_3 (tables:LTb) (ahead:(List (List LV))) (s:ah.D) (m:Nat) (st_:St) (K:KX):Prop:=True/\di (s101_3 tables ahead s) (F.gU tables ahead s) (fun v3:Int×(List LV)=>True) (fun e3:(List LV)=>True->K (.exit 3) (⟨[(7,.own 16 none)],[(16,.arr false TVS e3)]⟩:St)) m st_
abbrev s101_5 (tables:LTb) (ahead:(List (List LV))) (s:ah.D) (v5:Int×(List LV)):St:=⟨[(1,.brw (Ty.sl TVS) ahead),(5,.adr ah s),(7,.own 16 none),(10,dI v5.1)],[(16,.arr false TVS v5.2)]⟩
abbrev LP101_5 (tables:LTb) (ahead:(List (List LV))) (s:ah.D) (m:Nat) (st_:St) (K:KX):Prop:=True/\di (s101_5 tables ahead s) (F.iq tables ahead s) (fun v5:Int×(List LV)=>True) (fun e5:(List LV)=>True->K (.exit 5) (⟨[(7,.own 16 none)],[(16,.arr false TVS e5)]⟩:St)) m st_
abbrev s101_7 (tables:LTb) (ahead:(List (List LV))) (s:ah.D) (v7:Int×(List LV)):St:=⟨[(1,.brw (Ty.sl TVS) ahead),(5,.adr ah s),(7,.own 16 none),(11,dI v7.1)],[(16,.arr false TVS v7.2)]⟩
abbrev LP101_7 (tables:LTb) (ahead:(List (List LV))) (s:ah.D) (m:Nat) (st_:St) (K:KX):Prop:=True/\di (s101_7 tables ahead s) (F.gW tables ahead s) (fun v7:Int×(List LV)=>True) (fun e7:(List LV)=>True->K (.exit 7) (⟨[(7,.own 16 none)],[(16,.arr false TVS e7)]⟩:St)) m st_
abbrev s101_9 (tables:LTb) (ahead:(List (List LV))) (s:ah.D) (c9_0:Int) (v9:Int×(List LV)):St:=⟨[(1,.brw (Ty.sl TVS) ahead),(5,.adr ah s),(7,.own 16 none),(11,dI c9_0),(12,dI v9.1)],[(16,.arr false TVS v9.2)]⟩
abbrev LP101_9 (tables:LTb) (ahead:(List (List LV))) (s:ah.D) (m:Nat) (st_:St) (K:KX):Prop:=∃c9_0:Int,True/\di (s101_9 tables ahead s c9_0) (F.hO tables ahead s c9_0) (fun v9:Int×(List LV)=>True) (fun e9:(List LV)=>True->K (.exit 9) (⟨[(1,.brw (Ty.sl TVS) ahead),(5,.adr ah s),(7,.own 16 none),(11,dI c9_0)],[(16,.arr false TVS e9)]⟩:St)) m st_
abbrev s101_11 (tables:LTb) (ahead:(List (List LV))) (s:ah.D) (v11:Int×(List LV)):St:=⟨[(1,.brw (Ty.sl TVS) ahead),(5,.adr ah s),(7,.own 16 none),(14,dI v11.1)],[(16,.arr false TVS v11.2)]⟩
abbrev LP101_11 (tables:LTb) (ahead:(List (List LV))) (s:ah.D) (m:Nat) (st_:St) (K:KX):Prop:=True/\di (s101_11 tables ahead s) (F.gi tables ahead s) (fun v11:Int×(List LV)=>True) (fun e11:(List LV)=>True->K (.exit 11) (⟨[(1,.brw (Ty.sl TVS) ahead),(5,.adr ah s),(7,.own 16 none)],[(16,.arr false TVS e11)]⟩:St)) m st_
abbrev s101_13 (tables:LTb) (ahead:(List (List LV))) (s:ah.D) (v13:Int×(List LV)):St:=⟨[(1,.brw (Ty.sl TVS) ahead),(5,.adr ah s),(7,.own 16 none),(15,dI v13.1)],[(16,.arr false TVS v13.2)]⟩
abbrev LP101_13 (tables:LTb) (ahead:(List (List LV))) (s:ah.D) (m:Nat) (st_:St) (K:KX):Prop:=True/\di (s101_13 tables ahead s) (F.gq tables ahead s) (fun v13:Int×(List LV)=>True) (fun e13:(List LV)=>True->K (.exit 13) (⟨[(7,.own 16 none)],[(16,.arr false TVS e13)]⟩:St)) m st_
def L101 (tables:LTb) (ahead:(List (List LV))) (s:ah.D):bE:=fun id m st_ K=>match id with
 | 1=>LP101_1 tables ahead s m st_ K
 | 3=>LP101_3 tables ahead s m st_ K
 | 5=>LP101_5 tables ahead s m st_ K
 | 7=>LP101_7 tables ahead s m st_ K
 | 9=>LP101_9 tables ahead s m st_ K
 | 11=>LP101_11 tables ahead s m st_ K
 | 13=>LP101_13 tables ahead s m st_ K
 | _=>False
theorem vc101 (tables:LTb) (ahead:(List (List LV))) (s:ah.D) (K:KA):vcT C101 (L101 tables ahead s) ann101 f101 [.data TTb tables,.brw (Ty.sl TVS) ahead,.data ah s] [] (.dat (Ty.sl TVS)) K =
 (cond (decide (s.1=Z1)) (∃m_,True/\di (s101_1 tables ahead s) (F.gX tables ahead s) (fun v1:Int×(List LV)=>True) (fun e1:(List LV)=>True->K (.data (Ty.sl TVS) e1) []) m_ (s101_1 tables ahead s (Z0,[]))) (cond (decide (s.1=Z2)) (∃m_,True/\di (s101_3 tables ahead s) (F.gU tables ahead s) (fun v3:Int×(List LV)=>True) (fun e3:(List LV)=>True->K (.data (Ty.sl TVS) e3) []) m_ (s101_3 tables ahead s (Z0,[]))) (cond (decide (s.1=Z3)) (∃m_,True/\di (s101_5 tables ahead s) (F.iq tables ahead s) (fun v5:Int×(List LV)=>True) (fun e5:(List LV)=>True->K (.data (Ty.sl TVS) e5) []) m_ (s101_5 tables ahead s (Z0,[]))) (cond (decide (s.1=Z4)) (∃m_,True/\di (s101_7 tables ahead s) (F.gW tables ahead s) (fun v7:Int×(List LV)=>True) (fun e7:(List LV)=>True->K (.data (Ty.sl TVS) e7) []) m_ (s101_7 tables ahead s (Z0,[]))) (cond (decide (s.1=Z5)) (∃m_,True/\di (s101_11 tables ahead s) (F.gi tables ahead s) (fun v11:Int×(List LV)=>True) (fun e11:(List LV)=>True->(∃m_,True/\di (s101_13 tables ahead s) (F.gq tables ahead s) (fun v13:Int×(List LV)=>True) (fun e13:(List LV)=>True->K (.data (Ty.sl TVS) e13) []) m_ (s101_13 tables ahead s (Z0,e11)))) m_ (s101_11 tables ahead s (Z0,[]))) (cond (decide (s.1=Z6)) ((0<=s.2.1)/\(s.2.1<(ahead.length:Int))/\(Sm (Ty.sl TVS) (nth (t:=(Ty.sl TVS)) ahead s.2.1))/\(LD (M.eO (nth (t:=(Ty.sl TVS)) ahead s.2.1)) fun r1=>K (.data (Ty.sl TVS) r1) [])) (K (.data (Ty.sl TVS) []) []))))))):=by kernel_rfl
theorem lvc101_0 (tables:LTb) (ahead:(List (List LV))) (s:ah.D)  (v1:Int×(List LV)) (m:Nat) (K:KX):lvT C101 (L101 tables ahead s) ann101 f101 0 1 (s101_1 tables ahead s v1) m K =
 ((0<=s.2.2.2.1)/\(s.2.2.2.1<(tables.length:Int))/\cond (decide (v1.1<((nT tables s.2.2.2.1).2.1.length:Int))) ((0<=s.2.2.2.1)/\(s.2.2.2.1<(tables.length:Int))/\(0<=v1.1)/\(v1.1<((nT tables s.2.2.2.1).2.1.length:Int))/\(Sm TVS (nth (t:=TVS) (nT tables s.2.2.2.1).2.1 v1.1))/\(LD (nth (t:=TVS) (nT tables s.2.2.2.1).2.1 v1.1) fun r2=>((v1.2.length+[r2].length) * 24<=lim)/\(nxT (LP101_1 tables ahead s) m K (s101_1 tables ahead s (wrap64 (v1.1+Z1),(v1.2++[r2])))))) (K (.exit 1) (⟨[(7,.own 16 none)],[(16,.arr false TVS v1.2)]⟩:St))):=by kernel_rfl
theorem lvc101_1 (tables:LTb) (ahead:(List (List LV))) (s:ah.D)  (v3:Int×(List LV)) (m:Nat) (K:KX):lvT C101 (L101 tables ahead s) ann101 f101 1 3 (s101_3 tables ahead s v3) m K =
 ((0<=s.2.1)/\(s.2.1<(ahead.length:Int))/\cond (decide (v3.1<((nth (t:=(Ty.sl TVS)) ahead s.2.1).length:Int))) ((0<=s.2.1)/\(s.2.1<(ahead.length:Int))/\(0<=v3.1)/\(v3.1<((nth (t:=(Ty.sl TVS)) ahead s.2.1).length:Int))/\(Sm TVS (nth (t:=TVS) (nth (t:=(Ty.sl TVS)) ahead s.2.1) v3.1))/\(Sm TPS s.2.2.2.2.1)/\(M.bX (nth (t:=TVS) (nth (t:=(Ty.sl TVS)) ahead s.2.1) v3.1).length s.2.2.2.2.1)/\cond (M.holds (nth (t:=TVS) (nth (t:=(Ty.sl TVS)) ahead s.2.1) v3.1) s.2.2.2.2.1) ((0<=s.2.1)/\(s.2.1<(ahead.length:Int))/\(0<=v3.1)/\(v3.1<((nth (t:=(Ty.sl TVS)) ahead s.2.1).length:Int))/\(Sm TVS (nth (t:=TVS) (nth (t:=(Ty.sl TVS)) ahead s.2.1) v3.1))/\(LD (nth (t:=TVS) (nth (t:=(Ty.sl TVS)) ahead s.2.1) v3.1) fun r3=>((v3.2.length+[r3].length) * 24<=lim)/\(nxT (LP101_3 tables ahead s) m K (s101_3 tables ahead s (wrap64 (v3.1+Z1),(v3.2++[r3])))))) (nxT (LP101_3 tables ahead s) m K (s101_3 tables ahead s (wrap64 (v3.1+Z1),v3.2)))) (K (.exit 3) (⟨[(7,.own 16 none)],[(16,.arr false TVS v3.2)]⟩:St))):=by kernel_rfl
theorem lvc101_2 (tables:LTb) (ahead:(List (List LV))) (s:ah.D)  (v5:Int×(List LV)) (m:Nat) (K:KX):lvT C101 (L101 tables ahead s) ann101 f101 2 5 (s101_5 tables ahead s v5) m K =
 ((0<=s.2.1)/\(s.2.1<(ahead.length:Int))/\cond (decide (v5.1<((nth (t:=(Ty.sl TVS)) ahead s.2.1).length:Int))) ((0<=s.2.1)/\(s.2.1<(ahead.length:Int))/\(0<=v5.1)/\(v5.1<((nth (t:=(Ty.sl TVS)) ahead s.2.1).length:Int))/\(Sm TVS (nth (t:=TVS) (nth (t:=(Ty.sl TVS)) ahead s.2.1) v5.1))/\(Sm (Ty.sl aE) s.2.2.2.2.2.1)/\(M.sY (nth (t:=TVS) (nth (t:=(Ty.sl TVS)) ahead s.2.1) v5.1) s.2.2.2.2.2.1)/\(LD (M.taken (nth (t:=TVS) (nth (t:=(Ty.sl TVS)) ahead s.2.1) v5.1) s.2.2.2.2.2.1) fun r4=>((v5.2.length+[r4].length) * 24<=lim)/\(nxT (LP101_5 tables ahead s) m K (s101_5 tables ahead s (wrap64 (v5.1+Z1),(v5.2++[r4])))))) (K (.exit 5) (⟨[(7,.own 16 none)],[(16,.arr false TVS v5.2)]⟩:St))):=by kernel_rfl
theorem lvc101_3 (tables:LTb) (ahead:(List (List LV))) (s:ah.D)  (v7:Int×(List LV)) (m:Nat) (K:KX):lvT C101 (L101 tables ahead s) ann101 f101 3 7 (s101_7 tables ahead s v7) m K =
 ((0<=s.2.1)/\(s.2.1<(ahead.length:Int))/\cond (decide (v7.1<((nth (t:=(Ty.sl TVS)) ahead s.2.1).length:Int))) (∃m_,∃c9_0:Int,True/\di (s101_9 tables ahead s c9_0) (F.hO tables ahead s c9_0) (fun v9:Int×(List LV)=>True) (fun e9:(List LV)=>True->(nxT (LP101_7 tables ahead s) m K (s101_7 tables ahead s (wrap64 (c9_0+Z1),e9)))) m_ (s101_9 tables ahead s v7.1 (Z0,v7.2))) (K (.exit 7) (⟨[(7,.own 16 none)],[(16,.arr false TVS v7.2)]⟩:St))):=by kernel_rfl
theorem lvc101_4 (tables:LTb) (ahead:(List (List LV))) (s:ah.D) (c9_0:Int) (v9:Int×(List LV)) (m:Nat) (K:KX):lvT C101 (L101 tables ahead s) ann101 f101 4 9 (s101_9 tables ahead s c9_0 v9) m K =
 ((0<=s.2.2.1)/\(s.2.2.1<(ahead.length:Int))/\cond (decide (v9.1<((nth (t:=(Ty.sl TVS)) ahead s.2.2.1).length:Int))) ((0<=s.2.1)/\(s.2.1<(ahead.length:Int))/\(0<=c9_0)/\(c9_0<((nth (t:=(Ty.sl TVS)) ahead s.2.1).length:Int))/\(0<=s.2.2.1)/\(s.2.2.1<(ahead.length:Int))/\(0<=v9.1)/\(v9.1<((nth (t:=(Ty.sl TVS)) ahead s.2.2.1).length:Int))/\(Sm TVS (nth (t:=TVS) (nth (t:=(Ty.sl TVS)) ahead s.2.1) c9_0))/\(Sm TVS (nth (t:=TVS) (nth (t:=(Ty.sl TVS)) ahead s.2.2.1) v9.1))/\(LD ((nth (t:=TVS) (nth (t:=(Ty.sl TVS)) ahead s.2.1) c9_0)++(nth (t:=TVS) (nth (t:=(Ty.sl TVS)) ahead s.2.2.1) v9.1)) fun r5=>(Sm TVS r5)/\(Sm TPS s.2.2.2.2.1)/\(M.bX r5.length s.2.2.2.2.1)/\cond (M.holds r5 s.2.2.2.2.1) (((v9.2.length+[r5].length) * 24<=lim)/\(nxT (LP101_9 tables ahead s) m K (s101_9 tables ahead s c9_0 (wrap64 (v9.1+Z1),(v9.2++[r5]))))) (nxT (LP101_9 tables ahead s) m K (s101_9 tables ahead s c9_0 (wrap64 (v9.1+Z1),v9.2))))) (K (.exit 9) (⟨[(1,.brw (Ty.sl TVS) ahead),(5,.adr ah s),(7,.own 16 none),(11,dI c9_0)],[(16,.arr false TVS v9.2)]⟩:St))):=by kernel_rfl
theorem lvc101_5 (tables:LTb) (ahead:(List (List LV))) (s:ah.D)  (v11:Int×(List LV)) (m:Nat) (K:KX):lvT C101 (L101 tables ahead s) ann101 f101 5 11 (s101_11 tables ahead s v11) m K =
 ((0<=s.2.1)/\(s.2.1<(ahead.length:Int))/\cond (decide (v11.1<((nth (t:=(Ty.sl TVS)) ahead s.2.1).length:Int))) ((0<=s.2.1)/\(s.2.1<(ahead.length:Int))/\(0<=v11.1)/\(v11.1<((nth (t:=(Ty.sl TVS)) ahead s.2.1).length:Int))/\(Sm TVS (nth (t:=TVS) (nth (t:=(Ty.sl TVS)) ahead s.2.1) v11.1))/\(LD (nth (t:=TVS) (nth (t:=(Ty.sl TVS)) ahead s.2.1) v11.1) fun r6=>((v11.2.length+[r6].length) * 24<=lim)/\(nxT (LP101_11 tables ahead s) m K (s101_11 tables ahead s (wrap64 (v11.1+Z1),(v11.2++[r6])))))) (K (.exit 11) (⟨[(1,.brw (Ty.sl TVS) ahead),(5,.adr ah s),(7,.own 16 none)],[(16,.arr false TVS v11.2)]⟩:St))):=by kernel_rfl
theorem lvc101_6 (tables:LTb) (ahead:(List (List LV))) (s:ah.D)  (v13:Int×(List LV)) (m:Nat) (K:KX):lvT C101 (L101 tables ahead s) ann101 f101 6 13 (s101_13 tables ahead s v13) m K =
 ((0<=s.2.2.1)/\(s.2.2.1<(ahead.length:Int))/\cond (decide (v13.1<((nth (t:=(Ty.sl TVS)) ahead s.2.2.1).length:Int))) ((0<=s.2.2.1)/\(s.2.2.1<(ahead.length:Int))/\(0<=v13.1)/\(v13.1<((nth (t:=(Ty.sl TVS)) ahead s.2.2.1).length:Int))/\(Sm TVS (nth (t:=TVS) (nth (t:=(Ty.sl TVS)) ahead s.2.2.1) v13.1))/\(LD (nth (t:=TVS) (nth (t:=(Ty.sl TVS)) ahead s.2.2.1) v13.1) fun r7=>((v13.2.length+[r7].length) * 24<=lim)/\(nxT (LP101_13 tables ahead s) m K (s101_13 tables ahead s (wrap64 (v13.1+Z1),(v13.2++[r7])))))) (K (.exit 13) (⟨[(7,.own 16 none)],[(16,.arr false TVS v13.2)]⟩:St))):=by kernel_rfl
theorem con101_ok:bg P 101 c101:=bq C101 func101 (kC con94_ok (kC con149_ok (kC con150_ok (kC con151_ok (kC con152_ok kN))))) fun args hp K h0=>by
 obtain⟨tables,ahead,s,rfl,rfl,h_tables,h_ahead,h_s,p0,hK⟩:=g3e h0
 have h:ok (F.qV tables ahead s) (fun r=>K (.data (Ty.sl TVS) r) []):=az (F.Af tables ahead s h_tables h_ahead h_s p0) (hK _ rfl)
 refine⟨rfl,ann101,(L101 tables ahead s),(.dat (Ty.sl TVS)),(Il (i0:=1) (i1:=3) (i2:=5) (i3:=7) (i4:=9) (i5:=11) (i6:=13) (by kernel_rfl) ?_ ?_ ?_ ?_ ?_ ?_ ?_),?_⟩
 ·rintro _ _ K ⟨hc1,v1,rfl,hv1,h⟩
  exact cast (lvc101_0 _ _ _ _ _ _).symm (cC h (fun m1 hm1 h=>(oG h fun g1 h=>(oG h fun g2 h=>(oC h (fun _ h=>⟨g1,⟨g2,(oG h fun _ h=>(oG h fun _ h=>⟨(aH (aH h_tables s.2.2.2.1).2.1 v1.1),(oL h fun _ _ h=>(oG h fun _ h=>(bD (fun _ hm=>⟨hc1,hm⟩) hm1 _ rfl trivial h)))⟩))⟩⟩) fun _ h=>((cw h :) trivial))))))
 ·rintro _ _ K ⟨hc3,v3,rfl,hv3,h⟩
  exact cast (lvc101_1 _ _ _ _ _ _).symm (cC h (fun m1 hm3 h=>(oG h fun g3 h=>(oG h fun g4 h=>(oC h (fun _ h=>⟨g3,⟨g4,(oG h fun g5 h=>(oG h fun g6 h=>⟨(aH (aH h_ahead s.2.1) v3.1),⟨h_s.2.2.2.2.1,(oG h fun _ h=>(oC h (fun _ h=>⟨g3,⟨g4,⟨g5,⟨g6,⟨(aH (aH h_ahead s.2.1) v3.1),(oL h fun _ _ h=>(oG h fun _ h=>(bD (fun _ hm=>⟨hc3,hm⟩) hm3 _ rfl trivial h)))⟩⟩⟩⟩⟩) fun _ h=>(bD (fun _ hm=>⟨hc3,hm⟩) hm3 _ rfl trivial h)))⟩⟩))⟩⟩) fun _ h=>((cw h :) trivial))))))
 ·rintro _ _ K ⟨hc5,v5,rfl,hv5,h⟩
  exact cast (lvc101_2 _ _ _ _ _ _).symm (cC h (fun m1 hm5 h=>(oG h fun g7 h=>(oG h fun g8 h=>(oC h (fun _ h=>⟨g7,⟨g8,(oG h fun _ h=>(oG h fun _ h=>⟨(aH (aH h_ahead s.2.1) v5.1),⟨h_s.2.2.2.2.2.1,(oG h fun _ h=>(oL h fun _ _ h=>(oG h fun _ h=>(bD (fun _ hm=>⟨hc5,hm⟩) hm5 _ rfl trivial h))))⟩⟩))⟩⟩) fun _ h=>((cw h :) trivial))))))
 ·rintro _ _ K ⟨hc7,v7,rfl,hv7,h⟩
  exact cast (lvc101_3 _ _ _ _ _ _).symm (cC h (fun m1 hm7 h=>(oG h fun _ h=>(oG h fun _ h=>(oC h (fun _ h=>(bV (fun m hm=>⟨v7.1,trivial,hm⟩) _ rfl trivial (fy h (fun e9 h hv9=>(bD (fun _ hm=>⟨hc7,hm⟩) hm7 _ rfl trivial h))))) fun _ h=>((cw h :) trivial))))))
 ·rintro _ _ K ⟨c9_0,hc9,v9,rfl,hv9,h⟩
  exact cast (lvc101_4 _ _ _ _ _ _ _).symm (cC h (fun m1 hm9 h=>(oG h fun g9 h=>(oG h fun g10 h=>(oC h (fun _ h=>(oG h fun _ h=>(oG h fun _ h=>(oG h fun _ h=>(oG h fun _ h=>⟨g9,⟨g10,(oG h fun _ h=>(oG h fun _ h=>⟨(aH (aH h_ahead s.2.1) c9_0),⟨(aH (aH h_ahead s.2.2.1) v9.1),(oL h fun _ _ h=>(oG h fun _ h=>⟨h_s.2.2.2.2.1,(oG h fun _ h=>(oC h (fun _ h=>(oG h fun _ h=>(bD (fun _ hm=>⟨c9_0,hc9,hm⟩) hm9 _ rfl trivial h))) fun _ h=>(bD (fun _ hm=>⟨c9_0,hc9,hm⟩) hm9 _ rfl trivial h)))⟩))⟩⟩))⟩⟩))))) fun _ h=>((cw h :) trivial))))))
 ·rintro _ _ K ⟨hc11,v11,rfl,hv11,h⟩
  exact cast (lvc101_5 _ _ _ _ _ _).symm (cC h (fun m1 hm11 h=>(oG h fun g11 h=>(oG h fun g12 h=>(oC h (fun _ h=>⟨g11,⟨g12,(oG h fun _ h=>(oG h fun _ h=>⟨(aH (aH h_ahead s.2.1) v11.1),(oL h fun _ _ h=>(oG h fun _ h=>(bD (fun _ hm=>⟨hc11,hm⟩) hm11 _ rfl trivial h)))⟩))⟩⟩) fun _ h=>((cw h :) trivial))))))
 ·rintro _ _ K ⟨hc13,v13,rfl,hv13,h⟩
  exact cast (lvc101_6 _ _ _ _ _ _).symm (cC h (fun m1 hm13 h=>(oG h fun g13 h=>(oG h fun g14 h=>(oC h (fun _ h=>⟨g13,⟨g14,(oG h fun _ h=>(oG h fun _ h=>⟨(aH (aH h_ahead s.2.2.1) v13.1),(oL h fun _ _ h=>(oG h fun _ h=>(bD (fun _ hm=>⟨hc13,hm⟩) hm13 _ rfl trivial h)))⟩))⟩⟩) fun _ h=>((cw h :) trivial))))))
 ·rw[vc101]
  exact(oC h (fun _ h=>(bV (fun m hm=>⟨trivial,hm⟩) _ rfl trivial (fy h (fun e1 h hv1=>h)))) fun _ h=>(oC h (fun _ h=>(bV (fun m hm=>⟨trivial,hm⟩) _ rfl trivial (fy h (fun e3 h hv3=>h)))) fun _ h=>(oC h (fun _ h=>(bV (fun m hm=>⟨trivial,hm⟩) _ rfl trivial (fy h (fun e5 h hv5=>h)))) fun _ h=>(oC h (fun _ h=>(bV (fun m hm=>⟨trivial,hm⟩) _ rfl trivial (fy h (fun e7 h hv7=>h)))) fun _ h=>(oC h (fun _ h=>(bV (fun m hm=>⟨trivial,hm⟩) _ rfl trivial (fy h (fun e11 h hv11=>(bV (fun m hm=>⟨trivial,hm⟩) _ rfl trivial (fy h (fun e13 h hv13=>h))))))) fun _ h=>(oC h (fun _ h=>(oG h fun _ h=>(oG h fun _ h=>⟨(aH h_ahead s.2.1),(oL h fun _ _ h=>h)⟩))) fun _ h=>h))))))
def c58:Con:=⟨[.dat TTb,.dat TSS],fun args hp K=>g2 (pD TTb) (pD TSS) (fun tables plan=>(Sm TTb tables)/\(Sm TSS plan)/\(M.bK tables plan=true)/\(LD (M.cn tables plan) fun r=>K (.data (Ty.sl (Ty.sl TVS)) r) [])) args hp,.plain,false⟩
abbrev C58:Ctx:=cx [(101,c101)] 25 [] 0 false
def ann58:=an [[kp 3],[kp 35],[kp 99],[kp 2147],[kp 99],[kp 99],[kp 16]] [[kp 32]]
abbrev s58_0 (tables:LTb) (plan:LS) (i0:Int) (v0:(List (List LV))):St:=⟨[(0,.data TTb tables),(1,.data TSS plan),(5,.own 7 none),(6,dI i0)],[(7,.arr false (Ty.sl TVS) v0)]⟩
abbrev LP58_0 (tables:LTb) (plan:LS) (m:Nat) (st_:St) (K:KX):Prop:=True/\bF (t:=ah) (s58_0 tables plan) plan (F.gn tables plan) (fun v0:(List (List LV))=>True) (br (fun v0:(List (List LV))=>True->K (.exit 0) (⟨[(5,.own 7 none)],[(7,.arr false (Ty.sl TVS) v0)]⟩:St)) (fun _=>False)) m st_
def L58 (tables:LTb) (plan:LS):bE:=lp1 0 (LP58_0 tables plan)
theorem vc58 (tables:LTb) (plan:LS) (K:KA):vcT C58 (L58 tables plan) ann58 f58 [.data TTb tables,.data TSS plan] [] (.dat (Ty.sl (Ty.sl TVS))) K =
 (∃m_,True/\bF (t:=ah) (s58_0 tables plan) plan (F.gn tables plan) (fun v0:(List (List LV))=>True) (br (fun v0:(List (List LV))=>True->K (.data (Ty.sl (Ty.sl TVS)) v0) []) (fun _=>False)) m_ (s58_0 tables plan Z0 [])):=by kernel_rfl
theorem lvc58_0 (tables:LTb) (plan:LS)  (i0:Int) (v0:(List (List LV))) (m:Nat) (K:KX):lvT C58 (L58 tables plan) ann58 f58 0 0 (s58_0 tables plan i0 v0) m K =
 (cond (decide (i0<(plan.length:Int))) ((0<=i0)/\(i0<(plan.length:Int))/\(Sm TTb tables)/\(Sm (Ty.sl (Ty.sl TVS)) v0)/\(Sm ah (nS plan i0))/\(M.kA tables v0 (nS plan i0))/\(LD (M.bP tables v0 (nS plan i0)) fun r1=>((v0.length+[r1].length) * 24<=lim)/\(nxT (LP58_0 tables plan) m K (s58_0 tables plan (wrap64 (i0+Z1)) (v0++[r1]))))) (K (.exit 0) (⟨[(5,.own 7 none)],[(7,.arr false (Ty.sl TVS) v0)]⟩:St))):=by kernel_rfl
theorem con58_ok:bg P 58 c58:=bq C58 func58 (kC con101_ok kN) fun args hp K h0=>by
 obtain⟨tables,plan,rfl,rfl,h_tables,h_plan,p0,hK⟩:=g2e h0
 have h:ok (F.pL tables plan) (fun r=>K (.data (Ty.sl (Ty.sl TVS)) r) []):=az (F.yN tables plan h_tables h_plan p0) (hK _ rfl)
 refine⟨rfl,ann58,(L58 tables plan),(.dat (Ty.sl (Ty.sl TVS))),(bA (i0:=0) (by kernel_rfl) ?_),?_⟩
 ·rintro _ _ K ⟨hc0,i0,v0,rfl,hl0,rfl,hv0,h⟩
  exact cast (lvc58_0 _ _ _ _ _ _).symm (bf (t:=ah) hl0 h (fun ht0 h=>⟨hl0,⟨ht0,⟨h_tables,(oG h fun _ h=>⟨(aH h_plan i0),(oG h fun _ h=>(oL h fun _ _ h=>(oG h fun _ h=>(aQ (t:=ah) (fun _ hm=>⟨hc0,hm⟩) _ rfl hl0 ht0 (aZ h_plan) trivial h))))⟩)⟩⟩⟩) fun h=>(h trivial))
 ·rw[vc58]
  exact(aR (t:=ah) (fun m hm=>⟨trivial,hm⟩) _ rfl trivial (aU h (fun v0 h hv0=>h) (fun _ h=>h.elim)))
def c21:Con:=⟨[.dat TTb,.dat TSS],fun args hp K=>g2 (pD TTb) (pD TSS) (fun tables plan=>(Sm TTb tables)/\(Sm TSS plan)/\(LD (M.cO tables plan) fun r=>K (.data (Ty.sl TVS) r) [])) args hp,.plain,false⟩
abbrev C21:Ctx:=cx [(11,c11),(58,c58)] 20 [] 0 false
def ann21:=an [[kp 3],[kp 515],[kp 16],[kp 34],[kp 16]] []
theorem vc21 (tables:LTb) (plan:LS) (K:KA):vcT C21 aA ann21 f21 [.data TTb tables,.data TSS plan] [] (.dat (Ty.sl TVS)) K =
 ((Sm TTb tables)/\(Sm TSS plan)/\cond (!(M.bK tables plan)) (K (.data (Ty.sl TVS) []) []) ((Sm TTb tables)/\(Sm TSS plan)/\(M.bK tables plan=true)/\(LD (M.cn tables plan) fun r1=>(0<=wrap64 ((plan.length:Int)-Z1))/\(wrap64 ((plan.length:Int)-Z1)<(r1.length:Int))/\K (.data (Ty.sl TVS) (nth (t:=(Ty.sl TVS)) r1 (wrap64 ((plan.length:Int)-Z1)))) []))):=by kernel_rfl
theorem con21_ok:bg P 21 c21:=bq C21 func21 (kC con11_ok (kC con58_ok kN)) fun args hp K h0=>by
 obtain⟨tables,plan,rfl,rfl,h_tables,h_plan,hK⟩:=g2e h0
 have h:ok (F.nZ tables plan) (fun r=>K (.data (Ty.sl TVS) r) []):=az (F.wL tables plan h_tables h_plan) (hK _ rfl)
 refine⟨rfl,ann21,aA,(.dat (Ty.sl TVS)),(aG (by kernel_rfl)),?_⟩
 ·rw[vc21]
  exact⟨h_tables,⟨h_plan,(oC h (fun _ h=>h) fun b_1 h=>⟨h_tables,⟨h_plan,⟨(bnf b_1),(oL h fun _ _ h=>(oG h fun _ h=>(oG h fun _ h=>h)))⟩⟩⟩)⟩⟩
def c117:Con:=⟨[.dat TTb,.dat TGS],fun args hp K=>g2 (pD TTb) (pD TGS) (fun tables guards=>(Sm TTb tables)/\(Sm TGS guards)/\K (dB (M.bB tables guards)) []) args hp,.plain,false⟩
abbrev C117:Ctx:=cx [(38,c38),(39,c39),(132,c132)] 53 [] 0 false
def ann117:=an [[kp 3],[kp 35],[kp 1059],[kp 35],[.fixRow 6 aB,kp 99],[kp 1125899906842659],[kp 16],[kp 16]] [[kp 1]]
abbrev s117_0 (tables:LTb) (guards:LG) (i0:Int) (v0:Unit):St:=⟨[(0,.data TTb tables),(1,.data TGS guards),(5,dI i0)],[]⟩
abbrev LP117_0 (tables:LTb) (guards:LG) (m:Nat) (st_:St) (K:KX):Prop:=True/\cI (s117_0 tables guards) Z0 (guards.length:Int) (F.iz tables guards) (fun v0:Unit=>True) (br (fun v0:Unit=>True->K (.exit 0) (⟨[(0,.data TTb tables)],[]⟩:St)) (fun q0:Unit=>K .ret (⟨[(4,dB false)],[]⟩:St))) m st_
def L117 (tables:LTb) (guards:LG):bE:=lp1 0 (LP117_0 tables guards)
theorem vc117 (tables:LTb) (guards:LG) (K:KA):vcT C117 (L117 tables guards) ann117 f117 [.data TTb tables,.data TGS guards] [] (.dat Ty.bool) K =
 (∃m_,True/\cI (s117_0 tables guards) Z0 (guards.length:Int) (F.iz tables guards) (fun v0:Unit=>True) (br (fun v0:Unit=>True->(Sm TTb tables)/\K (dB (M.bT tables)) []) (fun q0:Unit=>K (dB false) [])) m_ (s117_0 tables guards Z0 ())):=by kernel_rfl
theorem lvc117_0 (tables:LTb) (guards:LG)  (i0:Int) (v0:Unit) (m:Nat) (K:KX):lvT C117 (L117 tables guards) ann117 f117 0 0 (s117_0 tables guards i0 v0) m K =
 (cond (decide (i0<(guards.length:Int))) ((0<=i0)/\(i0<(guards.length:Int))/\cond ((!(M.inR (nG guards i0).1 Z0 (wrap64 ((tables.length:Int)-Z1))))==false) ((0<=(nG guards i0).1)/\((nG guards i0).1<(tables.length:Int))/\(Sm TCS (nT tables (nG guards i0).1).1)/\(Sm TPS (nG guards i0).2.1)/\cond ((!decide ((M.bZ (nT tables (nG guards i0).1).1 (nG guards i0).2.1)=Z3))==false) (cond ((decide (Z0<i0))==true) ((0<=wrap64 (i0-Z1))/\(wrap64 (i0-Z1)<(guards.length:Int))/\cond (decide ((nG guards i0).1<=(nG guards (wrap64 (i0-Z1))).1)) (K .ret (⟨[(4,dB false)],[]⟩:St)) (nxT (LP117_0 tables guards) m K (s117_0 tables guards (wrap64 (i0+Z1)) ()))) (nxT (LP117_0 tables guards) m K (s117_0 tables guards (wrap64 (i0+Z1)) ()))) (K .ret (⟨[(4,dB false)],[]⟩:St))) (K .ret (⟨[(4,dB false)],[]⟩:St))) (K (.exit 0) (⟨[(0,.data TTb tables)],[]⟩:St))):=by kernel_rfl
theorem con117_ok:bg P 117 c117:=bq C117 func117 (kC con38_ok (kC con39_ok (kC con132_ok kN))) fun args hp K h0=>by
 obtain⟨tables,guards,rfl,rfl,h_tables,h_guards,hK⟩:=g2e h0
 have h:ok (F.nX tables guards) (fun r=>K (dB r) []):=az (F.wW tables guards h_tables h_guards) hK
 refine⟨rfl,ann117,(L117 tables guards),(.dat Ty.bool),(bA (i0:=0) (by kernel_rfl) ?_),?_⟩
 ·rintro _ _ K ⟨hc0,i0,v0,rfl,hl0,rfl,hv0,h⟩
  exact cast (lvc117_0 _ _ _ _ _ _).symm (cj h (fun ht0 h=>⟨hl0,⟨ht0,(oC h (fun b_19 h=>⟨(eC (bnf (bgt b_19))),⟨(jT (bnf (bgt b_19))),⟨(aH h_tables (nG guards i0).1).1,⟨(aH h_guards i0).2.1,(oC h (fun _ h=>(oC h (fun _ h=>(oG h fun _ h=>(oG h fun _ h=>(oC h (fun _ h=>h) fun _ h=>(aT (fun _ hm=>⟨hc0,hm⟩) _ rfl hl0 fS ht0 (aZ h_guards) trivial h))))) fun _ h=>(aT (fun _ hm=>⟨hc0,hm⟩) _ rfl hl0 fS ht0 (aZ h_guards) trivial h))) fun _ h=>h)⟩⟩⟩⟩) fun _ h=>h)⟩⟩) fun h=>(h trivial))
 ·rw[vc117]
  exact(bN (fun m hm=>⟨trivial,hm⟩) Z0 _ rfl (Int.natCast_nonneg 0) trivial (aU h (fun v0 h hv0=>⟨h_tables,h⟩) (fun q0 h=>h)))
def c118:Con:=⟨[.dat TSS],fun args hp K=>g1 (pD TSS) (fun plan=>(Sm TSS plan)/\(LD plan fun r=>K (.own 0 none) [(0,.arr false ah r)])) args hp,.plain,false⟩
abbrev C118:Ctx:=cx [] 32 [] 0 false
def ann118:=an [[kp 1],[kp 9],[kp 25],[kp 1049],[kp 25],[kp 57],[kp 57],[kp 57],[kp 25],[kp 4]] [[kp 8]]
abbrev s118_0 (plan:LS) (i0:Int) (v0:LS):St:=⟨[(0,.data TSS plan),(3,.own 6 none),(4,dI i0)],[(6,.arr false ah v0)]⟩
abbrev LP118_0 (plan:LS) (m:Nat) (st_:St) (K:KX):Prop:=True/\bF (t:=ah) (s118_0 plan) plan (F.kD plan) (fun v0:LS=>True) (br (fun v0:LS=>True->K (.exit 0) (⟨[(3,.own 6 none)],[(6,.arr false ah v0)]⟩:St)) (fun _=>False)) m st_
def L118 (plan:LS):bE:=lp1 0 (LP118_0 plan)
theorem vc118 (plan:LS) (K:KA):vcT C118 (L118 plan) ann118 f118 [.data TSS plan] [] .raw K =
 (∃m_,True/\bF (t:=ah) (s118_0 plan) plan (F.kD plan) (fun v0:LS=>True) (br (fun v0:LS=>True->K (.own 0 none) [(0,.arr false ah v0)]) (fun _=>False)) m_ (s118_0 plan Z0 [])):=by kernel_rfl
theorem lvc118_0 (plan:LS)  (i0:Int) (v0:LS) (m:Nat) (K:KX):lvT C118 (L118 plan) ann118 f118 0 0 (s118_0 plan i0 v0) m K =
 (cond (decide (i0<(plan.length:Int))) ((0<=i0)/\(i0<(plan.length:Int))/\((([]:List aC.D).length+(nS plan i0).2.2.2.2.1.length) * 48<=lim)/\((([]:List aE.D).length+(nS plan i0).2.2.2.2.2.1.length) * 8<=lim)/\((v0.length+([((nS plan i0).1,((nS plan i0).2.1,((nS plan i0).2.2.1,((nS plan i0).2.2.2.1,(([]++(nS plan i0).2.2.2.2.1),(([]++(nS plan i0).2.2.2.2.2.1),()))))))]:List ah.D).length) * 80<=lim)/\(nxT (LP118_0 plan) m K (s118_0 plan (wrap64 (i0+Z1)) (v0++[((nS plan i0).1,((nS plan i0).2.1,((nS plan i0).2.2.1,((nS plan i0).2.2.2.1,(([]++(nS plan i0).2.2.2.2.1),(([]++(nS plan i0).2.2.2.2.2.1),()))))))])))) (K (.exit 0) (⟨[(3,.own 6 none)],[(6,.arr false ah v0)]⟩:St))):=by kernel_rfl
theorem con118_ok:bg P 118 c118:=bq C118 func118 kN fun args hp K h0=>by
 obtain⟨plan,rfl,rfl,h_plan,hK⟩:=g1e h0
 have h:ok (F.tJ plan) (fun r=>K (.own 0 none) [(0,.arr false ah r)]):=az (F.AU plan h_plan) (hK _ rfl)
 refine⟨rfl,ann118,(L118 plan),.raw,(bA (i0:=0) (by kernel_rfl) ?_),?_⟩
 ·rintro _ _ K ⟨hc0,i0,v0,rfl,hl0,rfl,hv0,h⟩
  exact cast (lvc118_0 _ _ _ _ _).symm (bf (t:=ah) hl0 h (fun ht0 h=>⟨hl0,⟨ht0,⟨(kG (fY aC) (aH h_plan i0).2.2.2.2.1 rfl),⟨(kG (fY aE) (aH h_plan i0).2.2.2.2.2.1 rfl),(oG h fun _ h=>(aQ (t:=ah) (fun _ hm=>⟨hc0,hm⟩) _ rfl hl0 ht0 (aZ h_plan) trivial h))⟩⟩⟩⟩) fun h=>(h trivial))
 ·rw[vc118]
  exact(aR (t:=ah) (fun m hm=>⟨trivial,hm⟩) _ rfl trivial (aU h (fun v0 h hv0=>h) (fun _ h=>h.elim)))
def c119:Con:=⟨[.dat TGS,.dat aE],fun args hp K=>g2 (pD TGS) (pD aE) (fun guards table=>(Sm TGS guards)/\K (dI (M.idx (t:=aB) (fun g=>decide (g.1=table)) guards)) []) args hp,.plain,false⟩
abbrev C119:Ctx:=cx [] 20 [] 0 false
def ann119:=an [[kp 3],[kp 35],[kp 547],[kp 35],[kp 262179],[kp 16],[kp 16]] [[kp 0]]
abbrev s119_0 (guards:LG) (table:Int) (i0:Int) (v0:Unit):St:=⟨[(0,.data TGS guards),(1,dI table),(5,dI i0)],[]⟩
abbrev LP119_0 (guards:LG) (table:Int) (m:Nat) (st_:St) (K:KX):Prop:=True/\cI (s119_0 guards table) Z0 (guards.length:Int) (F.iD guards table) (fun v0:Unit=>True) (br (fun v0:Unit=>True->K (.exit 0) (⟨[],[]⟩:St)) (fun q0:Int=>K .ret (⟨[(4,dI q0)],[]⟩:St))) m st_
def L119 (guards:LG) (table:Int):bE:=lp1 0 (LP119_0 guards table)
theorem vc119 (guards:LG) (table:Int) (K:KA):vcT C119 (L119 guards table) ann119 f119 [.data TGS guards,dI table] [] (.dat aE) K =
 (∃m_,True/\cI (s119_0 guards table) Z0 (guards.length:Int) (F.iD guards table) (fun v0:Unit=>True) (br (fun v0:Unit=>True->K (dI (-1:Int)) []) (fun q0:Int=>K (dI q0) [])) m_ (s119_0 guards table Z0 ())):=by kernel_rfl
theorem lvc119_0 (guards:LG) (table:Int)  (i0:Int) (v0:Unit) (m:Nat) (K:KX):lvT C119 (L119 guards table) ann119 f119 0 0 (s119_0 guards table i0 v0) m K =
 (cond (decide (i0<(guards.length:Int))) ((0<=i0)/\(i0<(guards.length:Int))/\cond (decide ((nG guards i0).1=table)) (K .ret (⟨[(4,dI i0)],[]⟩:St)) (nxT (LP119_0 guards table) m K (s119_0 guards table (wrap64 (i0+Z1)) ()))) (K (.exit 0) (⟨[],[]⟩:St))):=by kernel_rfl
theorem con119_ok:bg P 119 c119:=bq C119 func119 kN fun args hp K h0=>by
 obtain⟨guards,table,rfl,rfl,h_guards,hK⟩:=g2e h0
 have h:ok (F.tj guards table) (fun r=>K (dI r) []):=az (F.wE guards table h_guards) hK
 refine⟨rfl,ann119,(L119 guards table),(.dat aE),(bA (i0:=0) (by kernel_rfl) ?_),?_⟩
 ·rintro _ _ K ⟨hc0,i0,v0,rfl,hl0,rfl,hv0,h⟩
  exact cast (lvc119_0 _ _ _ _ _ _).symm (cj h (fun ht0 h=>⟨hl0,⟨ht0,(oC h (fun _ h=>h) fun _ h=>(aT (fun _ hm=>⟨hc0,hm⟩) _ rfl hl0 fS ht0 (aZ h_guards) trivial h))⟩⟩) fun h=>(h trivial))
 ·rw[vc119]
  exact(bN (fun m hm=>⟨trivial,hm⟩) Z0 _ rfl (Int.natCast_nonneg 0) trivial (aU h (fun v0 h hv0=>h) (fun q0 h=>h)))
def c70:Con:=⟨[.dat TTb,.dat TGS,.dat TSS],fun args hp K=>g3 (pD TTb) (pD TGS) (pD TSS) (fun tables guards plan=>(Sm TTb tables)/\(Sm TGS guards)/\(Sm TSS plan)/\(LD (M.bn tables guards plan) fun r=>K (.tup [.data TSS r.1,dB r.2]) [])) args hp,.plain,false⟩
abbrev C70:Ctx:=cx [(11,c11),(117,c117),(118,c118),(119,c119)] 105 [] 0 false
def ann70:=an [[kp 7],[kp 263],[kp 16777479],[kp 192],[kp 775],[kp 1795],[kp 3843],[kp 17179873027],[kp 3843],[kp 7939],[kp 8796093030147],[kp 7939],[kp 144115188075863811],[kp 7939],[kp 7939],[kp 16131],[kp 302231454903657293688579],[kp 3843],[kp 3843],[.keep [8,102]],[kp 192],[kp 192]] [[kp 257]]
abbrev s70_0 (tables:LTb) (guards:LG) (plan:LS) (c0_0:LS) (i0:Int) (v0:LS×LI):St:=⟨[(0,.data TTb tables),(1,.data TGS guards),(8,.own 14 none),(9,.own 28 none),(10,.own 30 none),(11,dI i0)],[(14,.arr false ah v0.1),(28,.arr false aE v0.2),(30,.arr false ah c0_0)]⟩
abbrev LP70_0 (tables:LTb) (guards:LG) (plan:LS) (m:Nat) (st_:St) (K:KX):Prop:=∃c0_0:LS,((c0_0.length:Int)<=kW/\True)/\cI (s70_0 tables guards plan c0_0) Z0 (c0_0.length:Int) (F.ew tables guards plan c0_0) (fun v0:LS×LI=>True) (br (fun v0:LS×LI=>True->K (.exit 0) (⟨[(0,.data TTb tables),(8,.own 14 none)],[(14,.arr false ah v0.1)]⟩:St)) (fun _=>False)) m st_
def L70 (tables:LTb) (guards:LG) (plan:LS):bE:=lp1 0 (LP70_0 tables guards plan)
theorem vc70 (tables:LTb) (guards:LG) (plan:LS) (K:KA):vcT C70 (L70 tables guards plan) ann70 f70 [.data TTb tables,.data TGS guards,.data TSS plan] [] (.tup [TSS,Ty.bool]) K =
 ((Sm TTb tables)/\(Sm TGS guards)/\cond ((!(M.bB tables guards))==false) ((Sm TTb tables)/\(Sm TSS plan)/\cond (!(M.bK tables plan)) (K (.tup [.data TSS [],dB false]) []) (((plan.length:Int)=(plan.length:Int))/\(0<=(plan.length:Int))/\((plan.length:Int) * 8<=(lim:Int))/\(Sm TSS plan)/\(LD plan fun r1=>(∃m_,∃c0_0:LS,((c0_0.length:Int)<=kW/\True)/\cI (s70_0 tables guards plan c0_0) Z0 (c0_0.length:Int) (F.ew tables guards plan c0_0) (fun v0:LS×LI=>True) (br (fun v0:LS×LI=>True->(Sm TTb tables)/\(Sm TSS v0.1)/\cond (!(M.bK tables v0.1)) (K (.tup [.data TSS [],dB false]) []) (K (.tup [.data TSS v0.1,dB true]) [])) (fun _=>False)) m_ (s70_0 tables guards plan r1 Z0 ([],(List.replicate (plan.length:Int).toNat Z0))))))) (K (.tup [.data TSS [],dB false]) [])):=by kernel_rfl
abbrev S70l0_0 (tables:LTb) (guards:LG) (plan:LS) (c0_0:LS) (i0:Int) (v0:LS×LI) (m:Nat) (K:KX):Prop:=(0<=i0)/\(i0<(v0.2.length:Int))/\(let y1:LI:=(v0.2.set i0.toNat (wrap64 (((v0.1++[((nS c0_0 i0).1,((nI v0.2 (nS c0_0 i0).2.1),((nI v0.2 (nS c0_0 i0).2.2.1),(nS c0_0 i0).2.2.2)))]).length:Int)-Z1)));(nxT (LP70_0 tables guards plan) m K (s70_0 tables guards plan c0_0 (wrap64 (i0+Z1)) ((v0.1++[((nS c0_0 i0).1,((nI v0.2 (nS c0_0 i0).2.1),((nI v0.2 (nS c0_0 i0).2.2.1),(nS c0_0 i0).2.2.2)))]),y1))))
abbrev S70l0_1 (tables:LTb) (guards:LG) (plan:LS) (c0_0:LS) (i0:Int) (v0:LS×LI) (m:Nat) (K:KX):Prop:=(0<=(nS c0_0 i0).2.2.1)/\((nS c0_0 i0).2.2.1<(v0.2.length:Int))/\((v0.1.length+[((nS c0_0 i0).1,((nI v0.2 (nS c0_0 i0).2.1),((nI v0.2 (nS c0_0 i0).2.2.1),(nS c0_0 i0).2.2.2)))].length) * 80<=lim)/\(Sm TGS guards)/\cond ((decide ((nS c0_0 i0).1=Z1))==true) (cond (decide (Z0<=(M.idx (t:=aB) (fun g=>decide (g.1=(nS c0_0 i0).2.2.2.1)) guards))) ((0<=(M.idx (t:=aB) (fun g=>decide (g.1=(nS c0_0 i0).2.2.2.1)) guards))/\((M.idx (t:=aB) (fun g=>decide (g.1=(nS c0_0 i0).2.2.2.1)) guards)<(guards.length:Int))/\((([]:List aC.D).length+(nG guards (M.idx (t:=aB) (fun g=>decide (g.1=(nS c0_0 i0).2.2.2.1)) guards)).2.1.length) * 48<=lim)/\(((v0.1++[((nS c0_0 i0).1,((nI v0.2 (nS c0_0 i0).2.1),((nI v0.2 (nS c0_0 i0).2.2.1),(nS c0_0 i0).2.2.2)))]).length+([(Z2,(wrap64 (((v0.1++[((nS c0_0 i0).1,((nI v0.2 (nS c0_0 i0).2.1),((nI v0.2 (nS c0_0 i0).2.2.1),(nS c0_0 i0).2.2.2)))]).length:Int)-Z1),(Z0,(Z0,(([]++(nG guards (M.idx (t:=aB) (fun g=>decide (g.1=(nS c0_0 i0).2.2.2.1)) guards)).2.1),([],()))))))]:List ah.D).length) * 80<=lim)/\(0<=i0)/\(i0<(v0.2.length:Int))/\(let y1:LI:=(v0.2.set i0.toNat (wrap64 ((((v0.1++[((nS c0_0 i0).1,((nI v0.2 (nS c0_0 i0).2.1),((nI v0.2 (nS c0_0 i0).2.2.1),(nS c0_0 i0).2.2.2)))])++[(Z2,(wrap64 (((v0.1++[((nS c0_0 i0).1,((nI v0.2 (nS c0_0 i0).2.1),((nI v0.2 (nS c0_0 i0).2.2.1),(nS c0_0 i0).2.2.2)))]).length:Int)-Z1),(Z0,(Z0,(([]++(nG guards (M.idx (t:=aB) (fun g=>decide (g.1=(nS c0_0 i0).2.2.2.1)) guards)).2.1),([],()))))))]).length:Int)-Z1)));(nxT (LP70_0 tables guards plan) m K (s70_0 tables guards plan c0_0 (wrap64 (i0+Z1)) (((v0.1++[((nS c0_0 i0).1,((nI v0.2 (nS c0_0 i0).2.1),((nI v0.2 (nS c0_0 i0).2.2.1),(nS c0_0 i0).2.2.2)))])++[(Z2,(wrap64 (((v0.1++[((nS c0_0 i0).1,((nI v0.2 (nS c0_0 i0).2.1),((nI v0.2 (nS c0_0 i0).2.2.1),(nS c0_0 i0).2.2.2)))]).length:Int)-Z1),(Z0,(Z0,(([]++(nG guards (M.idx (t:=aB) (fun g=>decide (g.1=(nS c0_0 i0).2.2.2.1)) guards)).2.1),([],()))))))]),y1))))) (S70l0_0  tables guards plan c0_0 i0 v0 m K)) (S70l0_0  tables guards plan c0_0 i0 v0 m K)
abbrev S70l0_2 (tables:LTb) (guards:LG) (plan:LS) (c0_0:LS) (i0:Int) (v0:LS×LI) (m:Nat) (K:KX):Prop:=(0<=i0)/\(i0<(v0.2.length:Int))/\(let y1:LI:=(v0.2.set i0.toNat (wrap64 (((v0.1++[((nS c0_0 i0).1,((nI v0.2 (nS c0_0 i0).2.1),(nS c0_0 i0).2.2))]).length:Int)-Z1)));(nxT (LP70_0 tables guards plan) m K (s70_0 tables guards plan c0_0 (wrap64 (i0+Z1)) ((v0.1++[((nS c0_0 i0).1,((nI v0.2 (nS c0_0 i0).2.1),(nS c0_0 i0).2.2))]),y1))))
abbrev S70l0_3 (tables:LTb) (guards:LG) (plan:LS) (c0_0:LS) (i0:Int) (v0:LS×LI) (m:Nat) (K:KX):Prop:=(0<=i0)/\(i0<(v0.2.length:Int))/\(let y1:LI:=(v0.2.set i0.toNat (wrap64 (((v0.1++[((nS c0_0 i0).1,((nS c0_0 i0).2.1,((nI v0.2 (nS c0_0 i0).2.2.1),(nS c0_0 i0).2.2.2)))]).length:Int)-Z1)));(nxT (LP70_0 tables guards plan) m K (s70_0 tables guards plan c0_0 (wrap64 (i0+Z1)) ((v0.1++[((nS c0_0 i0).1,((nS c0_0 i0).2.1,((nI v0.2 (nS c0_0 i0).2.2.1),(nS c0_0 i0).2.2.2)))]),y1))))
abbrev S70l0_4 (tables:LTb) (guards:LG) (plan:LS) (c0_0:LS) (i0:Int) (v0:LS×LI) (m:Nat) (K:KX):Prop:=(0<=(nS c0_0 i0).2.2.1)/\((nS c0_0 i0).2.2.1<(v0.2.length:Int))/\((v0.1.length+[((nS c0_0 i0).1,((nS c0_0 i0).2.1,((nI v0.2 (nS c0_0 i0).2.2.1),(nS c0_0 i0).2.2.2)))].length) * 80<=lim)/\(Sm TGS guards)/\cond ((decide ((nS c0_0 i0).1=Z1))==true) (cond (decide (Z0<=(M.idx (t:=aB) (fun g=>decide (g.1=(nS c0_0 i0).2.2.2.1)) guards))) ((0<=(M.idx (t:=aB) (fun g=>decide (g.1=(nS c0_0 i0).2.2.2.1)) guards))/\((M.idx (t:=aB) (fun g=>decide (g.1=(nS c0_0 i0).2.2.2.1)) guards)<(guards.length:Int))/\((([]:List aC.D).length+(nG guards (M.idx (t:=aB) (fun g=>decide (g.1=(nS c0_0 i0).2.2.2.1)) guards)).2.1.length) * 48<=lim)/\(((v0.1++[((nS c0_0 i0).1,((nS c0_0 i0).2.1,((nI v0.2 (nS c0_0 i0).2.2.1),(nS c0_0 i0).2.2.2)))]).length+([(Z2,(wrap64 (((v0.1++[((nS c0_0 i0).1,((nS c0_0 i0).2.1,((nI v0.2 (nS c0_0 i0).2.2.1),(nS c0_0 i0).2.2.2)))]).length:Int)-Z1),(Z0,(Z0,(([]++(nG guards (M.idx (t:=aB) (fun g=>decide (g.1=(nS c0_0 i0).2.2.2.1)) guards)).2.1),([],()))))))]:List ah.D).length) * 80<=lim)/\(0<=i0)/\(i0<(v0.2.length:Int))/\(let y1:LI:=(v0.2.set i0.toNat (wrap64 ((((v0.1++[((nS c0_0 i0).1,((nS c0_0 i0).2.1,((nI v0.2 (nS c0_0 i0).2.2.1),(nS c0_0 i0).2.2.2)))])++[(Z2,(wrap64 (((v0.1++[((nS c0_0 i0).1,((nS c0_0 i0).2.1,((nI v0.2 (nS c0_0 i0).2.2.1),(nS c0_0 i0).2.2.2)))]).length:Int)-Z1),(Z0,(Z0,(([]++(nG guards (M.idx (t:=aB) (fun g=>decide (g.1=(nS c0_0 i0).2.2.2.1)) guards)).2.1),([],()))))))]).length:Int)-Z1)));(nxT (LP70_0 tables guards plan) m K (s70_0 tables guards plan c0_0 (wrap64 (i0+Z1)) (((v0.1++[((nS c0_0 i0).1,((nS c0_0 i0).2.1,((nI v0.2 (nS c0_0 i0).2.2.1),(nS c0_0 i0).2.2.2)))])++[(Z2,(wrap64 (((v0.1++[((nS c0_0 i0).1,((nS c0_0 i0).2.1,((nI v0.2 (nS c0_0 i0).2.2.1),(nS c0_0 i0).2.2.2)))]).length:Int)-Z1),(Z0,(Z0,(([]++(nG guards (M.idx (t:=aB) (fun g=>decide (g.1=(nS c0_0 i0).2.2.2.1)) guards)).2.1),([],()))))))]),y1))))) (S70l0_3  tables guards plan c0_0 i0 v0 m K)) (S70l0_3  tables guards plan c0_0 i0 v0 m K)
abbrev S70l0_5 (tables:LTb) (guards:LG) (plan:LS) (c0_0:LS) (i0:Int) (v0:LS×LI) (m:Nat) (K:KX):Prop:=(0<=i0)/\(i0<(v0.2.length:Int))/\(let y1:LI:=(v0.2.set i0.toNat (wrap64 (((v0.1++[(nS c0_0 i0)]).length:Int)-Z1)));(nxT (LP70_0 tables guards plan) m K (s70_0 tables guards plan c0_0 (wrap64 (i0+Z1)) ((v0.1++[(nS c0_0 i0)]),y1))))
theorem lvc70_0 (tables:LTb) (guards:LG) (plan:LS) (c0_0:LS) (i0:Int) (v0:LS×LI) (m:Nat) (K:KX):lvT C70 (L70 tables guards plan) ann70 f70 0 0 (s70_0 tables guards plan c0_0 i0 v0) m K =
 (cond (decide (i0<(c0_0.length:Int))) ((0<=i0)/\(i0<(c0_0.length:Int))/\cond (!decide ((nS c0_0 i0).1=Z1)) ((0<=(nS c0_0 i0).2.1)/\((nS c0_0 i0).2.1<(v0.2.length:Int))/\cond ((decide ((nS c0_0 i0).1=Z4))==false) (cond (decide ((nS c0_0 i0).1=Z5)) (S70l0_1  tables guards plan c0_0 i0 v0 m K) (((v0.1.length+[((nS c0_0 i0).1,((nI v0.2 (nS c0_0 i0).2.1),(nS c0_0 i0).2.2))].length) * 80<=lim)/\(Sm TGS guards)/\cond ((decide ((nS c0_0 i0).1=Z1))==true) (cond (decide (Z0<=(M.idx (t:=aB) (fun g=>decide (g.1=(nS c0_0 i0).2.2.2.1)) guards))) ((0<=(M.idx (t:=aB) (fun g=>decide (g.1=(nS c0_0 i0).2.2.2.1)) guards))/\((M.idx (t:=aB) (fun g=>decide (g.1=(nS c0_0 i0).2.2.2.1)) guards)<(guards.length:Int))/\((([]:List aC.D).length+(nG guards (M.idx (t:=aB) (fun g=>decide (g.1=(nS c0_0 i0).2.2.2.1)) guards)).2.1.length) * 48<=lim)/\(((v0.1++[((nS c0_0 i0).1,((nI v0.2 (nS c0_0 i0).2.1),(nS c0_0 i0).2.2))]).length+([(Z2,(wrap64 (((v0.1++[((nS c0_0 i0).1,((nI v0.2 (nS c0_0 i0).2.1),(nS c0_0 i0).2.2))]).length:Int)-Z1),(Z0,(Z0,(([]++(nG guards (M.idx (t:=aB) (fun g=>decide (g.1=(nS c0_0 i0).2.2.2.1)) guards)).2.1),([],()))))))]:List ah.D).length) * 80<=lim)/\(0<=i0)/\(i0<(v0.2.length:Int))/\(let y1:LI:=(v0.2.set i0.toNat (wrap64 ((((v0.1++[((nS c0_0 i0).1,((nI v0.2 (nS c0_0 i0).2.1),(nS c0_0 i0).2.2))])++[(Z2,(wrap64 (((v0.1++[((nS c0_0 i0).1,((nI v0.2 (nS c0_0 i0).2.1),(nS c0_0 i0).2.2))]).length:Int)-Z1),(Z0,(Z0,(([]++(nG guards (M.idx (t:=aB) (fun g=>decide (g.1=(nS c0_0 i0).2.2.2.1)) guards)).2.1),([],()))))))]).length:Int)-Z1)));(nxT (LP70_0 tables guards plan) m K (s70_0 tables guards plan c0_0 (wrap64 (i0+Z1)) (((v0.1++[((nS c0_0 i0).1,((nI v0.2 (nS c0_0 i0).2.1),(nS c0_0 i0).2.2))])++[(Z2,(wrap64 (((v0.1++[((nS c0_0 i0).1,((nI v0.2 (nS c0_0 i0).2.1),(nS c0_0 i0).2.2))]).length:Int)-Z1),(Z0,(Z0,(([]++(nG guards (M.idx (t:=aB) (fun g=>decide (g.1=(nS c0_0 i0).2.2.2.1)) guards)).2.1),([],()))))))]),y1))))) (S70l0_2  tables guards plan c0_0 i0 v0 m K)) (S70l0_2  tables guards plan c0_0 i0 v0 m K))) (S70l0_1  tables guards plan c0_0 i0 v0 m K)) (cond ((decide ((nS c0_0 i0).1=Z4))==false) (cond (decide ((nS c0_0 i0).1=Z5)) (S70l0_4  tables guards plan c0_0 i0 v0 m K) (((v0.1.length+[(nS c0_0 i0)].length) * 80<=lim)/\(Sm TGS guards)/\cond ((decide ((nS c0_0 i0).1=Z1))==true) (cond (decide (Z0<=(M.idx (t:=aB) (fun g=>decide (g.1=(nS c0_0 i0).2.2.2.1)) guards))) ((0<=(M.idx (t:=aB) (fun g=>decide (g.1=(nS c0_0 i0).2.2.2.1)) guards))/\((M.idx (t:=aB) (fun g=>decide (g.1=(nS c0_0 i0).2.2.2.1)) guards)<(guards.length:Int))/\((([]:List aC.D).length+(nG guards (M.idx (t:=aB) (fun g=>decide (g.1=(nS c0_0 i0).2.2.2.1)) guards)).2.1.length) * 48<=lim)/\(((v0.1++[(nS c0_0 i0)]).length+([(Z2,(wrap64 (((v0.1++[(nS c0_0 i0)]).length:Int)-Z1),(Z0,(Z0,(([]++(nG guards (M.idx (t:=aB) (fun g=>decide (g.1=(nS c0_0 i0).2.2.2.1)) guards)).2.1),([],()))))))]:List ah.D).length) * 80<=lim)/\(0<=i0)/\(i0<(v0.2.length:Int))/\(let y1:LI:=(v0.2.set i0.toNat (wrap64 ((((v0.1++[(nS c0_0 i0)])++[(Z2,(wrap64 (((v0.1++[(nS c0_0 i0)]).length:Int)-Z1),(Z0,(Z0,(([]++(nG guards (M.idx (t:=aB) (fun g=>decide (g.1=(nS c0_0 i0).2.2.2.1)) guards)).2.1),([],()))))))]).length:Int)-Z1)));(nxT (LP70_0 tables guards plan) m K (s70_0 tables guards plan c0_0 (wrap64 (i0+Z1)) (((v0.1++[(nS c0_0 i0)])++[(Z2,(wrap64 (((v0.1++[(nS c0_0 i0)]).length:Int)-Z1),(Z0,(Z0,(([]++(nG guards (M.idx (t:=aB) (fun g=>decide (g.1=(nS c0_0 i0).2.2.2.1)) guards)).2.1),([],()))))))]),y1))))) (S70l0_5  tables guards plan c0_0 i0 v0 m K)) (S70l0_5  tables guards plan c0_0 i0 v0 m K))) (S70l0_4  tables guards plan c0_0 i0 v0 m K))) (K (.exit 0) (⟨[(0,.data TTb tables),(8,.own 14 none)],[(14,.arr false ah v0.1)]⟩:St))):=by kernel_rfl
theorem con70_ok:bg P 70 c70:=bq C70 func70 (kC con11_ok (kC con117_ok (kC con118_ok (kC con119_ok kN)))) fun args hp K h0=>by
 obtain⟨tables,guards,plan,rfl,rfl,h_tables,h_guards,h_plan,hK⟩:=g3e h0
 have h:ok (F.jW tables guards plan) (fun r=>K (.tup [.data TSS r.1,dB r.2]) []):=az (F.sK tables guards plan h_tables h_guards h_plan) (hK _ rfl)
 refine⟨rfl,ann70,(L70 tables guards plan),(.tup [TSS,Ty.bool]),(bA (i0:=0) (by kernel_rfl) ?_),?_⟩
 ·rintro _ _ K ⟨c0_0,hc0,i0,v0,rfl,hl0,rfl,hv0,h⟩
  exact cast (lvc70_0 _ _ _ _ _ _ _ _).symm (cj h (fun ht0 h=>⟨hl0,⟨ht0,(oC h (fun b_61 h=>(oG h fun _ h=>(oG h fun _ h=>(oC h (fun _ h=>(oC h (fun _ h=>(oG h fun _ h=>(oG h fun _ h=>(oG h fun _ h=>⟨h_guards,(cY (uef (bnt b_61)) ⟨hl0,(oG h fun _ h=>(have h:=cB h _ rfl;(aT (fun _ hm=>⟨c0_0,hc0,hm⟩) _ rfl hl0 fS ht0 hc0.1 trivial h)))⟩)⟩)))) fun _ h=>(oG h fun _ h=>⟨h_guards,(cY (uef (bnt b_61)) ⟨hl0,(oG h fun _ h=>(have h:=cB h _ rfl;(aT (fun _ hm=>⟨c0_0,hc0,hm⟩) _ rfl hl0 fS ht0 hc0.1 trivial h)))⟩)⟩))) fun _ h=>(oG h fun _ h=>(oG h fun _ h=>(oG h fun _ h=>⟨h_guards,(cY (uef (bnt b_61)) ⟨hl0,(oG h fun _ h=>(have h:=cB h _ rfl;(aT (fun _ hm=>⟨c0_0,hc0,hm⟩) _ rfl hl0 fS ht0 hc0.1 trivial h)))⟩)⟩))))))) fun b_61 h=>(bL (ugt (cM (bnf b_61) (by decide))) (cY (cM (bnf b_61) (by decide)) (oG h fun _ h=>⟨h_guards,(bL (uet (bnf b_61)) (oC h (fun _ h=>(oG h fun _ h=>(oG h fun _ h=>⟨(kG (fY aC) (aH h_guards (M.idx (t:=aB) (fun g=>decide (g.1=(nS c0_0 i0).2.2.2.1)) guards)).2.1 rfl),(oG h fun _ h=>⟨hl0,(oG h fun _ h=>(have h:=cB h _ rfl;(aT (fun _ hm=>⟨c0_0,hc0,hm⟩) _ rfl hl0 fS ht0 hc0.1 trivial h)))⟩)⟩))) fun _ h=>⟨hl0,(oG h fun _ h=>(have h:=cB h _ rfl;(aT (fun _ hm=>⟨c0_0,hc0,hm⟩) _ rfl hl0 fS ht0 hc0.1 trivial h)))⟩))⟩))))⟩⟩) fun h=>(h trivial))
 ·rw[vc70]
  exact⟨h_tables,⟨h_guards,(oC h (fun _ h=>⟨h_tables,⟨h_plan,(oC h (fun _ h=>h) fun _ h=>⟨rfl,⟨(Int.natCast_nonneg _),⟨(FJ h_plan rfl),⟨h_plan,(oL h fun r1 _ h=>(have hi_0:=(aF h).1;have h:=(aF h).2;(bN (fun m hm=>⟨r1,⟨hi_0,trivial⟩,hm⟩) Z0 _ rfl (Int.natCast_nonneg 0) trivial (aU h (fun v0 h hv0=>⟨h_tables,(oG h fun _ h=>(oC h (fun _ h=>h) fun _ h=>h))⟩) (fun _ h=>h.elim)))))⟩⟩⟩⟩)⟩⟩) fun _ h=>h)⟩⟩
def c30:Con:=⟨[.dat TTb,.dat TGS,.dat TSS],fun args hp K=>g3 (pD TTb) (pD TGS) (pD TSS) (fun tables guards plan=>(Sm TTb tables)/\(Sm TGS guards)/\(Sm TSS plan)/\(LD (M.cX tables guards plan) fun r=>K (.tup [.data (Ty.sl TVS) r.1,dB r.2]) [])) args hp,.plain,false⟩
abbrev C30:Ctx:=cx [(21,c21),(70,c70)] 23 [] 0 false
def ann30:=an [[kp 7],[kp 769],[kp 262401],[kp 192],[kp 192]] []
theorem vc30 (tables:LTb) (guards:LG) (plan:LS) (K:KA):vcT C30 aA ann30 f30 [.data TTb tables,.data TGS guards,.data TSS plan] [] (.tup [(Ty.sl TVS),Ty.bool]) K =
 ((Sm TTb tables)/\(Sm TGS guards)/\(Sm TSS plan)/\(LD (M.bn tables guards plan) fun r1=>cond (!r1.2) (K (.tup [.data (Ty.sl TVS) [],dB false]) []) ((Sm TTb tables)/\(Sm TSS r1.1)/\(LD (M.cO tables r1.1) fun r2=>K (.tup [.data (Ty.sl TVS) r2,dB true]) [])))):=by kernel_rfl
theorem con30_ok:bg P 30 c30:=bq C30 func30 (kC con21_ok (kC con70_ok kN)) fun args hp K h0=>by
 obtain⟨tables,guards,plan,rfl,rfl,h_tables,h_guards,h_plan,hK⟩:=g3e h0
 have h:ok (F.nY tables guards plan) (fun r=>K (.tup [.data (Ty.sl TVS) r.1,dB r.2]) []):=az (F.vT tables guards plan h_tables h_guards h_plan) (hK _ rfl)
 refine⟨rfl,ann30,aA,(.tup [(Ty.sl TVS),Ty.bool]),(aG (by kernel_rfl)),?_⟩
 ·rw[vc30]
  exact⟨h_tables,⟨h_guards,⟨h_plan,(oL h fun _ _ h=>(oC h (fun _ h=>h) fun _ h=>⟨h_tables,(oG h fun _ h=>(oL h fun _ _ h=>h))⟩))⟩⟩⟩
abbrev C120:Ctx:=cx [(42,c42),(130,c130)] 10 [] 200000 true
def T120:Inl:=sO C120 (fun _=>[]) (dr f120) f120.results.toList
theorem inlOk120:uj P 120 T120:=yz C120 func120 (kC con42_ok (kC con130_ok kN))
abbrev C121:Ctx:=cx [] 9 [] 400000 true
def T121:Inl:=sO C121 (fun _=>[]) (dr f121) f121.results.toList
theorem inlOk121:uj P 121 T121:=yz C121 func121 kN
def c71:Con:=⟨[.dat TTb],fun args hp K=>g1 (pD TTb) (fun tables=>(Sm TTb tables)/\(LD tables fun r=>K (.clp 0 (r.length:Int)) [(0,.arr true aq r)])) args hp,.bor,false⟩
abbrev C71:Ctx:=cx [] 20 [(120,T120),(121,T121)] 0 true
def ann71:=an [[kp 1],[kp 9],[kp 456],[kp 968],[.fixRow 5 aq,kp 488],[kp 456],[kp 456],[kp 4]] [[kp 8]]
abbrev s71_0 (tables:LTb) (i0:Int) (v0:LTb):St:=⟨[(3,.own 3 none),(6,.data TTb tables),(7,dI (tables.length:Int)),(8,dI i0)],[(3,.arr true aq v0)]⟩
abbrev LP71_0 (tables:LTb) (m:Nat) (st_:St) (K:KX):Prop:=True/\bF (t:=aq) (s71_0 tables) tables (F.fW tables) (fun v0:LTb=>True) (br (fun v0:LTb=>True->K (.exit 0) (⟨[(3,.own 3 none)],[(3,.arr true aq v0)]⟩:St)) (fun _=>False)) m st_
def L71 (tables:LTb):bE:=lp1 0 (LP71_0 tables)
theorem vc71 (tables:LTb) (K:KA):vcT C71 (L71 tables) ann71 f71 [.data TTb tables] [] .raw K =
 (∃m_,True/\bF (t:=aq) (s71_0 tables) tables (F.fW tables) (fun v0:LTb=>True) (br (fun v0:LTb=>True->(0<=Z0)/\(Z0<=(v0.length:Int))/\((v0.length:Int)<=(v0.length:Int))/\((v0.length:Int)=(v0.length:Int))/\(Z0=0)/\K (.clp 0 ((v0.take (v0.length:Int).toNat).length:Int)) [(0,.arr true aq (v0.take (v0.length:Int).toNat))]) (fun _=>False)) m_ (s71_0 tables Z0 [])):=by kernel_rfl
theorem lvc71_0 (tables:LTb)  (i0:Int) (v0:LTb) (m:Nat) (K:KX):lvT C71 (L71 tables) ann71 f71 0 0 (s71_0 tables i0 v0) m K =
 (cond (decide (i0<(tables.length:Int))) ((0<=i0)/\(i0<(tables.length:Int))/\(Sm TCS (nT tables i0).1)/\(LD (nT tables i0).1 fun r1=>(Sm (Ty.sl TVS) (nT tables i0).2.1)/\(LD (nT tables i0).2.1 fun r2=>((v0.length+[((aj r1 (some (Z0,(r1.length:Int)))),((aj r2 (some (Z0,(r2.length:Int)))),()))].length) * 48<=lim)/\(nxT (LP71_0 tables) m K (s71_0 tables (wrap64 (i0+Z1)) (v0++[((aj r1 (some (Z0,(r1.length:Int)))),((aj r2 (some (Z0,(r2.length:Int)))),()))])))))) (K (.exit 0) (⟨[(3,.own 3 none)],[(3,.arr true aq v0)]⟩:St))):=by kernel_rfl
theorem con71_ok:bg P 71 c71:=bq C71 func71 (kI inlOk120 (kI inlOk121 kN)) fun args hp K h0=>by
 obtain⟨tables,rfl,rfl,h_tables,hK⟩:=g1e h0
 have h:ok (F.lp tables) (fun r=>K (.clp 0 (r.length:Int)) [(0,.arr true aq r)]):=az (F.tr tables h_tables) (hK _ rfl)
 refine⟨rfl,ann71,(L71 tables),.raw,(bA (i0:=0) (by kernel_rfl) ?_),?_⟩
 ·rintro _ _ K ⟨hc0,i0,v0,rfl,hl0,rfl,hv0,h⟩
  exact cast (lvc71_0 _ _ _ _ _).symm (bf (t:=aq) hl0 h (fun ht0 h=>⟨hl0,⟨ht0,⟨(aH h_tables i0).1,(oL h fun _ _ h=>⟨(aH h_tables i0).2.1,(oL h fun _ _ h=>(oG h fun _ h=>(aQ (t:=aq) (fun _ hm=>⟨hc0,hm⟩) _ rfl hl0 ht0 (aZ h_tables) trivial h)))⟩)⟩⟩⟩) fun h=>(h trivial))
 ·rw[vc71]
  exact(aR (t:=aq) (fun m hm=>⟨trivial,hm⟩) _ rfl trivial (aU h (fun v0 h hv0=>⟨(Int.natCast_nonneg 0),⟨(Int.natCast_nonneg _),⟨(Int.le_refl _),⟨rfl,⟨rfl,h⟩⟩⟩⟩⟩) (fun _ h=>h.elim)))
def c73:Con:=⟨[.dat TVS,.any],fun args hp K=>g2 (pD TVS) (pA aB) (fun r g=>(Sm TVS r)/\(Sm aB g)/\(M.bX r.length g.2.1)/\K (dB (M.holds r g.2.1)) []) args hp,.bor,false⟩
abbrev C73:Ctx:=cx [(66,c66)] 8 [] 0 false
def ann73:=an [[kp 3],[kp 8]] []
theorem vc73 (r:LV) (g:aB.D) (K:KA):vcT C73 aA ann73 f73 [.data TVS r,.adr aB g] [] (.dat Ty.bool) K =
 ((Sm TVS r)/\(Sm TPS g.2.1)/\(M.bX r.length g.2.1)/\K (dB (M.holds r g.2.1)) []):=by kernel_rfl
theorem con73_ok:bg P 73 c73:=bq C73 func73 (kC con66_ok kN) fun args hp K h0=>by
 obtain⟨r,g,rfl,rfl,h_r,h_g,p0,hK⟩:=g2e h0
 have h:ok (F.mZ r g) (fun r=>K (dB r) []):=az (F.rK r g h_r h_g p0) hK
 refine⟨rfl,ann73,aA,(.dat Ty.bool),(aG (by kernel_rfl)),?_⟩
 ·rw[vc73]
  exact⟨h_r,⟨h_g.2.1,⟨p0,h⟩⟩⟩
def c72:Con:=⟨[.dat (Ty.sl TVS),.any],fun args hp K=>args2 (fun a0 a1=>eV (Ty.sl TVS) a0 fun rows=>oT 73 a1 (zl (fun b1_0=>Fs aB b1_0 fun g=>(Sm (Ty.sl TVS) rows)/\(Sm aB g)/\(∀r∈rows,M.bX r.length g.2.1)/\(LD (List.filter (fun r=>M.holds r g.2.1) rows) fun r=>K (.clp 0 (r.length:Int)) [(0,.arr true TVS r)])))) args hp,.bor,false⟩
abbrev C72:Ctx:=cx [(42,c42),(73,c73)] 24 [] 0 false
def ann72:=an [[kp 3],[kp 35],[kp 1826],[kp 3874],[kp 1954],[kp 67490],[kp 1826],[kp 1826],[kp 16]] [[kp 32]]
abbrev s72_0 (rows:(List LV)) (g:aB.D) (i0:Int) (v0:(List LV)):St:=⟨[(1,.fn 73 [.adr aB g]),(5,.own 5 none),(8,.data (Ty.sl TVS) rows),(9,dI (rows.length:Int)),(10,dI i0)],[(5,.arr false TVS v0)]⟩
abbrev LP72_0 (rows:(List LV)) (g:aB.D) (m:Nat) (st_:St) (K:KX):Prop:=True/\bF (t:=TVS) (s72_0 rows g) rows (F.lU rows g) (fun v0:(List LV)=>True) (br (fun v0:(List LV)=>True->K (.exit 0) (⟨[(5,.own 5 none)],[(5,.arr false TVS v0)]⟩:St)) (fun _=>False)) m st_
def L72 (rows:(List LV)) (g:aB.D):bE:=lp1 0 (LP72_0 rows g)
theorem vc72 (rows:(List LV)) (g:aB.D) (K:KA):vcT C72 (L72 rows g) ann72 f72 [.data (Ty.sl TVS) rows,.fn 73 [.adr aB g]] [] .raw K =
 (∃m_,True/\bF (t:=TVS) (s72_0 rows g) rows (F.lU rows g) (fun v0:(List LV)=>True) (br (fun v0:(List LV)=>True->(Sm (Ty.sl TVS) v0)/\(LD v0 fun r1=>K (.clp 0 ((r1.take (r1.length:Int).toNat).length:Int)) [(0,.arr true TVS (r1.take (r1.length:Int).toNat))])) (fun _=>False)) m_ (s72_0 rows g Z0 [])):=by kernel_rfl
theorem lvc72_0 (rows:(List LV)) (g:aB.D)  (i0:Int) (v0:(List LV)) (m:Nat) (K:KX):lvT C72 (L72 rows g) ann72 f72 0 0 (s72_0 rows g i0 v0) m K =
 (cond (decide (i0<(rows.length:Int))) ((0<=i0)/\(i0<(rows.length:Int))/\(Sm TVS (nth (t:=TVS) rows i0))/\(Sm aB g)/\(M.bX (nth (t:=TVS) rows i0).length g.2.1)/\cond (M.holds (nth (t:=TVS) rows i0) g.2.1) (((v0.length+[(nth (t:=TVS) rows i0)].length) * 24<=lim)/\(nxT (LP72_0 rows g) m K (s72_0 rows g (wrap64 (i0+Z1)) (v0++[(nth (t:=TVS) rows i0)])))) (nxT (LP72_0 rows g) m K (s72_0 rows g (wrap64 (i0+Z1)) v0))) (K (.exit 0) (⟨[(5,.own 5 none)],[(5,.arr false TVS v0)]⟩:St))):=by kernel_rfl
theorem con72_ok:bg P 72 c72:=bq C72 func72 (kC con42_ok (kC con73_ok kN)) fun args hp K h0=>by
 obtain⟨a0,a1,rfl,rfl,h1⟩:=ck h0
 obtain⟨rows,rfl,h2⟩:=bw h1
 obtain⟨cs1,rfl,h3⟩:=eL h2
 obtain⟨b1_0,rfl,h4⟩:=mI h3
 obtain⟨g,rfl,h5⟩:=zY h4
 obtain⟨h_rows,h_g,p0,hK⟩:=h5
 have h:ok (F.xu rows g) (fun r=>K (.clp 0 (r.length:Int)) [(0,.arr true TVS r)]):=az (F.CR rows g h_rows h_g p0) (hK _ rfl)
 refine⟨rfl,ann72,(L72 rows g),.raw,(bA (i0:=0) (by kernel_rfl) ?_),?_⟩
 ·rintro _ _ K ⟨hc0,i0,v0,rfl,hl0,rfl,hv0,h⟩
  exact cast (lvc72_0 _ _ _ _ _ _).symm (bf (t:=TVS) hl0 h (fun ht0 h=>⟨hl0,⟨ht0,⟨(aH h_rows i0),⟨h_g,(oG h fun _ h=>(oC h (fun _ h=>(oG h fun _ h=>(aQ (t:=TVS) (fun _ hm=>⟨hc0,hm⟩) _ rfl hl0 ht0 (aZ h_rows) trivial h))) fun _ h=>(aQ (t:=TVS) (fun _ hm=>⟨hc0,hm⟩) _ rfl hl0 ht0 (aZ h_rows) trivial h)))⟩⟩⟩⟩) fun h=>(h trivial))
 ·rw[vc72]
  exact(aR (t:=TVS) (fun m hm=>⟨trivial,hm⟩) _ rfl trivial (aU h (fun v0 h hv0=>(oG h fun _ h=>(oL h fun _ _ h=>h))) (fun _ h=>h.elim)))
def c31:Con:=⟨[.dat TTb,.dat TGS],fun args hp K=>g2 (pD TTb) (pD TGS) (fun tables guards=>(Sm TTb tables)/\(Sm TGS guards)/\(LD (M.aX tables guards) fun r=>K (.clp 0 (r.length:Int)) [(0,.arr true aq r)])) args hp,.bor,false⟩
abbrev C31:Ctx:=cx [(49,c49),(71,c71),(72,c72),(73,c73)] 35 [] 0 true
def ann31:=an [[kp 3],[kp 2051],[.clip 4,kp 16],[kp 34],[kp 114720],[kp 245792],[.fixRow 7 aB,kp 114848],[kp 114720],[kp 114720],[kp 16]] [[kp 32]]
abbrev s31_0 (tables:LTb) (guards:LG) (c0_0:Int) (i0:Int) (v0:LTb):St:=⟨[(5,.clp 13 c0_0),(14,.data TGS guards),(15,dI (guards.length:Int)),(16,dI i0)],[(13,.arr true aq v0)]⟩
abbrev LP31_0 (tables:LTb) (guards:LG) (m:Nat) (st_:St) (K:KX):Prop:=∃c0_0:Int,True/\bF (t:=aB) (s31_0 tables guards c0_0) guards (F.eT tables guards c0_0) (fun v0:LTb=>True) (br (fun v0:LTb=>True->K (.exit 0) (⟨[(5,.clp 13 c0_0)],[(13,.arr true aq v0)]⟩:St)) (fun _=>False)) m st_
def L31 (tables:LTb) (guards:LG):bE:=lp1 0 (LP31_0 tables guards)
theorem vc31 (tables:LTb) (guards:LG) (K:KA):vcT C31 (L31 tables guards) ann31 f31 [.data TTb tables,.data TGS guards] [] .raw K =
 ((Sm TTb tables)/\(Sm TGS guards)/\cond (!(M.bB tables guards)) (K (.clp 0 (([]:List aq.D).length:Int)) [(0,.arr true aq ([]:List aq.D))]) ((Sm TTb tables)/\(LD tables fun r1=>(∃m_,∃c0_0:Int,True/\bF (t:=aB) (s31_0 tables guards c0_0) guards (F.eT tables guards c0_0) (fun v0:LTb=>True) (br (fun v0:LTb=>True->K (.clp 0 ((v0.take c0_0.toNat).length:Int)) [(0,.arr true aq (v0.take c0_0.toNat))]) (fun _=>False)) m_ (s31_0 tables guards (r1.length:Int) Z0 r1))))):=by kernel_rfl
theorem lvc31_0 (tables:LTb) (guards:LG) (c0_0:Int) (i0:Int) (v0:LTb) (m:Nat) (K:KX):lvT C31 (L31 tables guards) ann31 f31 0 0 (s31_0 tables guards c0_0 i0 v0) m K =
 (cond (decide (i0<(guards.length:Int))) ((0<=i0)/\(i0<(guards.length:Int))/\(0<=(nG guards i0).1)/\((nG guards i0).1<c0_0)/\(Sm (Ty.sl TVS) (nT v0 (nG guards i0).1).2.1)/\(Sm aB (nG guards i0))/\(∀r∈(nT v0 (nG guards i0).1).2.1,M.bX r.length (nG guards i0).2.1)/\(LD (List.filter (fun r=>M.holds r (nG guards i0).2.1) (nT v0 (nG guards i0).1).2.1) fun r2=>(0<=(nG guards i0).1)/\((nG guards i0).1<c0_0)/\(let y1:LTb:=(v0.set (nG guards i0).1.toNat ((nT v0 (nG guards i0).1).1,((aj r2 (some (Z0,(r2.length:Int)))),())));(nxT (LP31_0 tables guards) m K (s31_0 tables guards c0_0 (wrap64 (i0+Z1)) y1))))) (K (.exit 0) (⟨[(5,.clp 13 c0_0)],[(13,.arr true aq v0)]⟩:St))):=by kernel_rfl
theorem con31_ok:bg P 31 c31:=bq C31 func31 (kC con49_ok (kC con71_ok (kC con72_ok (kC con73_ok kN)))) fun args hp K h0=>by
 obtain⟨tables,guards,rfl,rfl,h_tables,h_guards,hK⟩:=g2e h0
 have h:ok (F.lz tables guards) (fun r=>K (.clp 0 (r.length:Int)) [(0,.arr true aq r)]):=az (F.tV tables guards h_tables h_guards) (hK _ rfl)
 refine⟨rfl,ann31,(L31 tables guards),.raw,(bA (i0:=0) (by kernel_rfl) ?_),?_⟩
 ·rintro _ _ K ⟨c0_0,hc0,i0,v0,rfl,hl0,rfl,hv0,h⟩
  exact cast (lvc31_0 _ _ _ _ _ _ _).symm (bf (t:=aB) hl0 h (fun ht0 h=>⟨hl0,⟨ht0,(oG h fun g1 h=>(oG h fun g2 h=>(oG h fun _ h=>⟨(aH h_guards i0),(oG h fun _ h=>(oL h fun _ _ h=>⟨g1,⟨g2,(have h:=cB h _ rfl;(aQ (t:=aB) (fun _ hm=>⟨c0_0,hc0,hm⟩) _ rfl hl0 ht0 (aZ h_guards) trivial h))⟩⟩))⟩)))⟩⟩) fun h=>(h trivial))
 ·rw[vc31]
  exact⟨h_tables,⟨h_guards,(oC h (fun _ h=>h) fun _ h=>⟨h_tables,(oL h fun r1 _ h=>(aR (t:=aB) (fun m hm=>⟨(r1.length:Int),trivial,hm⟩) _ rfl trivial (aU h (fun v0 h hv0=>h) (fun _ h=>h.elim))))⟩)⟩⟩
def c8:Con:=⟨[.dat TBy],fun args hp K=>g1 (pD TBy) (fun code=>(Ln TBy code)/\(M.ay code)/\K (dB true) []) args hp,.plain,false⟩
abbrev C8:Ctx:=cx [(15,c15),(18,c18),(24,c24),(29,c29),(30,c30),(31,c31)] 65 [] 0 true
def ann8:=an [[kp 1],[kp 16385],[kp 4],[kp 56],[kp 248],[kp 1016],[kp 8796093022456],[kp 4],[kp 35184372088952],[kp 4],[kp 3136],[kp 4]] []
theorem vc8 (code:LI) (K:KA):vcT C8 aA ann8 f8 [.data TBy code] [] (.dat Ty.bool) K =
 (cond (decide ((1048576:Int)<(code.length:Int))) (K (dB true) []) ((Sm TBy code)/\(M.ay code)/\(LD (M.cE code) fun r1=>(Sm TTb r1.1)/\(Sm TGS r1.2.1)/\(Sm TSS r1.2.2)/\(LD (M.cX r1.1 r1.2.1 r1.2.2) fun r2=>(Sm TTb r1.1)/\(Sm TGS r1.2.1)/\(Sm TSS r1.2.2)/\(LD (M.cX r1.1 r1.2.1 r1.2.2) fun r3=>cond ((!(Ty.beq Ty.bool r2.2 r3.2))==false) ((Sm (Ty.sl TVS) (aj r2.1 (some (Z0,(r2.1.length:Int)))))/\(Sm (Ty.sl TVS) r3.1)/\((aj r2.1 (some (Z0,(r2.1.length:Int))))=r3.1)/\cond (!true) (K (dB false) []) (cond (!r2.2) (K (dB true) []) ((Sm TTb r1.1)/\(Sm TGS r1.2.1)/\(LD (M.aX r1.1 r1.2.1) fun r4=>(Sm TTb (aj r4 (some (Z0,(r4.length:Int)))))/\(Sm TGS r1.2.1)/\(Sm TSS r1.2.2)/\(LD (M.cX (aj r4 (some (Z0,(r4.length:Int)))) r1.2.1 r1.2.2) fun r5=>cond (r5.2==true) ((Sm (Ty.sl TVS) (aj r5.1 (some (Z0,(r5.1.length:Int)))))/\(Sm (Ty.sl TVS) (aj r2.1 (some (Z0,(r2.1.length:Int)))))/\((aj r5.1 (some (Z0,(r5.1.length:Int))))=(aj r2.1 (some (Z0,(r2.1.length:Int)))))/\cond (true==true) (K (dB true) []) (K (dB false) [])) (K (dB false) [])))))) (K (dB false) [])))))):=by kernel_rfl
theorem con8_ok:bg P 8 c8:=bq C8 func8 (kC con15_ok (kC con18_ok (kC con24_ok (kC con29_ok (kC con30_ok (kC con31_ok kN)))))) fun args hp K h0=>by
 obtain⟨code,rfl,rfl,h_code,p0,hK⟩:=g1e h0
 have h:ok (F.lF code) (fun r=>K (dB r) []):=az (F.tI code h_code p0) hK
 refine⟨rfl,ann8,aA,(.dat Ty.bool),(aG (by kernel_rfl)),?_⟩
 ·rw[vc8]
  exact(oC h (fun _ h=>h) fun _ h=>(oG h fun _ h=>⟨p0,(oL h fun _ _ h=>(oG h fun g1 h=>(oG h fun g2 h=>(oG h fun g3 h=>(oL h fun _ _ h=>⟨g1,⟨g2,⟨g3,(oL h fun _ _ h=>(oC h (fun _ h=>(oG h fun g4 h=>(oG h fun _ h=>(oG h fun _ h=>(oC h (fun _ h=>h) fun b_10 h=>(oC h (fun _ h=>h) fun _ h=>⟨g1,⟨g2,(oL h fun _ _ h=>(oG h fun _ h=>⟨g2,⟨g3,(oL h fun _ _ h=>(oC h (fun _ h=>(oG h fun _ h=>⟨g4,(oG h fun _ h=>(bL (uet (bnf b_10)) h))⟩)) fun _ h=>h))⟩⟩))⟩⟩)))))) fun _ h=>h))⟩⟩⟩)))))⟩))
end Go.AE
