/- The seat's facts for the evaluator. -/
import Derived.Test.YtmkgiaecgkicoaaGreatChecked
import Derived.Test.YtmkgiaecgkicoaaGreatAeMark
import Derived.Test.YtmkgiaecgkicoaaGreatAeInl
import Derived.KernelRfl
section
namespace Go.AE
open Go Go.RowKit
noncomputable abbrev P:Program:=Go.Proofs.Tryz.prog
def tab:Tab:=[(0,⟨.other,1,0⟩),
  (64,⟨.st [(0,3, "In"),(1,62, "Row"),(2,4, "Come")] TChange,3,40⟩),
  (3,⟨.val (Ty.int .i64),1,8⟩),
  (62,⟨.sl 182 aa,1,24⟩),
  (182,⟨.st [(0,3, "Kind"),(1,3, "N"),(2,9, "S")] aa,3,32⟩),
  (9,⟨.val Ty.str,1,16⟩),
  (4,⟨.val Ty.bool,1,1⟩),
  (22,⟨.sl 92 TTable,1,24⟩),
  (92,⟨.st [(0,89, "Columns"),(1,90, "Rows")] TTable,2,48⟩),
  (89,⟨.sl 210 ai,1,24⟩),
  (210,⟨.st [(0,3, "Kind"),(1,4, "Empty")] ai,2,16⟩),
  (90,⟨.sl 62 (Ty.sl aa),1,24⟩),
  (23,⟨.sl 96 TBond,1,24⟩),
  (96,⟨.st [(0,3, "Kind"),(1,3, "In"),(2,56, "List"),(3,3, "Of"),(4,56, "To"),(5,4, "Follow"),(6,94, "E")] TBond,7,104⟩),
  (56,⟨.sl 3 (Ty.int .i64),1,24⟩),
  (94,⟨.sl 208 ax,1,24⟩),
  (208,⟨.st [(0,3, "Kind"),(1,3, "N"),(2,182, "V")] ax,5,48⟩),
  (28,⟨.sl 75 TTable,1,24⟩),
  (75,⟨.st [(0,73, "Columns"),(1,71, "Rows")] TTable,2,48⟩),
  (73,⟨.sl 115 ai,1,24⟩),
  (115,⟨.st [(0,3, "Kind"),(1,4, "Empty")] ai,2,16⟩),
  (71,⟨.sl 48 (Ty.sl aa),1,24⟩),
  (48,⟨.sl 118 aa,1,24⟩),
  (118,⟨.st [(0,3, "Kind"),(1,3, "N"),(2,9, "S")] aa,3,32⟩),
  (32,⟨.sl 61 TBond,1,24⟩),
  (61,⟨.st [(0,3, "Kind"),(1,3, "In"),(2,56, "List"),(3,3, "Of"),(4,56, "To"),(5,4, "Follow"),(6,59, "E")] TBond,7,104⟩),
  (59,⟨.sl 165 ax,1,24⟩),
  (165,⟨.st [(0,3, "Kind"),(1,3, "N"),(2,118, "V")] ax,5,48⟩),
  (50,⟨.st [(0,3, "In"),(1,48, "Row"),(2,4, "Come")] TChange,3,40⟩),
  (29,⟨.other,1,0⟩),
  (132,⟨.other,1,8⟩),
  (174,⟨.ptr 75,1,8⟩),
  (179,⟨.other,1,8⟩),
  (196,⟨.other,1,0⟩),
  (5,⟨.val (Ty.int .u8),1,1⟩),
  (43,⟨.sl 5 (Ty.int .u8),1,24⟩),
  (224,⟨.other,1,0⟩),
  (228,⟨.other,1,8⟩),
  (172,⟨.other,1,8⟩)]
def GF:List TypeId:=[4,118]
theorem tab_check:BL P tab tab=true:=by kernel_rfl
theorem wT:CJ P tab GF=true:=by kernel_rfl
theorem mixed:P.follows .mixedOrders=true:=by kernel_rfl
abbrev cx (l:Cons) (n:Nat) (inl:List (Nat×Inl)) (off:Nat) (deep:Bool):Ctx:=⟨tab,fun t=>jw t GF,l,n,inl,off,deep⟩
theorem aR (C:Ctx) {f:FuncId} {fn:Func} {con:Con} (hf:P.funcs[f]? = some fn) (hC:dx P C) (hcon:∀args hp K,con.run args hp K->(Nat.ble args.length fn.ntmps&&Nat.ble args.length bF)=true/\∃(ann:Nat->List Dir) (L:aX) (k:RK),(∀p∈bJ (dL fn),fo C L ann p.1 p.2)/\vcT C L ann fn args hp k K)
    (hT:TabOk P C:=by exact BW tab_check wT) (hq:((fn.name == "runtime.NumGoroutine")||fn.body.isNone)=false:=by kernel_rfl) (hN:C.n=fn.ntmps:=by rfl):aP P f con:=IF [] hT mixed hf hq hC hN hcon
theorem Jw (ds:List (Nat×Bool)) (C:Ctx) {f:FuncId} {fn:Func} {con:Con} (hf:P.funcs[f]? = some fn) (hC:dx P C) (hcon:∀args hp K,con.run args hp K->(Nat.ble args.length fn.ntmps&&Nat.ble args.length bF)=true/\∃(ann:Nat->List Dir) (L:aX) (k:RK),(∀p∈bJ (dL (En ds fn)),fo C L ann p.1 p.2)/\vcT C L ann (En ds fn) args hp k K)
    (hT:TabOk P C:=by exact BW tab_check wT) (hq:((fn.name == "runtime.NumGoroutine")||fn.body.isNone)=false:=by kernel_rfl) (hN:C.n=fn.ntmps:=by rfl):aP P f con:=IF ds hT mixed hf hq hC hN hcon
theorem CB (C:Ctx) {f:FuncId} {fn:Func} (hf:P.funcs[f]? = some fn) (hC:dx P C) {ann:Nat->List Dir} (hT:TabOk P C:=by exact BW tab_check wT) (hq:((fn.name == "runtime.NumGoroutine")||fn.body.isNone)=false:=by kernel_rfl) (hN:C.n=fn.ntmps:=by rfl)
    (hl:bJ (dL fn)=[]:=by kernel_rfl):vL P f (vW C ann (dL fn) fn.results.toList):=Jn hT mixed hf hq hC hN hl
abbrev nT (xs:List TTable.D) (i:Int):TTable.D:=nth (t:=TTable) xs i
abbrev nS (xs:List xE.D) (i:Int):xE.D:=nth (t:=xE) xs i
abbrev nC (xs:List ai.D) (i:Int):ai.D:=nth (t:=ai) xs i
abbrev nI (xs:List au.D) (i:Int):au.D:=nth (t:=au) xs i
abbrev nP (xs:List ax.D) (i:Int):ax.D:=nth (t:=ax) xs i
abbrev nM (xs:List GA.D) (i:Int):GA.D:=nth (t:=GA) xs i
abbrev nG (xs:List wN.D) (i:Int):wN.D:=nth (t:=wN) xs i
abbrev nV (xs:List aa.D) (i:Int):aa.D:=nth (t:=aa) xs i
abbrev Z0:Int:=0
abbrev Z1:Int:=1
abbrev Z2:Int:=2
abbrev Z3:Int:=3
abbrev Z4:Int:=4
abbrev Z5:Int:=5
abbrev Z6:Int:=6
abbrev dI (n:Int):AV:=.data au n
abbrev dB (b:Bool):AV:=.data Ty.bool b
abbrev KA:Type:=AV->Hp->Prop
abbrev KX:Type:=X->St->Prop
abbrev TBy:Ty:=.sl (.int .u8)
abbrev LI:Type:=List Int
abbrev LLI:Type:=List LI
end Go.AE
end
section
namespace Go.AE
open Go Go.RowKit
set_option linter.unusedVariables false
def M.cE (rows:List (List aa.D)) (row:List aa.D):Nat:=rows.countP fun r=>decide (r=row)
namespace M
def Rows (st:GX) (all:List (List (List aa.D))):Prop:=all.length=st.1.length/\st.2.length=st.1.length/\∀j:Int,0<=j->j<(all.length:Int) →
 ((nth (t:=.sl (.sl aa)) all j:List (List aa.D)).length:Int)<=nth (t:=.int .i64) st.2 j/\nth (t:=.int .i64) st.2 j<=300/\(nth (t:=.sl ai) st.1 j:List ai.D).length<=4 ∧
 Sm (.sl (.sl aa)) (nth (t:=.sl (.sl aa)) all j)/\∀r∈(nth (t:=.sl (.sl aa)) all j:List (List aa.D)),r.length=(nth (t:=.sl ai) st.1 j:List ai.D).length
end M
end Go.AE
end
section
namespace Go.AE
open Go Go.RowKit
set_option linter.unusedVariables false
def M.rowAt (rows:List (List aa.D)) (row:List aa.D):Int:=M.idx (t:=.sl aa) (fun e=>decide (e=row)) rows
def M.aV (tables:List TTable.D) (c:TChange.D):Bool:=M.aA tables&&(M.inR c.1 0 ((tables.length:Int)-1)&&(M.bG (nth (t:=TTable) tables c.1).1 c.2.1 &&
 cond c.2.2.1 (decide (((nth (t:=TTable) tables c.1).2.1.length:Int)<(6:Int))) (decide ((0:Int)<=M.rowAt (nth (t:=TTable) tables c.1).2.1 c.2.1))))
def M.jd (rows:List (List aa.D)) (c:TChange.D):List (List aa.D):=cond c.2.2.1 (rows++[c.2.1]) (rows.take (M.rowAt rows c.2.1).toNat++rows.drop ((M.rowAt rows c.2.1).toNat+1))
def M.bt (tables:List TTable.D) (c:TChange.D):List TTable.D:=tables.set c.1.toNat ((nth (t:=TTable) tables c.1).1,(M.jd (nth (t:=TTable) tables c.1).2.1 c,()))
def M.eI (b:List (List aa.D)) (s:List (List aa.D)×List (List aa.D)) (r:List aa.D):List (List aa.D)×List (List aa.D):=cond (decide ((M.cE s.2 r:Int)<(M.cE b r:Int))) (s.1,s.2++[r]) (s.1++[r],s.2)
def M.mS (a b:List (List aa.D)):List (List aa.D):=(a.foldl (M.eI b) ([],[])).1
def M.rR (bonds:List TBond.D) (now:List TTable.D) (c:TChange.D):List TTable.D:=cond (M.aV now c&&M.cU (M.bt now c) bonds) (M.bt now c) now
def M.gL (ts:List TTable.D) (i n:Int):List TTable.D:=ts.set i.toNat ((nth (t:=TTable) ts i).1,((nth (t:=TTable) ts i).2.1.take n.toNat++(nth (t:=TTable) ts i).2.1.drop (n.toNat+1),()))
def M.loose (now:List TTable.D) (b:TBond.D):Bool:=b.2.2.2.2.2.1&&decide (0<=M.broken now b)
def M.follow (bonds:List TBond.D):Nat->List TTable.D->List TTable.D
 | 0,now=>now
 | n+1,now=>match bonds.find? (M.loose now) with
  | none=>now
  | some b=>M.follow bonds n (M.gL now b.2.1 (M.broken now b))
def M.bR (tables:List TTable.D) (bonds:List TBond.D) (c:TChange.D):List TTable.D×Bool:=
 cond (M.aV tables c&&(decide (bonds.length<=4)&&bonds.all (M.aN tables))) (cond (M.cU (M.follow bonds 19 (M.bt tables c)) bonds) (M.follow bonds 19 (M.bt tables c),true) ([],false)) ([],false)
namespace M
def ir (x:TChange.D) (l:Int):Int:=iP (szS bM x.2.1 l) fun l=>l
theorem Dn:Le ir:=fun x l h=>jR (lA dW _ _ h) h fun _=>Int.le_refl _
theorem zn:vt TChange ir:=by
 intro x l h0 h1 h
 obtain⟨a,_⟩:=fI h
 exact⟨trivial,mg dW og x.2.1 l h0 h1 a,trivial,trivial⟩
theorem Ir (rows:List (List aa.D)) (row:List aa.D):decide ((0:Int)<(cE rows row:Int))=decide ((0:Int)<=rowAt rows row):=by
 unfold rowAt
 rw[zT]
 unfold cE
 cases h:rows.any fun e=>decide (e=row) with
 | true=>
  obtain⟨x,hx,hp⟩:=List.any_eq_true.1 h
  have:0<List.countP (fun r=>decide (r=row)) rows:=List.countP_pos_iff.2 ⟨x,hx,hp⟩
  exact decide_eq_true (by omega)
 | false=>
  rw[List.any_eq_false] at h
  have:List.countP (fun r=>decide (r=row)) rows=0:=List.countP_eq_zero.2 h
  rw[this]
  rfl
theorem Gx {ρ:Type} {f:List aa.D->List (List aa.D)×List (List aa.D)->Option (Sum (List (List aa.D)×List (List aa.D)) ρ)} {a b:List (List aa.D)} (ha:Sm (.sl (.sl aa)) a)
  (hf:∀z s,s.1.length+s.2.length<a.length->Sm (.sl (.sl aa)) s.1->Sm (.sl (.sl aa)) s.2->f z s=some (.inl (eI b s z))):aK f a ([],[])=some (.inl (a.foldl (eI b) ([],[]))):=by
 have key:∀(ys zs:List (List aa.D)) (s:List (List aa.D)×List (List aa.D)),a=zs++ys->s.1.length+s.2.length=zs.length->(∀x∈s.1,x∈a)->(∀x∈s.2,x∈a)->aK f ys s=some (.inl (ys.foldl (eI b) s)):=by
  intro ys
  induction ys with
  | nil=>intro zs s _ _ _ _;rfl
  | cons y ys ih=>
   intro zs s e hs h1 h2
   have hl:zs.length+(ys.length+1)=a.length:=by rw[e];simp
   have hal:=ha.1
   rw[cq,hf y s (by omega) ⟨by omega,fun x hx=>ha.2 x (h1 x hx)⟩ ⟨by omega,fun x hx=>ha.2 x (h2 x hx)⟩,bL,List.foldl_cons]
   have hy:y∈a:=by rw[e];simp
   have es:eI b s y=cond (decide ((cE s.2 y:Int)<(cE b y:Int))) (s.1,s.2++[y]) (s.1++[y],s.2):=rfl
   rw[es]
   cases decide ((cE s.2 y:Int)<(cE b y:Int)) with
   | true=>
    refine ih (zs++[y]) _ (by rw[e];simp) (by simp;omega) h1 fun x hx=>?_
    rcases List.mem_append.1 hx with hx | hx
    ·exact h2 x hx
    ·rw[List.mem_singleton.1 hx];exact hy
   | false=>
    refine ih (zs++[y]) _ (by rw[e];simp) (by simp;omega) (fun x hx=>?_) h2
    rcases List.mem_append.1 hx with hx | hx
    ·exact h1 x hx
    ·rw[List.mem_singleton.1 hx];exact hy
 exact key a [] ([],[]) rfl rfl (fun x hx=>by cases hx) (fun x hx=>by cases hx)
theorem sk {ts:List TTable.D} {i:Int} {z:TTable.D} (h0:0<=i) (h1:i<(ts.length:Int)):nth (t:=TTable) (ts.set i.toNat z) i=z:=by
 unfold nth
 rw[List.getD_eq_getElem?_getD,List.getElem?_set_self (by omega)]
 rfl
theorem By {ts:List TTable.D} {i j:Int} {z:TTable.D} (h0:0<=i) (h1:0<=j) (h:i≠j):nth (t:=TTable) (ts.set i.toNat z) j=nth (t:=TTable) ts j:=by
 unfold nth
 rw[List.getD_eq_getElem?_getD,List.getD_eq_getElem?_getD,List.getElem?_set_ne (by omega)]
theorem Ik {ts:List TTable.D} {i:Int} {w:List (List aa.D)} (h0:0<=i) (h1:i<(ts.length:Int)) :
  ((ts.set i.toNat ((nth (t:=TTable) ts i).1,([],()))).set i.toNat ((nth (t:=TTable) (ts.set i.toNat ((nth (t:=TTable) ts i).1,([],()))) i).1,(w,())))=ts.set i.toNat ((nth (t:=TTable) ts i).1,(w,())):=by
 rw[List.set_set,sk h0 h1]
theorem Jp {ts:List TTable.D} {i:Int} {w:List (List aa.D)} (h0:0<=i) (h1:i<(ts.length:Int)) :
  ((ts.set i.toNat ((nth (t:=TTable) ts i).1,(w,()))).set i.toNat ((nth (t:=TTable) (ts.set i.toNat ((nth (t:=TTable) ts i).1,(w,()))) i).1,((nth (t:=TTable) (ts.set i.toNat ((nth (t:=TTable) ts i).1,(w,()))) i).2.1,())))=ts.set i.toNat ((nth (t:=TTable) ts i).1,(w,())):=by
 rw[List.set_set,sk h0 h1]
theorem Ge (a:List (List aa.D)) (r x:List aa.D):cE (r::a) x=(if r=x then 1 else 0)+cE a x:=by
 unfold cE
 rw[List.countP_cons]
 by_cases h:r=x<;>simp[h]<;>omega
theorem GQ (rows:List (List aa.D)) (x:List aa.D) (h:0<=rowAt rows x):mS rows [x]=rows.take (rowAt rows x).toNat++rows.drop ((rowAt rows x).toNat+1):=by
 have m1:∀y,cE [x] y=if x=y then 1 else 0:=fun y=>by
  have:=Ge [] x y
  rw[this]
  rfl
 have key2:∀(l out:List (List aa.D)),(l.foldl (eI [x]) (out,[x]))=(out++l,[x]):=by
  intro l
  induction l with
  | nil=>intro out;rw[List.append_nil];rfl
  | cons y l ih=>
   intro out
   have e:eI [x] (out,[x]) y=(out++[y],[x]):=by
    unfold eI
    rw[decide_eq_false (by show ¬((cE [x] y:Nat):Int)<_;omega),cond_false]
   rw[List.foldl_cons,e,ih,List.append_assoc]
   rfl
 have key:∀(l out:List (List aa.D)),(∃k,l.findIdx? (fun e=>decide (e=x))=some k/\(l.foldl (eI [x]) (out,[])).1=out++(l.take k++l.drop (k+1)))\/l.findIdx? (fun e=>decide (e=x))=none:=by
  intro l
  induction l with
  | nil=>intro out;exact .inr rfl
  | cons y l ih=>
   intro out
   rw[List.findIdx?_cons]
   by_cases hy:y=x
   ·left
    refine⟨0,by rw[decide_eq_true hy];rfl,?_⟩
    have e:eI [x] (out,[]) y=(out,[x]):=by
     unfold eI
     rw[m1,if_pos hy.symm,decide_eq_true (by show ((cE [] y:Nat):Int)<_;exact Int.zero_lt_one),cond_true,hy]
     rfl
    rw[List.foldl_cons,e,key2]
    rfl
   ·rw[decide_eq_false hy]
    have e:eI [x] (out,[]) y=(out++[y],[]):=by
     unfold eI
     rw[m1,if_neg (fun q=>hy q.symm),decide_eq_false (by show ¬((cE [] y:Nat):Int)<_;exact Int.lt_irrefl 0),cond_false]
    rcases ih (out++[y]) with⟨k,h1,h2⟩ | h1
    ·left
     refine⟨k+1,by rw[h1];rfl,?_⟩
     rw[List.foldl_cons,e,h2,List.append_assoc]
     rfl
    ·right
     rw[h1]
     rfl
 unfold mS
 unfold rowAt idx at h ⊢
 rcases key rows [] with⟨k,h1,h2⟩ | h1
 ·rw[h1]
  rw[h2,List.nil_append]
  rfl
 ·rw[h1] at h
  exact absurd h (by decide)
end M
end Go.AE
end
