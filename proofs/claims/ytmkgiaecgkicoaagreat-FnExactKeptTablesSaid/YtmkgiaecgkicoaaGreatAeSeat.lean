/- The seat's facts for the evaluator. -/
import Derived.Test.YtmkgiaecgkicoaaGreatChecked
import Derived.Test.YtmkgiaecgkicoaaGreatAeMark
import Derived.Test.YtmkgiaecgkicoaaGreatAeInl
import Derived.KernelRfl
section
namespace Go.AE
open Go Go.RowKit
noncomputable abbrev P:Program:=Go.Proofs.Tryz.prog
def tab:Tab:=[(4,⟨.val Ty.bool,1,1⟩),
  (3,⟨.val (Ty.int .i64),1,8⟩),
  (22,⟨.sl 92 TTable,1,24⟩),
  (92,⟨.st [(0,89, "Columns"),(1,90, "Rows")] TTable,2,48⟩),
  (89,⟨.sl 210 ai,1,24⟩),
  (210,⟨.st [(0,3, "Kind"),(1,4, "Empty")] ai,2,16⟩),
  (90,⟨.sl 62 (Ty.sl aa),1,24⟩),
  (62,⟨.sl 182 aa,1,24⟩),
  (182,⟨.st [(0,3, "Kind"),(1,3, "N"),(2,9, "S")] aa,3,32⟩),
  (9,⟨.val Ty.str,1,16⟩),
  (23,⟨.sl 96 TBond,1,24⟩),
  (96,⟨.st [(0,3, "Kind"),(1,3, "In"),(2,56, "List"),(3,3, "Of"),(4,56, "To"),(5,4, "Follow"),(6,94, "E")] TBond,7,104⟩),
  (56,⟨.sl 3 (Ty.int .i64),1,24⟩),
  (94,⟨.sl 208 ax,1,24⟩),
  (208,⟨.st [(0,3, "Kind"),(1,3, "N"),(2,182, "V")] ax,5,48⟩),
  (24,⟨.sl 64 TChange,1,24⟩),
  (64,⟨.st [(0,3, "In"),(1,62, "Row"),(2,4, "Come")] TChange,3,40⟩),
  (28,⟨.sl 75 TTable,1,24⟩),
  (75,⟨.st [(0,73, "Columns"),(1,71, "Rows")] TTable,2,48⟩),
  (73,⟨.sl 115 ai,1,24⟩),
  (115,⟨.st [(0,3, "Kind"),(1,4, "Empty")] ai,2,16⟩),
  (71,⟨.sl 48 (Ty.sl aa),1,24⟩),
  (48,⟨.sl 118 aa,1,24⟩),
  (118,⟨.st [(0,3, "Kind"),(1,3, "N"),(2,9, "S")] aa,3,32⟩),
  (32,⟨.sl 61 TBond,1,24⟩),
  (61,⟨.st [(0,3, "Kind"),(1,3, "In"),(2,56, "List"),(3,3, "Of"),(4,56, "To"),(5,4, "Follow"),(6,59, "E")] TBond,7,104⟩),
  (59,⟨.sl 165 ax,1,24⟩),
  (165,⟨.st [(0,3, "Kind"),(1,3, "N"),(2,118, "V")] ax,5,48⟩),
  (34,⟨.sl 50 TChange,1,24⟩),
  (50,⟨.st [(0,3, "In"),(1,48, "Row"),(2,4, "Come")] TChange,3,40⟩),
  (29,⟨.other,1,0⟩),
  (0,⟨.other,1,0⟩),
  (132,⟨.other,1,8⟩),
  (174,⟨.ptr 75,1,8⟩),
  (179,⟨.other,1,8⟩),
  (196,⟨.other,1,0⟩),
  (5,⟨.val (Ty.int .u8),1,1⟩),
  (43,⟨.sl 5 (Ty.int .u8),1,24⟩),
  (224,⟨.other,1,0⟩),
  (228,⟨.other,1,8⟩),
  (172,⟨.other,1,8⟩)]
def GJ:List TypeId:=[4,118]
theorem tab_check:BF P tab tab=true:=by kernel_rfl
theorem wz:CH P tab GJ=true:=by kernel_rfl
theorem mixed:P.follows .mixedOrders=true:=by kernel_rfl
abbrev cx (l:Cons) (n:Nat) (inl:List (Nat×Inl)) (off:Nat) (deep:Bool):Ctx:=⟨tab,fun t=>jg t GJ,l,n,inl,off,deep⟩
theorem aP (C:Ctx) {f:FuncId} {fn:Func} {con:Con} (hf:P.funcs[f]? = some fn) (hC:dm P C) (hcon:∀args hp K,con.run args hp K->(Nat.ble args.length fn.ntmps&&Nat.ble args.length bF)=true/\∃(ann:Nat->List Dir) (L:aW) (k:RK),(∀p∈bK (dJ fn),fj C L ann p.1 p.2)/\vcT C L ann fn args hp k K)
    (hT:TabOk P C:=by exact Cq tab_check wz) (hq:((fn.name == "runtime.NumGoroutine")||fn.body.isNone)=false:=by kernel_rfl) (hN:C.n=fn.ntmps:=by rfl):aN P f con:=Ie [] hT mixed hf hq hC hN hcon
theorem Jk (ds:List (Nat×Bool)) (C:Ctx) {f:FuncId} {fn:Func} {con:Con} (hf:P.funcs[f]? = some fn) (hC:dm P C) (hcon:∀args hp K,con.run args hp K->(Nat.ble args.length fn.ntmps&&Nat.ble args.length bF)=true/\∃(ann:Nat->List Dir) (L:aW) (k:RK),(∀p∈bK (dJ (DS ds fn)),fj C L ann p.1 p.2)/\vcT C L ann (DS ds fn) args hp k K)
    (hT:TabOk P C:=by exact Cq tab_check wz) (hq:((fn.name == "runtime.NumGoroutine")||fn.body.isNone)=false:=by kernel_rfl) (hN:C.n=fn.ntmps:=by rfl):aN P f con:=Ie ds hT mixed hf hq hC hN hcon
theorem Db (C:Ctx) {f:FuncId} {fn:Func} (hf:P.funcs[f]? = some fn) (hC:dm P C) {ann:Nat->List Dir} (hT:TabOk P C:=by exact Cq tab_check wz) (hq:((fn.name == "runtime.NumGoroutine")||fn.body.isNone)=false:=by kernel_rfl) (hN:C.n=fn.ntmps:=by rfl)
    (hl:bK (dJ fn)=[]:=by kernel_rfl):yq P f (xT C ann (dJ fn) fn.results.toList):=Jc hT mixed hf hq hC hN hl
abbrev nT (xs:List TTable.D) (i:Int):TTable.D:=nth (t:=TTable) xs i
abbrev nS (xs:List xj.D) (i:Int):xj.D:=nth (t:=xj) xs i
abbrev nC (xs:List ai.D) (i:Int):ai.D:=nth (t:=ai) xs i
abbrev nI (xs:List au.D) (i:Int):au.D:=nth (t:=au) xs i
abbrev nP (xs:List ax.D) (i:Int):ax.D:=nth (t:=ax) xs i
abbrev nM (xs:List GB.D) (i:Int):GB.D:=nth (t:=GB) xs i
abbrev nG (xs:List wT.D) (i:Int):wT.D:=nth (t:=wT) xs i
abbrev nV (xs:List aa.D) (i:Int):aa.D:=nth (t:=aa) xs i
abbrev Z0:Int:=0
abbrev Z1:Int:=1
abbrev Z2:Int:=2
abbrev Z3:Int:=3
abbrev Z4:Int:=4
abbrev Z5:Int:=5
abbrev Z6:Int:=6
abbrev dI (n:Int):AV:=.data au n
abbrev dB (b:Bool):AV:=.data Ty.bool b
abbrev KA:Type:=AV->Hp->Prop
abbrev KX:Type:=X->St->Prop
abbrev TBy:Ty:=.sl (.int .u8)
abbrev LI:Type:=List Int
abbrev LLI:Type:=List LI
end Go.AE
end
section
namespace Go.AE
open Go Go.RowKit
set_option linter.unusedVariables false
def M.cz (rows:List (List aa.D)) (row:List aa.D):Nat:=rows.countP fun r=>decide (r=row)
namespace M
def Rows (st:Gt) (all:List (List (List aa.D))):Prop:=all.length=st.1.length/\st.2.length=st.1.length/\∀j:Int,0<=j->j<(all.length:Int) →
 ((nth (t:=.sl (.sl aa)) all j:List (List aa.D)).length:Int)<=nth (t:=.int .i64) st.2 j/\nth (t:=.int .i64) st.2 j<=300/\(nth (t:=.sl ai) st.1 j:List ai.D).length<=4 ∧
 Sm (.sl (.sl aa)) (nth (t:=.sl (.sl aa)) all j)/\∀r∈(nth (t:=.sl (.sl aa)) all j:List (List aa.D)),r.length=(nth (t:=.sl ai) st.1 j:List ai.D).length
end M
end Go.AE
end
section
namespace Go.AE
open Go Go.RowKit
set_option linter.unusedVariables false
def M.rowAt (rows:List (List aa.D)) (row:List aa.D):Int:=M.idx (t:=.sl aa) (fun e=>decide (e=row)) rows
def M.bf (tables:List TTable.D) (c:TChange.D):Bool:=M.aA tables&&(M.inR c.1 0 ((tables.length:Int)-1)&&(M.bH (nth (t:=TTable) tables c.1).1 c.2.1 &&
 cond c.2.2.1 (decide (((nth (t:=TTable) tables c.1).2.1.length:Int)<(6:Int))) (decide ((0:Int)<=M.rowAt (nth (t:=TTable) tables c.1).2.1 c.2.1))))
def M.iS (rows:List (List aa.D)) (c:TChange.D):List (List aa.D):=cond c.2.2.1 (rows++[c.2.1]) (rows.take (M.rowAt rows c.2.1).toNat++rows.drop ((M.rowAt rows c.2.1).toNat+1))
def M.bu (tables:List TTable.D) (c:TChange.D):List TTable.D:=tables.set c.1.toNat ((nth (t:=TTable) tables c.1).1,(M.iS (nth (t:=TTable) tables c.1).2.1 c,()))
def M.eH (b:List (List aa.D)) (s:List (List aa.D)×List (List aa.D)) (r:List aa.D):List (List aa.D)×List (List aa.D):=cond (decide ((M.cz s.2 r:Int)<(M.cz b r:Int))) (s.1,s.2++[r]) (s.1++[r],s.2)
def M.mH (a b:List (List aa.D)):List (List aa.D):=(a.foldl (M.eH b) ([],[])).1
def M.dO (bonds:List TBond.D) (now:List TTable.D) (c:TChange.D):List TTable.D:=cond (M.bf now c&&M.bA (M.bu now c) bonds) (M.bu now c) now
def M.cE (tables:List TTable.D) (bonds:List TBond.D) (changes:List TChange.D):List TTable.D×Bool:=
 cond (M.aA tables&&(M.bA tables bonds&&decide (changes.length<=8))) (changes.foldl (M.dO bonds) tables,true) ([],false)
def M.HB (ts:List TTable.D) (i n:Int):List TTable.D:=ts.set i.toNat ((nth (t:=TTable) ts i).1,((nth (t:=TTable) ts i).2.1.take n.toNat++(nth (t:=TTable) ts i).2.1.drop (n.toNat+1),()))
def M.loose (now:List TTable.D) (b:TBond.D):Bool:=b.2.2.2.2.2.1&&decide (0<=M.broken now b)
def M.follow (bonds:List TBond.D):Nat->List TTable.D->List TTable.D
 | 0,now=>now
 | n+1,now=>match bonds.find? (M.loose now) with
  | none=>now
  | some b=>M.follow bonds n (M.HB now b.2.1 (M.broken now b))
namespace M
def dF (x:TChange.D) (l:Int):Int:=iM (szS bL x.2.1 l) fun l=>l
theorem rF:Le dF:=fun x l h=>jS (jU dU _ _ h) h fun _=>Int.le_refl _
theorem yS:ue TChange dF:=by
 intro x l h0 h1 h
 obtain⟨a,_⟩:=fG h
 exact⟨trivial,jQ dU nE x.2.1 l h0 h1 a,trivial,trivial⟩
theorem HZ (rows:List (List aa.D)) (row:List aa.D):decide ((0:Int)<(cz rows row:Int))=decide ((0:Int)<=rowAt rows row):=by
 unfold rowAt
 rw[Ae]
 unfold cz
 cases h:rows.any fun e=>decide (e=row) with
 | true=>
  obtain⟨x,hx,hp⟩:=List.any_eq_true.1 h
  have:0<List.countP (fun r=>decide (r=row)) rows:=List.countP_pos_iff.2 ⟨x,hx,hp⟩
  exact decide_eq_true (by omega)
 | false=>
  rw[List.any_eq_false] at h
  have:List.countP (fun r=>decide (r=row)) rows=0:=List.countP_eq_zero.2 h
  rw[this]
  rfl
theorem FT {ρ:Type} {f:List aa.D->List (List aa.D)×List (List aa.D)->Option (Sum (List (List aa.D)×List (List aa.D)) ρ)} {a b:List (List aa.D)} (ha:Sm (.sl (.sl aa)) a)
  (hf:∀z s,s.1.length+s.2.length<a.length->Sm (.sl (.sl aa)) s.1->Sm (.sl (.sl aa)) s.2->f z s=some (.inl (eH b s z))):aJ f a ([],[])=some (.inl (a.foldl (eH b) ([],[]))):=by
 have key:∀(ys zs:List (List aa.D)) (s:List (List aa.D)×List (List aa.D)),a=zs++ys->s.1.length+s.2.length=zs.length->(∀x∈s.1,x∈a)->(∀x∈s.2,x∈a)->aJ f ys s=some (.inl (ys.foldl (eH b) s)):=by
  intro ys
  induction ys with
  | nil=>intro zs s _ _ _ _;rfl
  | cons y ys ih=>
   intro zs s e hs h1 h2
   have hl:zs.length+(ys.length+1)=a.length:=by rw[e];simp
   have hal:=ha.1
   rw[bZ,hf y s (by omega) ⟨by omega,fun x hx=>ha.2 x (h1 x hx)⟩ ⟨by omega,fun x hx=>ha.2 x (h2 x hx)⟩,bP,List.foldl_cons]
   have hy:y∈a:=by rw[e];simp
   have es:eH b s y=cond (decide ((cz s.2 y:Int)<(cz b y:Int))) (s.1,s.2++[y]) (s.1++[y],s.2):=rfl
   rw[es]
   cases decide ((cz s.2 y:Int)<(cz b y:Int)) with
   | true=>
    refine ih (zs++[y]) _ (by rw[e];simp) (by simp;omega) h1 fun x hx=>?_
    rcases List.mem_append.1 hx with hx | hx
    ·exact h2 x hx
    ·rw[List.mem_singleton.1 hx];exact hy
   | false=>
    refine ih (zs++[y]) _ (by rw[e];simp) (by simp;omega) (fun x hx=>?_) h2
    rcases List.mem_append.1 hx with hx | hx
    ·exact h1 x hx
    ·rw[List.mem_singleton.1 hx];exact hy
 exact key a [] ([],[]) rfl rfl (fun x hx=>by cases hx) (fun x hx=>by cases hx)
theorem uf {ts:List TTable.D} {i:Int} {z:TTable.D} (h0:0<=i) (h1:i<(ts.length:Int)):nth (t:=TTable) (ts.set i.toNat z) i=z:=by
 unfold nth
 rw[List.getD_eq_getElem?_getD,List.getElem?_set_self (by omega)]
 rfl
theorem FB {ts:List TTable.D} {i j:Int} {z:TTable.D} (h0:0<=i) (h1:0<=j) (h:i≠j):nth (t:=TTable) (ts.set i.toNat z) j=nth (t:=TTable) ts j:=by
 unfold nth
 rw[List.getD_eq_getElem?_getD,List.getD_eq_getElem?_getD,List.getElem?_set_ne (by omega)]
theorem Iy {ts:List TTable.D} {i:Int} {w:List (List aa.D)} (h0:0<=i) (h1:i<(ts.length:Int)) :
  ((ts.set i.toNat ((nth (t:=TTable) ts i).1,([],()))).set i.toNat ((nth (t:=TTable) (ts.set i.toNat ((nth (t:=TTable) ts i).1,([],()))) i).1,(w,())))=ts.set i.toNat ((nth (t:=TTable) ts i).1,(w,())):=by
 rw[List.set_set,uf h0 h1]
theorem IY {ts:List TTable.D} {i:Int} {w:List (List aa.D)} (h0:0<=i) (h1:i<(ts.length:Int)) :
  ((ts.set i.toNat ((nth (t:=TTable) ts i).1,(w,()))).set i.toNat ((nth (t:=TTable) (ts.set i.toNat ((nth (t:=TTable) ts i).1,(w,()))) i).1,((nth (t:=TTable) (ts.set i.toNat ((nth (t:=TTable) ts i).1,(w,()))) i).2.1,())))=ts.set i.toNat ((nth (t:=TTable) ts i).1,(w,())):=by
 rw[List.set_set,uf h0 h1]
theorem Fy (a:List (List aa.D)) (r x:List aa.D):cz (r::a) x=(if r=x then 1 else 0)+cz a x:=by
 unfold cz
 rw[List.countP_cons]
 by_cases h:r=x<;>simp[h]<;>omega
theorem Hr (rows:List (List aa.D)) (x:List aa.D) (h:0<=rowAt rows x):mH rows [x]=rows.take (rowAt rows x).toNat++rows.drop ((rowAt rows x).toNat+1):=by
 have m1:∀y,cz [x] y=if x=y then 1 else 0:=fun y=>by
  have:=Fy [] x y
  rw[this]
  rfl
 have key2:∀(l out:List (List aa.D)),(l.foldl (eH [x]) (out,[x]))=(out++l,[x]):=by
  intro l
  induction l with
  | nil=>intro out;rw[List.append_nil];rfl
  | cons y l ih=>
   intro out
   have e:eH [x] (out,[x]) y=(out++[y],[x]):=by
    unfold eH
    rw[decide_eq_false (by show ¬((cz [x] y:Nat):Int)<_;omega),cond_false]
   rw[List.foldl_cons,e,ih,List.append_assoc]
   rfl
 have key:∀(l out:List (List aa.D)),(∃k,l.findIdx? (fun e=>decide (e=x))=some k/\(l.foldl (eH [x]) (out,[])).1=out++(l.take k++l.drop (k+1)))\/l.findIdx? (fun e=>decide (e=x))=none:=by
  intro l
  induction l with
  | nil=>intro out;exact .inr rfl
  | cons y l ih=>
   intro out
   rw[List.findIdx?_cons]
   by_cases hy:y=x
   ·left
    refine⟨0,by rw[decide_eq_true hy];rfl,?_⟩
    have e:eH [x] (out,[]) y=(out,[x]):=by
     unfold eH
     rw[m1,if_pos hy.symm,decide_eq_true (by show ((cz [] y:Nat):Int)<_;exact Int.zero_lt_one),cond_true,hy]
     rfl
    rw[List.foldl_cons,e,key2]
    rfl
   ·rw[decide_eq_false hy]
    have e:eH [x] (out,[]) y=(out++[y],[]):=by
     unfold eH
     rw[m1,if_neg (fun q=>hy q.symm),decide_eq_false (by show ¬((cz [] y:Nat):Int)<_;exact Int.lt_irrefl 0),cond_false]
    rcases ih (out++[y]) with⟨k,h1,h2⟩ | h1
    ·left
     refine⟨k+1,by rw[h1];rfl,?_⟩
     rw[List.foldl_cons,e,h2,List.append_assoc]
     rfl
    ·right
     rw[h1]
     rfl
 unfold mH
 unfold rowAt idx at h ⊢
 rcases key rows [] with⟨k,h1,h2⟩ | h1
 ·rw[h1]
  rw[h2,List.nil_append]
  rfl
 ·rw[h1] at h
  exact absurd h (by decide)
end M
end Go.AE
end
