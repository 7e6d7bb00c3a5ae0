/- Rows of plans: plain Lean. -/
import Derived.Test.YtmkgiaecgkicoaaGreatAeMN
section
namespace Go.AE
open Go Go.RowKit
set_option linter.unusedVariables false
def M.pP (rows:List (List aa.D)) (row:List aa.D):Nat:=rows.countP fun r=>decide (r=row)
namespace M
def Rows (st:GH) (all:List (List (List aa.D))):Prop:=all.length=st.1.length/\st.2.length=st.1.length/\∀j:Int,0<=j->j<(all.length:Int) →
 ((nth (t:=.sl (.sl aa)) all j:List (List aa.D)).length:Int)<=nth (t:=.int .i64) st.2 j/\nth (t:=.int .i64) st.2 j<=300/\(nth (t:=.sl ax) st.1 j:List ax.D).length<=4 ∧
 Sm (.sl (.sl aa)) (nth (t:=.sl (.sl aa)) all j)/\∀r∈(nth (t:=.sl (.sl aa)) all j:List (List aa.D)),r.length=(nth (t:=.sl ax) st.1 j:List ax.D).length
end M
end Go.AE
end
section
namespace Go.AE
open Go Go.RowKit
set_option linter.unusedVariables false
def M.rowAt (rows:List (List aa.D)) (row:List aa.D):Int:=M.idx (t:=.sl aa) (fun e=>decide (e=row)) rows
def M.aU (tables:List ag.D) (c:aB.D):Bool:=M.aH tables&&(M.inR c.1 0 ((tables.length:Int)-1)&&(M.bI (nth (t:=ag) tables c.1).1 c.2.1 &&
 cond c.2.2.1 (decide (((nth (t:=ag) tables c.1).2.1.length:Int)<(6:Int))) (decide ((0:Int)<=M.rowAt (nth (t:=ag) tables c.1).2.1 c.2.1))))
def M.gX (rows:List (List aa.D)) (c:aB.D):List (List aa.D):=cond c.2.2.1 (rows++[c.2.1]) (rows.take (M.rowAt rows c.2.1).toNat++rows.drop ((M.rowAt rows c.2.1).toNat+1))
def M.bE (tables:List ag.D) (c:aB.D):List ag.D:=tables.set c.1.toNat ((nth (t:=ag) tables c.1).1,(M.gX (nth (t:=ag) tables c.1).2.1 c,()))
def M.qt (bonds:List ah.D) (now:List ag.D) (c:aB.D):List ag.D:=cond (M.aU now c&&M.bQ (M.bE now c) bonds) (M.bE now c) now
def M.fj (c:aB.D) (b:ah.D):Bool:=cond c.2.2.1 (decide (b.2.1=c.1)) (decide (b.1=(2:Int))&&decide (b.2.2.2.1=c.1))
def M.ck (tables:List ag.D) (bonds:List ah.D) (c:aB.D):List Int:=
 cond (M.aU tables c&&bonds.all (M.aO tables)) ((aP 0 (bonds.length:Int)).filter fun k=>M.fj c (nth (t:=ah) bonds k)) []
def M.jy (ts:List ag.D) (i n:Int):List ag.D:=ts.set i.toNat ((nth (t:=ag) ts i).1,((nth (t:=ag) ts i).2.1.take n.toNat++(nth (t:=ag) ts i).2.1.drop (n.toNat+1),()))
def M.loose (now:List ag.D) (b:ah.D):Bool:=b.2.2.2.2.2.1&&decide (0<=M.broken now b)
def M.follow (bonds:List ah.D):Nat->List ag.D->List ag.D
 | 0,now=>now
 | n+1,now=>match bonds.find? (M.loose now) with
  | none=>now
  | some b=>M.follow bonds n (M.jy now b.2.1 (M.broken now b))
namespace M
theorem HR (rows:List (List aa.D)) (row:List aa.D):decide ((0:Int)<(pP rows row:Int))=decide ((0:Int)<=rowAt rows row):=by
 unfold rowAt
 rw[yf]
 unfold pP
 cases h:rows.any fun e=>decide (e=row) with
 | true=>
  obtain⟨x,hx,hp⟩:=List.any_eq_true.1 h
  have:0<List.countP (fun r=>decide (r=row)) rows:=List.countP_pos_iff.2 ⟨x,hx,hp⟩
  exact decide_eq_true (by omega)
 | false=>
  rw[List.any_eq_false] at h
  have:List.countP (fun r=>decide (r=row)) rows=0:=List.countP_eq_zero.2 h
  rw[this]
  rfl
theorem rz {ts:List ag.D} {i:Int} {z:ag.D} (h0:0<=i) (h1:i<(ts.length:Int)):nth (t:=ag) (ts.set i.toNat z) i=z:=by
 unfold nth
 rw[List.getD_eq_getElem?_getD,List.getElem?_set_self (by omega)]
 rfl
theorem Am {ts:List ag.D} {i j:Int} {z:ag.D} (h0:0<=i) (h1:0<=j) (h:i≠j):nth (t:=ag) (ts.set i.toNat z) j=nth (t:=ag) ts j:=by
 unfold nth
 rw[List.getD_eq_getElem?_getD,List.getD_eq_getElem?_getD,List.getElem?_set_ne (by omega)]
theorem IV {ts:List ag.D} {i:Int} {w:List (List aa.D)} (h0:0<=i) (h1:i<(ts.length:Int)) :
  ((ts.set i.toNat ((nth (t:=ag) ts i).1,([],()))).set i.toNat ((nth (t:=ag) (ts.set i.toNat ((nth (t:=ag) ts i).1,([],()))) i).1,(w,())))=ts.set i.toNat ((nth (t:=ag) ts i).1,(w,())):=by
 rw[List.set_set,rz h0 h1]
theorem Ja {ts:List ag.D} {i:Int} {w:List (List aa.D)} (h0:0<=i) (h1:i<(ts.length:Int)) :
  ((ts.set i.toNat ((nth (t:=ag) ts i).1,(w,()))).set i.toNat ((nth (t:=ag) (ts.set i.toNat ((nth (t:=ag) ts i).1,(w,()))) i).1,((nth (t:=ag) (ts.set i.toNat ((nth (t:=ag) ts i).1,(w,()))) i).2.1,())))=ts.set i.toNat ((nth (t:=ag) ts i).1,(w,())):=by
 rw[List.set_set,rz h0 h1]
end M
end Go.AE
end
