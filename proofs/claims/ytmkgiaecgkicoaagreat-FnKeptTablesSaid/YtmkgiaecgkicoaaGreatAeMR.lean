/- Rows of plans: plain Lean. -/
import Derived.Test.YtmkgiaecgkicoaaGreatAeLem
section
namespace Go.AE
open Go Go.RowKit
set_option linter.unusedVariables false
def M.cN (rows:List (List aa.D)) (row:List aa.D):Nat:=rows.countP fun r=>decide (r=row)
namespace M
def Rows (st:Hv) (all:List (List (List aa.D))):Prop:=all.length=st.1.length/\st.2.length=st.1.length/\∀j:Int,0<=j->j<(all.length:Int) →
 ((nth (t:=.sl (.sl aa)) all j:List (List aa.D)).length:Int)<=nth (t:=.int .i64) st.2 j/\nth (t:=.int .i64) st.2 j<=300/\(nth (t:=.sl ay) st.1 j:List ay.D).length<=4 ∧
 Sm (.sl (.sl aa)) (nth (t:=.sl (.sl aa)) all j)/\∀r∈(nth (t:=.sl (.sl aa)) all j:List (List aa.D)),r.length=(nth (t:=.sl ay) st.1 j:List ay.D).length
end M
end Go.AE
end
section
namespace Go.AE
open Go Go.RowKit
set_option linter.unusedVariables false
def M.rowAt (rows:List (List aa.D)) (row:List aa.D):Int:=M.idx (t:=.sl aa) (fun e=>decide (e=row)) rows
def M.aQ (tables:List ag.D) (c:ak.D):Bool:=M.aG tables&&(M.inR c.1 0 ((tables.length:Int)-1)&&(M.bM (nth (t:=ag) tables c.1).1 c.2.1 &&
 cond c.2.2.1 (decide (((nth (t:=ag) tables c.1).2.1.length:Int)<(6:Int))) (decide ((0:Int)<=M.rowAt (nth (t:=ag) tables c.1).2.1 c.2.1))))
def M.iY (rows:List (List aa.D)) (c:ak.D):List (List aa.D):=cond c.2.2.1 (rows++[c.2.1]) (rows.take (M.rowAt rows c.2.1).toNat++rows.drop ((M.rowAt rows c.2.1).toNat+1))
def M.bg (tables:List ag.D) (c:ak.D):List ag.D:=tables.set c.1.toNat ((nth (t:=ag) tables c.1).1,(M.iY (nth (t:=ag) tables c.1).2.1 c,()))
def M.fe (b:List (List aa.D)) (s:List (List aa.D)×List (List aa.D)) (r:List aa.D):List (List aa.D)×List (List aa.D):=cond (decide ((M.cN s.2 r:Int)<(M.cN b r:Int))) (s.1,s.2++[r]) (s.1++[r],s.2)
def M.mS (a b:List (List aa.D)):List (List aa.D):=(a.foldl (M.fe b) ([],[])).1
def M.cU (bonds:List ai.D) (now:List ag.D) (c:ak.D):List ag.D:=cond (M.aQ now c&&M.bq (M.bg now c) bonds) (M.bg now c) now
def M.bN (tables:List ag.D) (bonds:List ai.D) (changes:List ak.D):List ag.D×Bool:=
 cond (M.aG tables&&(M.bq tables bonds&&decide (changes.length<=8))) (changes.foldl (M.cU bonds) tables,true) ([],false)
def M.jD (ts:List ag.D) (i n:Int):List ag.D:=ts.set i.toNat ((nth (t:=ag) ts i).1,((nth (t:=ag) ts i).2.1.take n.toNat++(nth (t:=ag) ts i).2.1.drop (n.toNat+1),()))
def M.loose (now:List ag.D) (b:ai.D):Bool:=b.2.2.2.2.2.1&&decide (0<=M.broken now b)
def M.follow (bonds:List ai.D):Nat->List ag.D->List ag.D
 | 0,now=>now
 | n+1,now=>match bonds.find? (M.loose now) with
  | none=>now
  | some b=>M.follow bonds n (M.jD now b.2.1 (M.broken now b))
namespace M
theorem Ii (rows:List (List aa.D)) (row:List aa.D):decide ((0:Int)<(cN rows row:Int))=decide ((0:Int)<=rowAt rows row):=by
 unfold rowAt
 rw[zm]
 unfold cN
 cases h:rows.any fun e=>decide (e=row) with
 | true=>
  obtain⟨x,hx,hp⟩:=List.any_eq_true.1 h
  have:0<List.countP (fun r=>decide (r=row)) rows:=List.countP_pos_iff.2 ⟨x,hx,hp⟩
  exact decide_eq_true (by omega)
 | false=>
  rw[List.any_eq_false] at h
  have:List.countP (fun r=>decide (r=row)) rows=0:=List.countP_eq_zero.2 h
  rw[this]
  rfl
theorem Hr {ρ:Type} {f:List aa.D->List (List aa.D)×List (List aa.D)->Option (Sum (List (List aa.D)×List (List aa.D)) ρ)} {a b:List (List aa.D)} (ha:Sm (.sl (.sl aa)) a)
  (hf:∀z s,s.1.length+s.2.length<a.length->Sm (.sl (.sl aa)) s.1->Sm (.sl (.sl aa)) s.2->f z s=some (.inl (fe b s z))):aU f a ([],[])=some (.inl (a.foldl (fe b) ([],[]))):=by
 have key:∀(ys zs:List (List aa.D)) (s:List (List aa.D)×List (List aa.D)),a=zs++ys->s.1.length+s.2.length=zs.length->(∀x∈s.1,x∈a)->(∀x∈s.2,x∈a)->aU f ys s=some (.inl (ys.foldl (fe b) s)):=by
  intro ys
  induction ys with
  | nil=>intro zs s _ _ _ _;rfl
  | cons y ys ih=>
   intro zs s e hs h1 h2
   have hl:zs.length+(ys.length+1)=a.length:=by rw[e];simp
   have hal:=ha.1
   rw[dJ,hf y s (by omega) ⟨by omega,fun x hx=>ha.2 x (h1 x hx)⟩ ⟨by omega,fun x hx=>ha.2 x (h2 x hx)⟩,cr,List.foldl_cons]
   have hy:y∈a:=by rw[e];simp
   have es:fe b s y=cond (decide ((cN s.2 y:Int)<(cN b y:Int))) (s.1,s.2++[y]) (s.1++[y],s.2):=rfl
   rw[es]
   cases decide ((cN s.2 y:Int)<(cN b y:Int)) with
   | true=>
    refine ih (zs++[y]) _ (by rw[e];simp) (by simp;omega) h1 fun x hx=>?_
    rcases List.mem_append.1 hx with hx | hx
    ·exact h2 x hx
    ·rw[List.mem_singleton.1 hx];exact hy
   | false=>
    refine ih (zs++[y]) _ (by rw[e];simp) (by simp;omega) (fun x hx=>?_) h2
    rcases List.mem_append.1 hx with hx | hx
    ·exact h1 x hx
    ·rw[List.mem_singleton.1 hx];exact hy
 exact key a [] ([],[]) rfl rfl (fun x hx=>by cases hx) (fun x hx=>by cases hx)
theorem uj {ts:List ag.D} {i:Int} {z:ag.D} (h0:0<=i) (h1:i<(ts.length:Int)):nth (t:=ag) (ts.set i.toNat z) i=z:=by
 unfold nth
 rw[List.getD_eq_getElem?_getD,List.getElem?_set_self (by omega)]
 rfl
theorem FB {ts:List ag.D} {i j:Int} {z:ag.D} (h0:0<=i) (h1:0<=j) (h:i≠j):nth (t:=ag) (ts.set i.toNat z) j=nth (t:=ag) ts j:=by
 unfold nth
 rw[List.getD_eq_getElem?_getD,List.getD_eq_getElem?_getD,List.getElem?_set_ne (by omega)]
theorem Jc {ts:List ag.D} {i:Int} {w:List (List aa.D)} (h0:0<=i) (h1:i<(ts.length:Int)) :
  ((ts.set i.toNat ((nth (t:=ag) ts i).1,([],()))).set i.toNat ((nth (t:=ag) (ts.set i.toNat ((nth (t:=ag) ts i).1,([],()))) i).1,(w,())))=ts.set i.toNat ((nth (t:=ag) ts i).1,(w,())):=by
 rw[List.set_set,uj h0 h1]
theorem Jx {ts:List ag.D} {i:Int} {w:List (List aa.D)} (h0:0<=i) (h1:i<(ts.length:Int)) :
  ((ts.set i.toNat ((nth (t:=ag) ts i).1,(w,()))).set i.toNat ((nth (t:=ag) (ts.set i.toNat ((nth (t:=ag) ts i).1,(w,()))) i).1,((nth (t:=ag) (ts.set i.toNat ((nth (t:=ag) ts i).1,(w,()))) i).2.1,())))=ts.set i.toNat ((nth (t:=ag) ts i).1,(w,())):=by
 rw[List.set_set,uj h0 h1]
theorem Fb (a:List (List aa.D)) (r x:List aa.D):cN (r::a) x=(if r=x then 1 else 0)+cN a x:=by
 unfold cN
 rw[List.countP_cons]
 by_cases h:r=x<;>simp[h]<;>omega
theorem Hh (rows:List (List aa.D)) (x:List aa.D) (h:0<=rowAt rows x):mS rows [x]=rows.take (rowAt rows x).toNat++rows.drop ((rowAt rows x).toNat+1):=by
 have m1:∀y,cN [x] y=if x=y then 1 else 0:=fun y=>by
  have:=Fb [] x y
  rw[this]
  rfl
 have key2:∀(l out:List (List aa.D)),(l.foldl (fe [x]) (out,[x]))=(out++l,[x]):=by
  intro l
  induction l with
  | nil=>intro out;rw[List.append_nil];rfl
  | cons y l ih=>
   intro out
   have e:fe [x] (out,[x]) y=(out++[y],[x]):=by
    unfold fe
    rw[decide_eq_false (by show ¬((cN [x] y:Nat):Int)<_;omega),cond_false]
   rw[List.foldl_cons,e,ih,List.append_assoc]
   rfl
 have key:∀(l out:List (List aa.D)),(∃k,l.findIdx? (fun e=>decide (e=x))=some k/\(l.foldl (fe [x]) (out,[])).1=out++(l.take k++l.drop (k+1)))\/l.findIdx? (fun e=>decide (e=x))=none:=by
  intro l
  induction l with
  | nil=>intro out;exact .inr rfl
  | cons y l ih=>
   intro out
   rw[List.findIdx?_cons]
   by_cases hy:y=x
   ·left
    refine⟨0,by rw[decide_eq_true hy];rfl,?_⟩
    have e:fe [x] (out,[]) y=(out,[x]):=by
     unfold fe
     rw[m1,if_pos hy.symm,decide_eq_true (by show ((cN [] y:Nat):Int)<_;exact Int.zero_lt_one),cond_true,hy]
     rfl
    rw[List.foldl_cons,e,key2]
    rfl
   ·rw[decide_eq_false hy]
    have e:fe [x] (out,[]) y=(out++[y],[]):=by
     unfold fe
     rw[m1,if_neg (fun q=>hy q.symm),decide_eq_false (by show ¬((cN [] y:Nat):Int)<_;exact Int.lt_irrefl 0),cond_false]
    rcases ih (out++[y]) with⟨k,h1,h2⟩ | h1
    ·left
     refine⟨k+1,by rw[h1];rfl,?_⟩
     rw[List.foldl_cons,e,h2,List.append_assoc]
     rfl
    ·right
     rw[h1]
     rfl
 unfold mS
 unfold rowAt idx at h ⊢
 rcases key rows [] with⟨k,h1,h2⟩ | h1
 ·rw[h1]
  rw[h2,List.nil_append]
  rfl
 ·rw[h1] at h
  exact absurd h (by decide)
end M
end Go.AE
end
