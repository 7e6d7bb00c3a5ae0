/- Rows of plans: plain Lean. -/
import Derived.Test.YtmkgiaecgkicoaaGreatAeLem
section
namespace Go.AE
open Go Go.RowKit
set_option linter.unusedVariables false
def M.bq (rows:List (List aa.D)) (row:List aa.D):Nat:=rows.countP fun r=>decide (r=row)
namespace M
def Rows (st:Hg) (all:List (List (List aa.D))):Prop:=all.length=st.1.length/\st.2.length=st.1.length/\∀j:Int,0<=j->j<(all.length:Int) →
 ((nth (t:=.sl (.sl aa)) all j:List (List aa.D)).length:Int)<=nth (t:=.int .i64) st.2 j/\nth (t:=.int .i64) st.2 j<=300/\(nth (t:=.sl ax) st.1 j:List ax.D).length<=4 ∧
 Sm (.sl (.sl aa)) (nth (t:=.sl (.sl aa)) all j)/\∀r∈(nth (t:=.sl (.sl aa)) all j:List (List aa.D)),r.length=(nth (t:=.sl ax) st.1 j:List ax.D).length
end M
end Go.AE
end
section
namespace Go.AE
open Go Go.RowKit
set_option linter.unusedVariables false
def M.rowAt (rows:List (List aa.D)) (row:List aa.D):Int:=M.idx (t:=.sl aa) (fun e=>decide (e=row)) rows
def M.aR (tables:List ag.D) (c:ay.D):Bool:=M.aF tables&&(M.inR c.1 0 ((tables.length:Int)-1)&&(M.bU (nth (t:=ag) tables c.1).1 c.2.1 &&
 cond c.2.2.1 (decide (((nth (t:=ag) tables c.1).2.1.length:Int)<(6:Int))) (decide ((0:Int)<=M.rowAt (nth (t:=ag) tables c.1).2.1 c.2.1))))
def M.jt (rows:List (List aa.D)) (c:ay.D):List (List aa.D):=cond c.2.2.1 (rows++[c.2.1]) (rows.take (M.rowAt rows c.2.1).toNat++rows.drop ((M.rowAt rows c.2.1).toNat+1))
def M.aQ (tables:List ag.D) (c:ay.D):List ag.D:=tables.set c.1.toNat ((nth (t:=ag) tables c.1).1,(M.jt (nth (t:=ag) tables c.1).2.1 c,()))
def M.cW (b:List (List aa.D)) (s:List (List aa.D)×List (List aa.D)) (r:List aa.D):List (List aa.D)×List (List aa.D):=cond (decide ((M.bq s.2 r:Int)<(M.bq b r:Int))) (s.1,s.2++[r]) (s.1++[r],s.2)
def M.dX (a b:List (List aa.D)):List (List aa.D):=(a.foldl (M.cW b) ([],[])).1
def M.rD (bonds:List ah.D) (now:List ag.D) (c:ay.D):List ag.D:=cond (M.aR now c&&M.bS (M.aQ now c) bonds) (M.aQ now c) now
def M.dU (ts:List ag.D) (i n:Int):List ag.D:=ts.set i.toNat ((nth (t:=ag) ts i).1,((nth (t:=ag) ts i).2.1.take n.toNat++(nth (t:=ag) ts i).2.1.drop (n.toNat+1),()))
def M.loose (now:List ag.D) (b:ah.D):Bool:=b.2.2.2.2.2.1&&decide (0<=M.broken now b)
def M.follow (bonds:List ah.D):Nat->List ag.D->List ag.D
 | 0,now=>now
 | n+1,now=>match bonds.find? (M.loose now) with
  | none=>now
  | some b=>M.follow bonds n (M.dU now b.2.1 (M.broken now b))
def M.aU (tables:List ag.D) (bonds:List ah.D) (c:ay.D):List ag.D×Bool:=
 cond (M.aR tables c&&(decide (bonds.length<=4)&&bonds.all (M.aN tables))) (cond (M.bS (M.follow bonds 19 (M.aQ tables c)) bonds) (M.follow bonds 19 (M.aQ tables c),true) ([],false)) ([],false)
namespace M
theorem IV (rows:List (List aa.D)) (row:List aa.D):decide ((0:Int)<(bq rows row:Int))=decide ((0:Int)<=rowAt rows row):=by
 unfold rowAt
 rw[zT]
 unfold bq
 cases h:rows.any fun e=>decide (e=row) with
 | true=>
  obtain⟨x,hx,hp⟩:=List.any_eq_true.1 h
  have:0<List.countP (fun r=>decide (r=row)) rows:=List.countP_pos_iff.2 ⟨x,hx,hp⟩
  exact decide_eq_true (by omega)
 | false=>
  rw[List.any_eq_false] at h
  have:List.countP (fun r=>decide (r=row)) rows=0:=List.countP_eq_zero.2 h
  rw[this]
  rfl
theorem DO {ρ:Type} {f:List aa.D->List (List aa.D)×List (List aa.D)->Option (Sum (List (List aa.D)×List (List aa.D)) ρ)} {a b:List (List aa.D)} (ha:Sm (.sl (.sl aa)) a)
  (hf:∀z s,s.1.length+s.2.length<a.length->Sm (.sl (.sl aa)) s.1->Sm (.sl (.sl aa)) s.2->f z s=some (.inl (cW b s z))):aW f a ([],[])=some (.inl (a.foldl (cW b) ([],[]))):=by
 have key:∀(ys zs:List (List aa.D)) (s:List (List aa.D)×List (List aa.D)),a=zs++ys->s.1.length+s.2.length=zs.length->(∀x∈s.1,x∈a)->(∀x∈s.2,x∈a)->aW f ys s=some (.inl (ys.foldl (cW b) s)):=by
  intro ys
  induction ys with
  | nil=>intro zs s _ _ _ _;rfl
  | cons y ys ih=>
   intro zs s e hs h1 h2
   have hl:zs.length+(ys.length+1)=a.length:=by rw[e];simp
   have hal:=ha.1
   rw[dz,hf y s (by omega) ⟨by omega,fun x hx=>ha.2 x (h1 x hx)⟩ ⟨by omega,fun x hx=>ha.2 x (h2 x hx)⟩,bO,List.foldl_cons]
   have hy:y∈a:=by rw[e];simp
   have es:cW b s y=cond (decide ((bq s.2 y:Int)<(bq b y:Int))) (s.1,s.2++[y]) (s.1++[y],s.2):=rfl
   rw[es]
   cases decide ((bq s.2 y:Int)<(bq b y:Int)) with
   | true=>
    refine ih (zs++[y]) _ (by rw[e];simp) (by simp;omega) h1 fun x hx=>?_
    rcases List.mem_append.1 hx with hx | hx
    ·exact h2 x hx
    ·rw[List.mem_singleton.1 hx];exact hy
   | false=>
    refine ih (zs++[y]) _ (by rw[e];simp) (by simp;omega) (fun x hx=>?_) h2
    rcases List.mem_append.1 hx with hx | hx
    ·exact h1 x hx
    ·rw[List.mem_singleton.1 hx];exact hy
 exact key a [] ([],[]) rfl rfl (fun x hx=>by cases hx) (fun x hx=>by cases hx)
theorem sE {ts:List ag.D} {i:Int} {z:ag.D} (h0:0<=i) (h1:i<(ts.length:Int)):nth (t:=ag) (ts.set i.toNat z) i=z:=by
 unfold nth
 rw[List.getD_eq_getElem?_getD,List.getElem?_set_self (by omega)]
 rfl
theorem BI {ts:List ag.D} {i j:Int} {z:ag.D} (h0:0<=i) (h1:0<=j) (h:i≠j):nth (t:=ag) (ts.set i.toNat z) j=nth (t:=ag) ts j:=by
 unfold nth
 rw[List.getD_eq_getElem?_getD,List.getD_eq_getElem?_getD,List.getElem?_set_ne (by omega)]
theorem IZ {ts:List ag.D} {i:Int} {w:List (List aa.D)} (h0:0<=i) (h1:i<(ts.length:Int)) :
  ((ts.set i.toNat ((nth (t:=ag) ts i).1,([],()))).set i.toNat ((nth (t:=ag) (ts.set i.toNat ((nth (t:=ag) ts i).1,([],()))) i).1,(w,())))=ts.set i.toNat ((nth (t:=ag) ts i).1,(w,())):=by
 rw[List.set_set,sE h0 h1]
theorem Kn {ts:List ag.D} {i:Int} {w:List (List aa.D)} (h0:0<=i) (h1:i<(ts.length:Int)) :
  ((ts.set i.toNat ((nth (t:=ag) ts i).1,(w,()))).set i.toNat ((nth (t:=ag) (ts.set i.toNat ((nth (t:=ag) ts i).1,(w,()))) i).1,((nth (t:=ag) (ts.set i.toNat ((nth (t:=ag) ts i).1,(w,()))) i).2.1,())))=ts.set i.toNat ((nth (t:=ag) ts i).1,(w,())):=by
 rw[List.set_set,sE h0 h1]
theorem Ge (a:List (List aa.D)) (r x:List aa.D):bq (a++[r]) x=bq a x+(if r=x then 1 else 0):=by
 unfold bq
 rw[List.countP_append]
 by_cases h:r=x<;>simp[h]
theorem xb (a:List (List aa.D)) (r x:List aa.D):bq (r::a) x=(if r=x then 1 else 0)+bq a x:=by
 unfold bq
 rw[List.countP_cons]
 by_cases h:r=x<;>simp[h]<;>omega
theorem GL {a b:List (List aa.D)} (h:∀r,bq a r<=bq b r):dX a b=[]:=by
 have key:∀(l:List (List aa.D)) (g:List (List aa.D)),(∀r,bq g r+bq l r<=bq b r)->(l.foldl (cW b) ([],g)).1=[]:=by
  intro l
  induction l with
  | nil=>intro g _;rfl
  | cons x l ih=>
   intro g hg
   have hx:=hg x
   rw[xb,if_pos rfl] at hx
   rw[List.foldl_cons]
   have e:cW b ([],g) x=([],g++[x]):=by
    unfold cW
    rw[decide_eq_true (by show ((bq g x:Nat):Int)<_;omega),cond_true]
   rw[e]
   refine ih _ fun r=>?_
   have:=hg r
   rw[xb] at this
   rw[Ge]
   omega
 exact key a [] fun r=>by
  have:=h r
  have e:bq ([]:List (List aa.D)) r=0:=rfl
  omega
theorem GQ {a b:List (List aa.D)} (h:a.Sublist b) (r:List aa.D):bq a r<=bq b r:=h.countP_le
theorem Hi (rows:List (List aa.D)) (x:List aa.D) (h:0<=rowAt rows x):dX rows [x]=rows.take (rowAt rows x).toNat++rows.drop ((rowAt rows x).toNat+1):=by
 have m1:∀y,bq [x] y=if x=y then 1 else 0:=fun y=>by
  have:=xb [] x y
  rw[this]
  rfl
 have key2:∀(l out:List (List aa.D)),(l.foldl (cW [x]) (out,[x]))=(out++l,[x]):=by
  intro l
  induction l with
  | nil=>intro out;rw[List.append_nil];rfl
  | cons y l ih=>
   intro out
   have e:cW [x] (out,[x]) y=(out++[y],[x]):=by
    unfold cW
    rw[decide_eq_false (by show ¬((bq [x] y:Nat):Int)<_;omega),cond_false]
   rw[List.foldl_cons,e,ih,List.append_assoc]
   rfl
 have key:∀(l out:List (List aa.D)),(∃k,l.findIdx? (fun e=>decide (e=x))=some k/\(l.foldl (cW [x]) (out,[])).1=out++(l.take k++l.drop (k+1)))\/l.findIdx? (fun e=>decide (e=x))=none:=by
  intro l
  induction l with
  | nil=>intro out;exact .inr rfl
  | cons y l ih=>
   intro out
   rw[List.findIdx?_cons]
   by_cases hy:y=x
   ·left
    refine⟨0,by rw[decide_eq_true hy];rfl,?_⟩
    have e:cW [x] (out,[]) y=(out,[x]):=by
     unfold cW
     rw[m1,if_pos hy.symm,decide_eq_true (by show ((bq [] y:Nat):Int)<_;exact Int.zero_lt_one),cond_true,hy]
     rfl
    rw[List.foldl_cons,e,key2]
    rfl
   ·rw[decide_eq_false hy]
    have e:cW [x] (out,[]) y=(out++[y],[]):=by
     unfold cW
     rw[m1,if_neg (fun q=>hy q.symm),decide_eq_false (by show ¬((bq [] y:Nat):Int)<_;exact Int.lt_irrefl 0),cond_false]
    rcases ih (out++[y]) with⟨k,h1,h2⟩ | h1
    ·left
     refine⟨k+1,by rw[h1];rfl,?_⟩
     rw[List.foldl_cons,e,h2,List.append_assoc]
     rfl
    ·right
     rw[h1]
     rfl
 unfold dX
 unfold rowAt idx at h ⊢
 rcases key rows [] with⟨k,h1,h2⟩ | h1
 ·rw[h1]
  rw[h2,List.nil_append]
  rfl
 ·rw[h1] at h
  exact absurd h (by decide)
theorem Dn (a b:List (List aa.D)):(dX a b).Sublist a:=by
 have key:∀(l out g:List (List aa.D)),∃o,(l.foldl (cW b) (out,g)).1=out++o/\o.Sublist l:=by
  intro l
  induction l with
  | nil=>intro out g;exact⟨[],by simp,List.Sublist.refl _⟩
  | cons y l ih=>
   intro out g
   have e:cW b (out,g) y=cond (decide ((bq g y:Int)<(bq b y:Int))) (out,g++[y]) (out++[y],g):=rfl
   rw[List.foldl_cons,e]
   cases decide ((bq g y:Int)<(bq b y:Int)) with
   | true=>
    obtain⟨o,h1,h2⟩:=ih out (g++[y])
    exact⟨o,h1,h2.cons y⟩
   | false=>
    obtain⟨o,h1,h2⟩:=ih (out++[y]) g
    exact⟨y::o,by rw[cond_false,h1,List.append_assoc];rfl,h2.cons_cons y⟩
 obtain⟨o,h1,h2⟩:=key a [] []
 unfold dX
 rw[h1]
 exact h2
theorem Ix {a b:List (List aa.D)} (h:Sm (.sl (.sl aa)) a):Sm (.sl (.sl aa)) (dX a b):=⟨Nat.le_trans (Dn a b).length_le h.1,fun x hx=>h.2 x ((Dn a b).subset hx)⟩
end M
end Go.AE
end
