/- Plans turned: plain Lean. -/
import Derived.Test.YtjakcjmjlfdeoaaGreatAeMQ
import Derived.Test.YtjakcjmjlfdeoaaGreatAeX
section
namespace Go.AE
open Go Go.RowKit
set_option linter.unusedVariables false
def M.EN:az.D:=((5:Int),((0:Int),(((0:Int),((0:Int),((⟨#[]⟩:ByteArray),()))),())))
def M.jK (a b:List az.D):List az.D:=a++b++[EN]
def M.oo (to:List Int) (p:az.D):az.D:=cond (decide (p.1=(2:Int))) (p.1,((nth (t:=.int .i64) to p.2.1),p.2.2)) p
def M.lZ (e:List az.D) (to:List Int):List az.D:=e.map (oo to)
def M.Cc (columns:List ai.D) (e:List az.D) (to:List Int):List az.D:=
 cond (decide (bp columns e<0)) [] (cond (!decide ((to.length:Int)=(columns.length:Int))) [] (cond (to.any fun z=>!(inR z 0 3)) [] (lZ e to)))
def M.oF (e:List az.D) (n:Nat):Prop:=∀p∈e,p.1=(2:Int)->0<=p.2.1/\p.2.1<(n:Int)
def M.mkS (k a b:Int) (e:List az.D) (l:List Int):ag.D:=(k,(a,(b,((0:Int),(e,(l,()))))))
def M.iP (s j:ag.D) (at_ rule:Int):List ag.D:=
 cond (decide (rule=(1:Int))) (cond (decide (s.1=(2:Int))&&decide (j.1=(2:Int))) [mkS 2 j.2.1 0 (jK j.2.2.2.2.1 s.2.2.2.2.1) []] [])
 (cond (decide (rule=(2:Int))) (cond (decide (s.1=(2:Int))&&decide (j.1=(4:Int))) [mkS 4 j.2.1 j.2.2.1 (jK j.2.2.2.2.1 s.2.2.2.2.1) []] [])
 (cond (decide (rule=(3:Int))) (cond (decide (s.1=(2:Int))&&decide (j.1=(3:Int))) [mkS 2 j.2.1 0 (lZ s.2.2.2.2.1 j.2.2.2.2.2.1) [],mkS 3 at_ 0 [] j.2.2.2.2.2.1] [])
 (cond (decide (rule=(4:Int))) (cond (decide (s.1=(2:Int))&&decide (j.1=(6:Int))) [mkS 2 j.2.1 0 s.2.2.2.2.1 [],mkS 6 at_ 0 [] []] [])
 (cond (decide (rule=(5:Int))) (cond (decide (s.1=(2:Int))&&decide (j.1=(5:Int))) [mkS 2 j.2.1 0 s.2.2.2.2.1 [],mkS 2 j.2.2.1 0 s.2.2.2.2.1 [],mkS 5 at_ (wrap64 (at_+(1:Int))) [] []] [])
 (cond (decide (rule=(6:Int))) (cond (decide (s.1=(3:Int))&&decide (j.1=(3:Int))) [mkS 3 j.2.1 0 [] (s.2.2.2.2.2.1.map fun z=>nth (t:=.int .i64) j.2.2.2.2.2.1 z)] [])
 (cond (decide (rule=(7:Int))) (cond (decide (s.1=(6:Int))&&decide (j.1=(6:Int))) [mkS 6 j.2.1 0 [] []] []) []))))))
def M.cu (plan:List ag.D) (at_ rule:Int):List ag.D:=iP (nth (t:=ag) plan at_) (nth (t:=ag) plan (nth (t:=ag) plan at_).2.1) at_ rule
def M.KB (n:Nat) (s j:ag.D):Prop:=(¬s.1=(1:Int)->0<=s.2.1/\s.2.1<(n:Int))/\(s.1=(2:Int)->j.1=(3:Int)->oF s.2.2.2.2.1 j.2.2.2.2.2.1.length) ∧
 (s.1=(3:Int)->j.1=(3:Int)->∀z∈s.2.2.2.2.2.1,0<=z/\z<(j.2.2.2.2.2.1.length:Int))
def M.oW (plan:List ag.D) (at_:Int):Prop:=(0<=at_/\at_<(plan.length:Int))/\KB plan.length (nth (t:=ag) plan at_) (nth (t:=ag) plan (nth (t:=ag) plan at_).2.1)
def M.KH (columns:List (List ai.D)) (s j:ag.D):Prop:=s.1=(2:Int)->j.1=(3:Int)->s.2.1<(columns.length:Int)/\Cc (nth (t:=.sl ai) columns s.2.1) s.2.2.2.2.1 j.2.2.2.2.2.1=lZ s.2.2.2.2.1 j.2.2.2.2.2.1
def M.Eu (columns:List (List ai.D)) (plan:List ag.D) (at_:Int):Prop:=KH columns (nth (t:=ag) plan at_) (nth (t:=ag) plan (nth (t:=ag) plan at_).2.1)
def M.shift (at_ more:Int) (s:ag.D):ag.D:=
 (s.1,cond (!decide (s.1=(1:Int))&&decide (at_<=s.2.1)) (wrap64 (s.2.1+more)) s.2.1,cond (two s.1&&decide (at_<=s.2.2.1)) (wrap64 (s.2.2.1+more)) s.2.2.1,s.2.2.2)
def M.cv (plan:List ag.D) (at_:Int) (steps:List ag.D):List ag.D:=plan.take at_.toNat++steps++(plan.drop (at_.toNat+1)).map (shift at_ (wrap64 ((steps.length:Int)-1)))
def M.gZ (tables:List aq.D) (plan:List ag.D) (at_ rule:Int):List ag.D×Bool:=
 cond (decide (((cu plan at_ rule).length:Int)=(0:Int))) (plan,false) (cond (aW tables (cv plan at_ (cu plan at_ rule))) (cv plan at_ (cu plan at_ rule),true) (plan,false))
namespace M
theorem wI {tables:List aq.D}:∀(xs:List ag.D) (st st':dy),cC (aS tables) xs st=some st'->st'.1.length=st.1.length+xs.length/\∀j:Int,0<=j->j<(st.1.length:Int)->nth (t:=.sl ai) st'.1 j=nth (t:=.sl ai) st.1 j
 | [],st,st',h=>by cases h;exact⟨by simp,fun _ _ _=>rfl⟩
 | x::xs,st,st',h=>by
  unfold cC at h
  cases hp:aS tables st x with
  | none=>rw[hp] at h;cases h
  | some st1=>
   rw[hp] at h
   obtain⟨c,_,_,rfl⟩:=dQ hp
   obtain⟨h1,h2⟩:=wI xs _ st' h
   refine⟨by rw[h1];simp;omega,fun j j0 j1=>?_⟩
   rw[h2 j j0 (by simp;omega)]
   exact cw j0 j1
theorem yT {tables:List aq.D}:∀(xs:List ag.D) (st st':dy),cC (aS tables) xs st=some st'->∀i:Int,0<=i->i<(xs.length:Int) →
  ∃a:List (List ai.D),aV tables a (nth (t:=ag) xs i)=some (nth (t:=.sl ai) st'.1 ((st.1.length:Int)+i))/\(a.length:Int)=(st.1.length:Int)+i/\∀j:Int,0<=j->j<(a.length:Int)->nth (t:=.sl ai) a j=nth (t:=.sl ai) st'.1 j
 | [],st,st',h,i,h0,h1=>by simp at h1;omega
 | x::xs,st,st',h,i,h0,h1=>by
  unfold cC at h
  cases hp:aS tables st x with
  | none=>rw[hp] at h;cases h
  | some st1=>
   rw[hp] at h
   obtain⟨c,hc,_,rfl⟩:=dQ hp
   obtain⟨e1,e2⟩:=wI xs _ st' h
   by_cases hi:i=0
   ·subst hi
    rw[vM,Int.add_zero]
    refine⟨st.1,?_,rfl,fun j j0 j1=>?_⟩
    ·rw[e2 _ (by omega) (by simp;omega),cL rfl]
     exact hc
    ·rw[e2 j j0 (by simp;omega)]
     exact(cw j0 j1).symm
   ·obtain⟨a,a1,a2,a3⟩:=yT xs _ st' h (i-1) (by omega) (by simp at h1;omega)
    refine⟨a,?_,by rw[a2];simp;omega,a3⟩
    have e:i=(i-1)+1:=by omega
    rw[e,uW _ _ (by omega)]
    have e3:(((st.1++[c]:List (List ai.D)).length:Nat):Int)+(i-1)=(st.1.length:Int)+(i-1+1):=by simp;omega
    rw[<-e3]
    exact a1
theorem Em {ahead:List (List ai.D)} (ha:∀x∈ahead,x.length<=4) (i:Int):(nth (t:=.sl ai) ahead i:List ai.D).length<=4:=by
 unfold nth
 rw[List.getD_eq_getElem?_getD]
 cases he:ahead[i.toNat]? with
 | none=>exact Nat.zero_le _
 | some x=>exact ha x (List.mem_of_getElem? he)
theorem FM {tables:List aq.D} (ht:cm tables=true) (i:Int):(nth (t:=aq) tables i).1.length<=4:=by
 unfold nth
 rw[List.getD_eq_getElem?_getD]
 cases he:tables[i.toNat]? with
 | none=>exact Nat.zero_le _
 | some x=>
  unfold cm at ht
  have:=List.all_eq_true.1 (Bool.and_eq_true_iff.1 ht).2 x (List.mem_of_getElem? he)
  unfold dU kR bN at this
  simp only[Bool.and_eq_true,decide_eq_true_eq] at this
  exact this.2.1.1
theorem AO {tables:List aq.D} {ahead:List (List ai.D)} {s:ag.D} {c:List ai.D} (ht:cm tables=true) (ha:∀x∈ahead,x.length<=4) (h:aV tables ahead s=some c):c.length<=4:=by
 have hn:=Em ha
 unfold aV at h
 obtain⟨_,h⟩:=aG h
 cases h1:decide (s.1=(1:Int)) with
 | true=>
  rw[h1,cond_true] at h
  obtain⟨_,h⟩:=aG h
  cases h
  exact FM ht _
 | false=>
  rw[h1,cond_false] at h
  obtain⟨_,h⟩:=aG h
  cases h2:decide (s.1=(2:Int)) with
  | true=>
   rw[h2,cond_true] at h
   obtain⟨_,h⟩:=aG h
   cases h
   exact hn _
  | false=>
   rw[h2,cond_false] at h
   cases h3:decide (s.1=(3:Int)) with
   | true=>
    rw[h3,cond_true] at h
    obtain⟨hb,h⟩:=aG h
    cases h
    have:=of_decide_eq_true (Bool.and_eq_true_iff.1 hb).2
    rw[List.length_map]
    omega
   | false=>
    rw[h3,cond_false] at h
    cases h4:decide (s.1=(4:Int)) with
    | true=>
     rw[h4,cond_true] at h
     obtain⟨hb,h⟩:=aG h
     cases h
     have:=of_decide_eq_true (Bool.and_eq_true_iff.1 hb).1
     omega
    | false=>
     rw[h4,cond_false] at h
     cases h5:decide (s.1=(5:Int)) with
     | true=>
      rw[h5,cond_true] at h
      unfold both at h
      obtain⟨_,h⟩:=aG h
      rw[jw h]
      exact hn _
     | false=>
      rw[h5,cond_false] at h
      obtain⟨_,h⟩:=aG h
      cases h
      exact hn _
theorem zg {tables:List aq.D} (ht:cm tables=true):∀(xs:List ag.D) (st st':dy),(∀x∈st.1,x.length<=4)->cC (aS tables) xs st=some st'->∀x∈st'.1,x.length<=4
 | [],st,st',ha,h=>by cases h;exact ha
 | x::xs,st,st',ha,h=>by
  unfold cC at h
  cases hp:aS tables st x with
  | none=>rw[hp] at h;cases h
  | some st1=>
   rw[hp] at h
   obtain⟨c,hc,_,rfl⟩:=dQ hp
   refine zg ht xs _ st' (fun y hy=>?_) h
   rcases List.mem_append.1 hy with hy | hy
   ·exact ha y hy
   ·rw[List.mem_singleton.1 hy]
    exact AO ht ha hc
theorem qg {tables:List aq.D} {ahead:List (List ai.D)} {s:ag.D} {c:List ai.D} (h:aV tables ahead s=some c) (h2:s.1=(2:Int)):bp (nth (t:=.sl ai) ahead s.2.1) s.2.2.2.2.1=3:=by
 unfold aV at h
 obtain⟨_,h⟩:=aG h
 rw[decide_eq_false (show ¬s.1=(1:Int) by rw[h2];decide),cond_false] at h
 obtain⟨_,h⟩:=aG h
 rw[decide_eq_true h2,cond_true] at h
 obtain⟨hb,_⟩:=aG h
 exact of_decide_eq_true hb
theorem sI {tables:List aq.D} {ahead:List (List ai.D)} {s:ag.D} {c:List ai.D} (h:aV tables ahead s=some c) (h2:s.1=(3:Int)) :
  (∀n∈s.2.2.2.2.2.1,inR n 0 (((nth (t:=.sl ai) ahead s.2.1).length:Int)-1)=true)/\c.length=s.2.2.2.2.2.1.length:=by
 unfold aV at h
 obtain⟨_,h⟩:=aG h
 rw[decide_eq_false (show ¬s.1=(1:Int) by rw[h2];decide),cond_false] at h
 obtain⟨_,h⟩:=aG h
 rw[decide_eq_false (show ¬s.1=(2:Int) by rw[h2];decide),cond_false] at h
 rw[decide_eq_true h2,cond_true] at h
 obtain⟨hb,h⟩:=aG h
 cases h
 exact⟨fun n hn=>List.all_eq_true.1 (Bool.and_eq_true_iff.1 hb).1 n hn,by rw[List.length_map]⟩
theorem BC {tables:List aq.D} {ahead:List (List ai.D)} {s:ag.D} {c:List ai.D} (h:aV tables ahead s=some c) (h2:s.1=(4:Int)):∃q,bp q s.2.2.2.2.1=3:=by
 unfold aV at h
 obtain⟨_,h⟩:=aG h
 rw[decide_eq_false (show ¬s.1=(1:Int) by rw[h2];decide),cond_false] at h
 obtain⟨_,h⟩:=aG h
 rw[decide_eq_false (show ¬s.1=(2:Int) by rw[h2];decide),cond_false] at h
 rw[decide_eq_false (show ¬s.1=(3:Int) by rw[h2];decide),cond_false] at h
 rw[decide_eq_true h2,cond_true] at h
 obtain⟨hb,h⟩:=aG h
 exact⟨_,of_decide_eq_true (Bool.and_eq_true_iff.1 hb).2⟩
theorem zW {q:List ai.D} {e:List az.D} (h:bp q e=3):e.length<=12:=by
 unfold bp at h
 cases hc:(bN q&&decide (e.length<=12)) with
 | false=>rw[hc] at h;simp at h
 | true=>exact of_decide_eq_true (Bool.and_eq_true_iff.1 hc).2
theorem yV {w:Nat}:∀(e:List az.D) (d:Nat),sC w e d->oF e w
 | [],d,h=>fun p hp=>by cases hp
 | q::e,d,h=>fun p hp=>by
  obtain⟨_,_,h3,h4⟩:=h
  rcases List.mem_cons.1 hp with rfl | hp
  ·exact h3
  ·exact yV e _ h4 p hp
theorem Ih {a m:Int} {s:ag.D} (h:Sm ag s):Sm ag (shift a m s):=⟨trivial,trivial,trivial,h.2.2.2⟩
theorem IL {plan:List ag.D} {at_:Int} {n:List ag.D} (hp:Sm (.sl ag) plan) (h6:plan.length<=6) (hn:Sm (.sl ag) n) (h3:n.length<=3):Sm (.sl ag) (cv plan at_ n):=by
 refine⟨?_,fun x hx=>?_⟩
 ·show (cv plan at_ n).length<=1048576
  unfold cv
  have:=List.length_take_le at_.toNat plan
  simp only[List.length_append,List.length_map,List.length_drop]
  have h7:(plan.take at_.toNat).length<=6:=Nat.le_trans (List.length_take_le' _ _) h6
  omega
 ·unfold cv at hx
  rcases List.mem_append.1 hx with hx | hx
  ·rcases List.mem_append.1 hx with hx | hx
   ·exact hp.2 x (List.mem_of_mem_take hx)
   ·exact hn.2 x hx
  ·obtain⟨y,hy,rfl⟩:=List.mem_map.1 hx
   exact Ih (hp.2 y (List.mem_of_mem_drop hy))
theorem IZ {α:Type} {b:Bool} {xs ys:List α} {n:Nat} (h1:xs.length<=n) (h2:ys.length<=n):(cond b xs ys).length<=n:=by cases b<;>assumption
theorem yI (s j:ag.D) (at_ rule:Int):(iP s j at_ rule).length<=3:=by
 unfold iP
 repeat' (refine IZ ?_ ?_)
 all_goals simp
end M
end Go.AE
end
section
namespace Go.AE
open Go Go.RowKit
def mW:Env->Env
 | []=>[]
 | (j,v)::l=>(Nat.add j bS,v)::mW l
def nR:Env->Env
 | []=>[]
 | (j,v)::l=>bif Nat.ble bS j then (Nat.sub j bS,v)::nR l else nR l
def CT (E:Tab) (deep:Bool) (rs:List ResultVar) (K:AV->St->Prop) (s:St):Prop:=match rs with
 | [r]=>cR (rU E deep s r) fun p=>K p.1 ⟨nR p.2.env,p.2.hp⟩
 | rs=>cR (rF E deep rs s) fun p=>K (.tup p.1) ⟨nR p.2.env,p.2.hp⟩
def Ld (E:Tab) (deep:Bool) (rs:List ResultVar) (K:AV->St->Prop):X->St->Prop
 | .normal,s=>CT E deep rs K s
 | .ret,s=>CT E deep rs K s
 | .exit _,_=>False
def aC:bL:=fun _ _ _ _=>False
def sW (C:Ctx) (ann:Nat->List Dir) (code:Code) (rs:List ResultVar):Inl:=fun args s K=>
 bif Nat.ble args.length C.n&&Nat.ble C.n bS then awp C aC ann code ⟨oI 0 args++mW s.env,s.hp⟩ (Ld C.tab C.deep rs K) else False
theorem lookup_append {α:Type}:∀(l k:List (Nat×α)) (j:Nat),lookup (l++k) j=match lookup l j with | some v=>some v | none=>lookup k j
 | [],k,j=>by simp[lookup]
 | (i,x)::l,k,j=>by
  rw[List.cons_append,lookup_cons,lookup_cons]
  by_cases h:i=j
  ·rw[if_pos h,if_pos h]
  ·rw[if_neg h,if_neg h]
   exact lookup_append l k j
theorem vc:∀(e:Env) (j:Nat) (v:AV),lookup (mW e) j=some v->∃k,j=k+bS/\lookup e k=some v
 | [],j,v,h=>by simp[mW,lookup] at h
 | (i,x)::l,j,v,h=>by
  unfold mW at h
  rw[lookup_cons] at h
  split at h
  ·rename_i e
   cases h
   exact⟨i,e.symm,by rw[lookup_cons,if_pos rfl]⟩
  ·rename_i hne
   obtain⟨k,hk,hl⟩:=vc l j v h
   refine⟨k,hk,?_⟩
   rw[lookup_cons,if_neg ?_]
   ·exact hl
   ·rintro rfl
    exact hne hk.symm
theorem nt:∀(e:Env) (k:Nat) (v:AV),lookup (nR e) k=some v->lookup e (k+bS)=some v
 | [],k,v,h=>by simp[nR,lookup] at h
 | (i,x)::l,k,v,h=>by
  unfold nR at h
  cases hb:Nat.ble bS i with
  | false=>
   rw[hb] at h
   have hlt:¬bS<=i:=by intro hc;rw[Nat.ble_eq_true_of_le hc] at hb;cases hb
   rw[lookup_cons,if_neg (by omega)]
   exact nt l k v h
  | true=>
   rw[hb] at h
   simp only[cond_true] at h
   have hle:bS<=i:=Nat.le_of_ble_eq_true hb
   rw[lookup_cons] at h
   have hs:Nat.sub i bS=i-bS:=rfl
   split at h
   ·rename_i e
    rw[hs] at e
    cases h
    rw[lookup_cons,if_pos (by omega)]
   ·rename_i e
    rw[hs] at e
    rw[lookup_cons,if_neg (by omega)]
    exact nt l k v h
section
variable {P:Program} {C:Ctx} {g:Gl} {N:Nat} {s:St} {a:Act} {w:World} {φ:Names}
def AM (g:Gl) (gh:Nat->Value):Gl:={ g with gh:=gh }
def An (g:Gl) (a:Act) (gh:Nat->Value):Prop:=∀k,gh (k+bS)=valOf g a k
theorem FC (g:Gl) (a:Act):∃gh,An g a gh:=⟨fun j=>valOf g a (j-bS),fun k=>by simp only[Nat.add_sub_cancel]⟩
theorem wm (gh:Nat->Value) {hp:Hp} {n:Nat}:imm (AM g gh) φ hp n=imm g φ hp n:=by unfold imm AM;rfl
theorem sL (gh:Nat->Value):aP (AM g gh)=aP g:=by unfold aP AM;rfl
theorem EL {gh:Nat->Value} {a a':Act} {k:Nat} (hg:An g a gh):valOf (AM g gh) a' (k+bS)=valOf g a k:=by
 have hb:Nat.blt (k+bS) bS=false:=by
  cases hb:Nat.blt (k+bS) bS with
  | false=>rfl
  | true=>rw[Nat.blt_eq] at hb;omega
 unfold valOf
 rw[hb]
 simp only[cond_false,AM]
 exact hg k
theorem Kq {gh:Nat->Value} (hg:An g a gh) {hp:Hp} {args:List AV} {vals:List Value} {n:Nat} {e:Env} (hv:ax w (imm g φ hp w.heap.size) (aP g) φ hp args vals) (he:∀j av,lookup e j=some av->ak w (imm g φ hp w.heap.size) (aP g) φ hp av (valOf g a j))
  (hle:args.length<=n) (hgl:n<=bS) (j:Nat) (av:AV) (hj:lookup (oI 0 args++mW e) j=some av) :
  ak w (imm g φ hp w.heap.size) (aP g) φ hp av (valOf (AM g gh) { tmps:=vals.toArray++Array.replicate (n-vals.toArray.size) undef,defers:=[] } j):=by
 have hlen:=hv.length
 rw[lookup_append] at hj
 split at hj
 ·rename_i v hla
  cases hj
  obtain⟨_,u,h1,h2⟩:=rO hv j av hla
  have h1:vals[j]? = some u:=by simpa using h1
  have hlt:j<vals.length:=(List.getElem?_eq_some_iff.1 h1).1
  have hu:(vals.toArray++Array.replicate (n-vals.toArray.size) undef).getD j undef=u:=by
   rw[Array.getD_eq_getD_getElem?,Array.getElem?_append_left (by simpa using hlt)]
   simp[h1]
  have hjg:Nat.blt j bS=true:=by rw[Nat.blt_eq];omega
  unfold valOf
  rw[hjg]
  simp only[cond_true]
  rw[hu]
  exact h2
 ·obtain⟨k,hk0,hk⟩:=vc _ _ _ hj
  rw[hk0,EL hg]
  exact he k av hk
theorem KG {gh:Nat->Value} (hg:An g a gh) {args:List AV} {vals:List Value} {n:Nat} (h:Sim g N s a w φ) (hv:ax w (imm g φ s.hp w.heap.size) (aP g) φ s.hp args vals) (hle:args.length<=n) (hgl:n<=bS) :
  Sim (AM g gh) n ⟨oI 0 args++mW s.env,s.hp⟩ { tmps:=vals.toArray++Array.replicate (n-vals.toArray.size) undef,defers:=[] } w φ:=by
 have hlen:=hv.length
 refine⟨rfl,by simp;omega,h.os,h.tape,h.output,h.hsize,h.frame,h.inj,h.apart,h.place,fun i blk hi=>?_,fun j av hj=>?_,h.pinned⟩
 ·rw[wm,sL]
  exact h.blocks i blk hi
 ·rw[wm,sL]
  exact Kq hg hv h.env hle hgl j av hj
theorem GF {gh:Nat->Value} (hg:An g a gh) {a':Act} {w':World} {s1:St} {φ1:Names} {n:Nat} (h:Sim g N s a w φ) (hs:Sim (AM g gh) n s1 a' w' φ1):Sim g N ⟨nR s1.env,s1.hp⟩ a w' φ1:=by
 refine⟨h.defers,h.size,hs.os,hs.tape,hs.output,hs.hsize,hs.frame,hs.inj,hs.apart,hs.place,fun i blk hi=>?_,fun k av hk=>?_,hs.pinned⟩
 ·have:=hs.blocks i blk hi
  rw[wm,sL] at this
  exact this
 ·have:=hs.env _ _ (nt _ _ _ hk)
  rw[wm,sL,EL hg] at this
  exact this
theorem Kw (hT:TabOk P C) (hC:ew P C) (hm:P.follows .mixedOrders=true) {f:FuncId} {fn:Func} {code:Code} (hf:P.funcs[f]? = some fn) (hb:fn.body=some code) (hN:C.n=fn.ntmps) {ann:Nat->List Dir} (hl:bV code=[]) :
  Ge P f (sW C ann code fn.results.toList):=by
 intro g N s a w φ args vals K h hv hop
 unfold sW at hop
 cases hq:(Nat.ble args.length C.n&&Nat.ble C.n bS) with
 | false=>rw[hq] at hop;exact hop.elim
 | true=>
 rw[hq] at hop
 simp only[cond_true] at hop
 obtain⟨hq1,hq2⟩:=Bool.and_eq_true_iff.1 hq
 have hle:args.length<=fn.ntmps:=by rw[<-hN];exact Nat.le_of_ble_eq_true hq1
 have hgl:fn.ntmps<=bS:=by rw[<-hN];exact Nat.le_of_ble_eq_true hq2
 obtain⟨gh,hg⟩:=FC g a
 have hS:=KG hg h hv hle hgl
 refine calls_of_wp hf hb (wp_mono (Iv (L:=aC) (ann:=ann) hT hC hN hm code (by rw[hl];intro p hp;cases hp) _ _ _ _ φ hS hop) ?_)
 intro e a' w' hq
 have fin:(∃s1 φ1,CT C.tab C.deep fn.results.toList K s1/\Sim (AM g gh) fn.ntmps s1 a' w' φ1)->a'.defers=[]/\∃u,(results fn a'.tmps).run P w'=.ok u w' ∧
   ∃v s' φ',K v s'/\Sim g N s' a w' φ'/\ak w' (imm g φ' s'.hp w'.heap.size) (aP g) φ' s'.hp v u:=by
  rintro ⟨s1,φ1,hk,hs⟩
  refine⟨hs.defers,?_⟩
  unfold CT at hk
  split at hk
  ·rename_i r ht
   obtain⟨p,hp,hk⟩:=aJ hk
   obtain⟨u,hrun,h1,_,hv⟩:=vt hT hs (show rU C.tab _ s1 r=some (p.1,p.2) from hp)
   rw[wm,sL] at hv
   refine⟨u,?_,p.1,_,φ1,hk,GF hg h h1,hv⟩
   rw[jD (us:=[u]) (by rw[ht];exact .cons hrun .nil)]
   simp
  ·rename_i hne
   obtain⟨p,hp,hk⟩:=aJ hk
   obtain⟨us,h1,_,h3,h4⟩:=tK hT hs (show rF C.tab _ fn.results.toList s1=some (p.1,p.2) from hp)
   rw[wm,sL] at h4
   have hlen:¬us.toArray.size=1:=by
    intro e
    have e:us.length=1:=e
    rw[<-h3.length_eq] at e
    match hq:fn.results.toList,e with
    | [r],_=>exact hne r hq
   refine⟨_,jD h3,.tup p.1,_,φ1,hk,GF hg h h1,?_⟩
   rw[dif_neg hlen]
   simp only[ak]
   exact⟨_,rfl,h4⟩
 cases e with
 | normal=>exact fin hq
 | ret=>exact fin hq
 | exit i=>obtain⟨s,φ,hk,_⟩:=hq;exact hk.elim
 | goto l=>exact hq.elim
 | panic c=>exact hq.elim
 | outgrown=>exact hq.elim
end
theorem ln_of_fine:∀{t:Ty} {x:t.D},wk t x->Ln t x
 | .int _,_,_=>trivial
 | .bool,_,_=>trivial
 | .str,_,h=>by
  have h:(_:ByteArray).size<=Go.maxLen:=h
  exact h
 | .unit,_,_=>trivial
 | .sl _,_,h=>⟨h.1,fun y hy=>ln_of_fine (h.2 y hy)⟩
 | .pair _ _,_,h=>⟨ln_of_fine h.1,ln_of_fine h.2⟩
end Go.AE
end
