/- The table of a program's types: what has to be checked of it, as a Bool. -/
import Derived.Test.YtmkgiaecgkicoaaGreatAeCode
import Derived.Laws.StructEq
section
namespace Go.AE
open Go Go.RowKit
def oH:Ty->List Value->Option (List Value)
 | .int k,l=>(match l with
  | .int k' n::l'=>(match decide (k'=k),n with
   | true,.ofNat 0=>some l'
   | _,_=>none)
  | _=>none)
 | .bool,l=>(match l with
  | .bool false::l'=>some l'
  | _=>none)
 | .str,l=>(match l with
  | .string ⟨⟨[]⟩⟩::l'=>some l'
  | _=>none)
 | .unit,l=>some l
 | .sl _,l=>(match l with
  | .slice none 0 0::l'=>some l'
  | _=>none)
 | .pair a b,l=>match oH a l with
  | some l'=>oH b l'
  | none=>none
theorem DP:∀{t:Ty} {l r:List Value},oH t l=some r->l=bq t++r:=by
 intro t
 induction t with
 | int k=>
  intro l r h
  unfold oH at h
  split at h
  ·split at h
   ·rename_i hk
    cases h
    rw[of_decide_eq_true hk]
    rfl
   ·cases h
  ·cases h
 | bool=>intro l r h;unfold oH at h;split at h<;>cases h;rfl
 | str=>intro l r h;unfold oH at h;split at h<;>cases h;rfl
 | unit=>intro l r h;unfold oH at h;cases h;rfl
 | sl t _=>intro l r h;unfold oH at h;split at h<;>cases h;rfl
 | pair a b iha ihb=>
  intro l r h
  unfold oH at h
  split at h
  ·rename_i l' hl
   rw[iha hl,ihb h]
   simp[bq]
  ·cases h
def isInt:TypeDesc->Bool
 | .int _=>true
 | _=>false
def Da (P:Program) (t:TypeId) (ty:Ty):Bool:=match P.info? t with
 | some i=>Nat.beq i.size ty.size&&Nat.blt 0 ty.size&&(match i.zero with
  | some z=>(match oH ty z.cells.toList with
   | some []=>true
   | _=>false)
  | none=>false)&&(match P.underlying t with
  | some d=>mF d==ty.agg
  | none=>false)
 | none=>false
theorem pE {P:Program} {t:TypeId} {ty:Ty} (h:Da P t ty=true):TyFact P t ty:=by
 unfold Da at h
 split at h
 case h_2=>cases h
 rename_i i hi
 simp only[Bool.and_eq_true] at h
 obtain⟨⟨⟨h1,h2⟩,h3⟩,h4⟩:=h
 split at h3
 case h_2=>cases h3
 rename_i z hz
 split at h3
 case h_2=>cases h3
 rename_i hzz
 split at h4
 case h_2=>cases h4
 rename_i d hd
 refine⟨⟨i,z,hi,Nat.eq_of_beq_eq_true h1,hz,by rw[DP hzz];simp⟩,Ax h2,d,hd,by simpa using h4⟩
def bM (P:Program):List Field->List (Nat×TypeId×String)->Bool
 | [],[]=>true
 | f::l,q::l'=>Nat.beq f.offset q.1&&Nat.beq f.type q.2.1&&(match P.info? q.2.1 with
  | some j=>Nat.blt 0 j.size
  | none=>false)&&bM P l l'
 | _,_=>false
def uM (E:Tab):Nat->List (Nat×TypeId×String)->Ty->Bool
 | _,[],.unit=>true
 | off,q::l,.pair a b=>Nat.beq q.1 off&&(match E.ty q.2.1 with
  | some u=>Ty.same u a
  | none=>false)&&uM E (off+a.size) l b
 | _,_,_=>false
def Gi (P:Program) (E:Tab) (t:TypeId) (ti:TI):Bool:=(match P.info? t with
 | some i=>Nat.beq i.bytes ti.bytes
 | none=>false)&&(match ti.td with
 | .val ty=>Da P t ty&&(match ty with
  | .str=>(match P.underlying t with
   | some .string=>true
   | _=>false)
  | .int k=>(match P.underlying t with
   | some (.int k')=>decide (k'=k)
   | _=>false)
  | .bool=>(match P.underlying t with
   | some .bool=>true
   | _=>false)
  | _=>false)
 | .sl e ty=>Da P t (.sl ty)&&(match P.underlying t with
  | some (.slice e')=>Nat.beq e' e
  | _=>false)&&(match lookup E e with
  | some ei=>Nat.blt 0 ei.bytes&&(match ei.td.ty with
   | some u=>Ty.same u ty
   | none=>false)
  | none=>false)
 | .st fs ty=>Da P t ty&&(match P.underlying t with
  | some (.struct fields)=>bM P fields.toList fs
  | _=>false)&&uM E 0 fs ty
 | .mp k e ty=>(Da P e ty&&(match P.info? e with
  | some i=>(match i.zero with
   | some (.agg _)=>ty.agg
   | some _=>!ty.agg
   | none=>false)
  | none=>false))&&(match P.underlying t with
  | some (.map kt e')=>Nat.beq e' e&&(match P.underlying kt with
   | some (.int k')=>decide (k'=k)
   | _=>false)
  | _=>false)
 | _=>(match P.underlying t with
  | some d=>!isInt d
  | none=>false))
def Cc (P:Program) (E:Tab):Tab->Bool
 | []=>true
 | (t,ti)::l=>Gi P E t ti&&Cc P E l
def wS (P:Program) (t:TypeId):Ty->Bool
 | .int k=>(match P.underlying t with
  | some (.int k')=>decide (k'=k)
  | _=>false)
 | .bool=>(match P.underlying t with
  | some .bool=>true
  | _=>false)
 | .str=>(match P.underlying t with
  | some .string=>true
  | _=>false)
 | _=>false
def JK (P:Program) (r:TypeId->Ty->Bool):Nat->List Field->Ty->Bool
 | _,[],.unit=>true
 | off,f::l,.pair a b=>Nat.beq f.offset off&&(f.name != "_")&&Da P f.type a&&r f.type a&&JK P r (off+a.size) l b
 | _,_,_=>false
def eqTy (P:Program):Nat->TypeId->Ty->Bool
 | 0,t,ty=>wS P t ty
 | n+1,t,ty=>bif ty.agg then (match P.underlying t with
  | some (.struct fs)=>!P.stoodInHeld t&&JK P (eqTy P n) 0 fs.toList ty
  | _=>false) else wS P t ty
def El (P:Program) (E:Tab):List TypeId->Bool
 | []=>true
 | t::l=>(match E.ty t with
  | some ty=>eqTy P 8 t ty&&!P.eqGuardType P.depth t
  | none=>false)&&El P E l
end Go.AE
end
section
namespace Go.AE
open Go Go.RowKit
variable {P:Program} {E:Tab}
theorem Af:∀{l:Tab},Cc P E l=true->∀t ti,lookup l t=some ti->Gi P E t ti=true
 | [],_,t,ti,h=>by simp[lookup] at h
 | (u,ui)::l,hk,t,ti,h=>by
  unfold Cc at hk
  obtain⟨h1,h2⟩:=Bool.and_eq_true_iff.1 hk
  rw[lookup_cons] at h
  split at h
  ·rename_i e
   cases h
   rw[<-e]
   exact h1
  ·exact Af h2 t ti h
theorem kU {t u:Ty} (h:Ty.same t u=true):t=u:=by
 unfold Ty.same at h
 split at h
 ·rename_i hh _;exact hh.down
 ·cases h
theorem xE:∀{fl:List Field} {l:List (Nat×TypeId×String)},bM P fl l=true->∀i off ft nm,fJ l i=some (off,ft,nm) →
  ∃f,fl[i]? = some f/\f.offset=off/\f.type=ft/\∃j,P.info? ft=some j/\j.size≠0
 | [],[],_,i,off,ft,nm,h=>by simp[fJ] at h
 | [],_::_,hk,_,_,_,_,_=>by simp[bM] at hk
 | _::_,[],hk,_,_,_,_,_=>by simp[bM] at hk
 | f::fl,q::l,hk,i,off,ft,nm,h=>by
  unfold bM at hk
  simp only[Bool.and_eq_true] at hk
  obtain⟨⟨⟨h1,h2⟩,h3⟩,h4⟩:=hk
  cases i with
  | zero=>
   simp only[fJ,Option.some.injEq] at h
   subst h
   split at h3
   ·rename_i j hj
    refine⟨f,rfl,Nat.eq_of_beq_eq_true h1,Nat.eq_of_beq_eq_true h2,j,hj,?_⟩
    have:=Ax h3
    omega
   ·cases h3
  | succ i=>
   simp only[fJ] at h
   simpa using xE h4 i off ft nm h
theorem qP:∀{fl:List Field} {l:List (Nat×TypeId×String)},bM P fl l=true →
  ∃pl,fl.mapM (fun f=>(P.info? f.type).map fun i=>(f.offset,i.size))=some pl/\∀i off ft nm,fJ l i=some (off,ft,nm)->∃j,P.info? ft=some j/\pl[i]? = some (off,j.size)
 | [],[],_=>⟨[],by simp,fun i off ft nm h=>by simp[fJ] at h⟩
 | [],_::_,hk=>by simp[bM] at hk
 | _::_,[],hk=>by simp[bM] at hk
 | f::fl,q::l,hk=>by
  unfold bM at hk
  simp only[Bool.and_eq_true] at hk
  obtain⟨⟨⟨h1,h2⟩,h3⟩,h4⟩:=hk
  obtain⟨pl,hp,hq⟩:=qP h4
  split at h3
  ·rename_i j hj
   have e2:=Nat.eq_of_beq_eq_true h2
   refine⟨(f.offset,j.size)::pl,by rw[List.mapM_cons,e2,hj,hp];rfl,?_⟩
   intro i off ft nm h
   cases i with
   | zero=>
    simp only[fJ,Option.some.injEq] at h
    subst h
    exact⟨j,hj,by simp[Nat.eq_of_beq_eq_true h1]⟩
   | succ i=>
    simp only[fJ] at h
    simpa using hq i off ft nm h
  ·cases h3
theorem JM {n:Nat} (hT:∀(t:TypeId) (ty:Ty),eqTy P n t ty=true->∀(I:Nat->Prop) (w0 w:World) (x y:ty.D) (cx cy:List Value) (d:Nat),n<d->Rep w0 I ty x cx->Rep w0 I ty y cy →
   (Op.equalIn d t (mkv ty cx) (mkv ty cy)).run P w=.ok (ty.beq x y) w) (I:Nat->Prop) (w0 w:World) (d:Nat) (hd:n<d) :
  ∀(fs:List Field) (off:Nat) (ty:Ty),JK P (eqTy P n) off fs ty=true->∀(x y:ty.D) (cx cy px py:List Value),px.length=off->py.length=off->Rep w0 I ty x cx->Rep w0 I ty y cy →
   (Op.eqFields d (px++cx).toArray (py++cy).toArray fs).run P w=.ok (ty.beq x y) w:=by
 intro fs
 induction fs with
 | nil=>
  intro off ty h x y cx cy px py hpx hpy hx hy
  cases ty with
  | unit=>simp[Op.eqFields,Ty.beq]
  | _=>cases h
 | cons f fs ih=>
  intro off ty h x y cx cy px py hpx hpy hx hy
  cases ty with
  | pair a b=>
   have h:(Nat.beq f.offset off&&(f.name != "_")&&Da P f.type a&&eqTy P n f.type a&&JK P (eqTy P n) (off+a.size) fs b)=true:=h
   simp only[Bool.and_eq_true] at h
   obtain⟨⟨⟨⟨h1,h2⟩,h3⟩,h4⟩,h5⟩:=h
   have hoff:f.offset=off:=Nat.eq_of_beq_eq_true h1
   have hn:f.name ≠ "_" :=by simpa using h2
   obtain⟨c1,c2,rfl,hx1,hx2⟩:=hx
   obtain⟨e1,e2,rfl,hy1,hy2⟩:=hy
   have hf:=pE h3
   have hc:∀(p c r:List Value),p.length=off->c.length=a.size->(((p++(c++r)).drop off).take a.size)=c:=by
    intro p c r hp hcl
    rw[<-hp,List.drop_left,<-hcl,List.take_left]
   have p1:=yY (P:=P) (w:=w) hf (cs:=px++(c1++c2)) (off:=off) (by rw[hc px c1 c2 hpx hx1.length];exact hx1.length)
   have p2:=yY (P:=P) (w:=w) hf (cs:=py++(e1++e2)) (off:=off) (by rw[hc py e1 e2 hpy hy1.length];exact hy1.length)
   rw[hc px c1 c2 hpx hx1.length] at p1
   rw[hc py e1 e2 hpy hy1.length] at p2
   have heq:=hT f.type a h4 I w0 w x.1 y.1 c1 e1 d hd hx1 hy1
   have hrest:=ih (off+a.size) b h5 x.2 y.2 c2 e2 (px++c1) (py++e1) (by simp[hpx,hx1.length]) (by simp[hpy,hy1.length]) hx2 hy2
   rw[List.append_assoc,List.append_assoc] at hrest
   rw[Op.eqFields]
   simp only[if_pos hn,hoff,Sem.run_bind,p1,p2,heq,Result.andThen_ok]
   simp only[Ty.beq]
   cases a.beq x.1 y.1
   ·simp
   ·simpa using hrest
  | _=>cases h
theorem xB {t:TypeId} {ty:Ty} (h:wS P t ty=true) (I:Nat->Prop) (w0 w:World) (x y:ty.D) (cx cy:List Value) (d:Nat) (hx:Rep w0 I ty x cx) (hy:Rep w0 I ty y cy) :
  (Op.equalIn (d+1) t (mkv ty cx) (mkv ty cy)).run P w=.ok (ty.beq x y) w:=by
 cases ty with
 | int k=>
  simp only[wS] at h
  split at h
  ·rename_i k' hk
   cases hx
   cases hy
   simp only[mkv,Ty.agg,List.headD_cons]
   rw[run_equalIn_int w d t k k' x y hk]
   rfl
  ·cases h
 | bool=>
  simp only[wS] at h
  split at h
  ·rename_i hk
   cases hx
   cases hy
   simp only[mkv,Ty.agg,List.headD_cons]
   rw[run_equalIn_bool' w d t x y hk]
   rfl
  ·cases h
 | str=>
  simp only[wS] at h
  split at h
  ·rename_i hk
   cases hx
   cases hy
   simp only[mkv,Ty.agg,List.headD_cons]
   rw[run_equalIn_string w d t x y hk,toList_inj]
   rfl
  ·cases h
 | _=>cases h
theorem Hx:∀(n:Nat) (t:TypeId) (ty:Ty),eqTy P n t ty=true->∀(I:Nat->Prop) (w0 w:World) (x y:ty.D) (cx cy:List Value) (d:Nat),n<d->Rep w0 I ty x cx->Rep w0 I ty y cy →
  (Op.equalIn d t (mkv ty cx) (mkv ty cy)).run P w=.ok (ty.beq x y) w:=by
 intro n
 induction n with
 | zero=>
  intro t ty h I w0 w x y cx cy d hd hx hy
  obtain⟨d',rfl⟩:∃d',d=d'+1:=⟨d-1,by omega⟩
  exact xB h I w0 w x y cx cy d' hx hy
 | succ n ih=>
  intro t ty h I w0 w x y cx cy d hd hx hy
  obtain⟨d',rfl⟩:∃d',d=d'+1:=⟨d-1,by omega⟩
  unfold eqTy at h
  cases ha:ty.agg with
  | false=>
   rw[ha] at h
   exact xB h I w0 w x y cx cy d' hx hy
  | true=>
   rw[ha] at h
   simp only[cond_true] at h
   split at h
   ·rename_i fs hfs
    obtain⟨h1,h2⟩:=Bool.and_eq_true_iff.1 h
    have hfo:P.fieldsOf t=fs:=by simp[Program.fieldsOf,hfs]
    have e1:∀c,mkv ty c=.agg c.toArray:=fun c=>by simp[mkv,ha]
    rw[e1,e1,run_equalIn_struct w d' t cx.toArray cy.toArray (by rw[hfo];exact hfs) (by simpa using h1),hfo]
    have:=JM (P:=P) (n:=n) (fun t ty=>ih t ty) I w0 w d' (by omega) fs.toList 0 ty h2 x y cx cy [] [] rfl rfl hx hy
    simpa using this
   ·cases h
theorem HU:∀{l:List TypeId},El P E l=true->∀t,jJ t l=true->∃ty,E.ty t=some ty/\eqTy P 8 t ty=true/\P.eqGuardType P.depth t=false
 | [],_,t,h=>by simp[jJ] at h
 | u::l,hk,t,h=>by
  unfold El at hk
  obtain⟨h1,h2⟩:=Bool.and_eq_true_iff.1 hk
  unfold jJ at h
  rcases aZ t u with⟨e,hb⟩ | ⟨_,hb⟩
  ·subst e
   split at h1
   ·rename_i ty hty
    obtain⟨h3,h4⟩:=Bool.and_eq_true_iff.1 h1
    exact⟨ty,hty,h3,by simpa using h4⟩
   ·cases h1
  ·rw[hb] at h
   exact HU h2 t h
theorem Kx {t:TypeId} {ty:Ty} (h:eqTy P 8 t ty=true) (hg:P.eqGuardType P.depth t=false) (I:Nat->Prop) (w0 w:World) (x y:ty.D) (cx cy:List Value) (hx:Rep w0 I ty x cx) (hy:Rep w0 I ty y cy) (ox oy:Operand) (b:Bool) :
  (do eqGuard (if b then .neq else .eql) t ox oy (mkv ty cx) (mkv ty cy);binOp (if b then .neq else .eql) t (mkv ty cx) (mkv ty cy):Sem Value).run P w=.ok (.bool (if b then !ty.beq x y else ty.beq x y)) w:=by
 have he:=Hx 8 t ty h I w0 w x y cx cy 10000 (by decide) hx hy
 cases ty with
 | int k=>
  cases hx;cases hy
  simp only[mkv,Ty.agg,List.headD_cons]
  cases b<;>simp[eqGuard_at_int,binOp,Op.intCmp,Ty.beq,bne]<;>rfl
 | bool=>
  cases hx;cases hy
  simp only[mkv,Ty.agg,List.headD_cons] at he ⊢
  cases b<;>simp[eqGuard_at_bool,binOp,Op.equal,Op.maxDepth,Ty.beq,he]
 | str=>
  cases hx;cases hy
  simp only[mkv,Ty.agg,List.headD_cons]
  cases b<;>simp[eqGuard_at_string,binOp,Op.stringOp,Ty.beq,toList_inj]
 | sl t=>cases h
 | unit=>
  have e1:∀c,mkv .unit c=.agg c.toArray:=fun c=>rfl
  rw[e1,e1] at he ⊢
  cases b<;>simp[run_eqGuard_agg,hg,run_eql_struct,run_neq_struct,he]
 | pair a c=>
  have e1:∀z,mkv (.pair a c) z=.agg z.toArray:=fun z=>rfl
  rw[e1,e1] at he ⊢
  cases b<;>simp[run_eqGuard_agg,hg,run_eql_struct,run_neq_struct,he]
theorem mG {t:TypeId} {ty:Ty} (h:E.ty t=some ty):∃ti,lookup E t=some ti/\ti.td.ty=some ty:=by
 unfold Tab.ty at h
 split at h
 ·exact⟨_,‹_›,h⟩
 ·cases h
theorem Io {e:TypeId} {ty:Ty} (h:Da P e ty=true) (hz:(match P.info? e with
  | some i=>(match i.zero with
   | some (.agg _)=>ty.agg
   | some _=>!ty.agg
   | none=>false)
  | none=>false)=true) (w:World):(zeroValue e).run P w=.ok (mkv ty (bq ty)) w:=by
 obtain⟨i,z,hi,hs,hzz,hzc⟩:=(pE h).info
 rw[hi] at hz
 simp only[hzz] at hz
 have he:z=mkv ty (bq ty):=by
  unfold mkv
  cases ha:ty.agg with
  | true=>
   rw[ha] at hz
   cases z with
   | agg cs=>rw[<-hzc];simp[Value.cells]
   | _=>cases hz
  | false=>
   rw[ha] at hz
   cases z with
   | agg cs=>cases hz
   | _=>rw[<-hzc];simp[Value.cells]
 simp[zeroValue,typeInfo,hi,hzz,he]
theorem Cu {GD:List TypeId} {cons:Cons} {n:Nat} {inl:List (Nat×Inl)} {off:Nat} {deep two:Bool} (h:Cc P E E=true) (hc:El P E GD=true):TabOk P ⟨E,fun t=>jJ t GD,cons,n,inl,off,deep,two⟩:=by
 have at_:=fun t ti (hl:lookup E t=some ti)=>Bool.and_eq_true_iff.1 (Af h t ti hl)
 have sl':∀t e ty s b,lookup E t=some ⟨.sl e ty,s,b⟩->P.underlying t=some (.slice e)/\∃ei,lookup E e=some ei/\0<ei.bytes/\ei.td.ty=some ty:=by
  intro t e ty s b hl
  have h1:=(at_ t _ hl).2
  simp only[Bool.and_eq_true] at h1
  obtain⟨⟨h1,h2⟩,h3⟩:=h1
  split at h2
  ·rename_i e' he
   have:e'=e:=Nat.eq_of_beq_eq_true h2
   subst this
   refine⟨he,?_⟩
   split at h3
   ·rename_i ei hei
    simp only[Bool.and_eq_true] at h3
    obtain⟨h4,h5⟩:=h3
    split at h5
    ·rename_i u hu
     have:=kU h5
     subst this
     exact⟨ei,hei,Ax h4,hu⟩
    ·cases h5
   ·cases h3
  ·cases h2
 have mp':∀t k e ty s b,lookup E t=some ⟨.mp k e ty,s,b⟩->∃kt,P.underlying t=some (.map kt e)/\P.underlying kt=some (.int k)/\∀w,(zeroValue e).run P w=.ok (mkv ty (bq ty)) w:=by
  intro t k e ty s b hl
  have h1:=(at_ t _ hl).2
  simp only[Bool.and_eq_true] at h1
  obtain⟨h1,h2⟩:=h1
  split at h2
  ·rename_i kt e' he
   simp only[Bool.and_eq_true] at h2
   obtain⟨h2,h3⟩:=h2
   have:e'=e:=Nat.eq_of_beq_eq_true h2
   subst this
   split at h3
   ·rename_i k' hk
    exact⟨kt,he,by rw[hk,of_decide_eq_true h3],Io h1.1 h1.2⟩
   ·cases h3
  ·cases h2
 refine⟨?_,?_,?_,?_,?_,?_,?_,?_,?_,mp',?_⟩
 ·intro t ty ht
  obtain⟨ti,hl,hty⟩:=mG ht
  have h1:=(at_ t ti hl).2
  obtain⟨td,sz,by_⟩:=ti
  cases td with
  | val u=>
   simp only[TD.ty,Option.some.injEq] at hty
   subst hty
   exact pE (Bool.and_eq_true_iff.1 h1).1
  | sl e u=>
   simp only[TD.ty,Option.some.injEq] at hty
   subst hty
   simp only[Bool.and_eq_true] at h1
   exact pE h1.1.1
  | st fs u=>
   simp only[TD.ty,Option.some.injEq] at hty
   subst hty
   simp only[Bool.and_eq_true] at h1
   exact pE h1.1.1
  | ptr e=>simp[TD.ty] at hty
  | mp k e u=>simp[TD.ty] at hty
  | other=>simp[TD.ty] at hty
 ·intro t s b hl
  have h1:=(at_ t _ hl).2
  simp only[Bool.and_eq_true] at h1
  obtain⟨_,h2⟩:=h1
  split at h2
  ·assumption
  ·cases h2
 ·intro t k s b hl
  have h1:=(at_ t _ hl).2
  simp only[Bool.and_eq_true] at h1
  obtain⟨_,h2⟩:=h1
  split at h2
  ·rename_i k' hk
   rw[hk,of_decide_eq_true h2]
  ·cases h2
 ·intro t e ty s b hl
  obtain⟨h1,ei,h2,_,h3⟩:=sl' t e ty s b hl
  exact⟨h1,by show Tab.ty E e=_;unfold Tab.ty;rw[h2];exact h3⟩
 ·intro t e ty s b ei hl he
  obtain⟨_,ei',h2,h3,_⟩:=sl' t e ty s b hl
  have he:lookup E e=some ei:=he
  rw[h2] at he
  cases he
  exact h3
 ·intro t ti hl hni
  have h1:=(at_ t ti hl).2
  obtain⟨td,sz,by_⟩:=ti
  cases td with
  | val u=>
   simp only[Bool.and_eq_true] at h1
   obtain⟨_,h2⟩:=h1
   cases u with
   | int k=>exact absurd rfl (hni k)
   | str=>
    simp only at h2
    split at h2
    ·exact⟨_,‹_›,by simp⟩
    ·cases h2
   | bool=>
    simp only at h2
    split at h2
    ·exact⟨_,‹_›,by simp⟩
    ·cases h2
   | _=>cases h2
  | sl e u=>
   obtain⟨h2,_⟩:=sl' t e u sz by_ hl
   exact⟨_,h2,by simp⟩
  | st fs u=>
   simp only[Bool.and_eq_true] at h1
   obtain⟨⟨_,h2⟩,_⟩:=h1
   split at h2
   ·exact⟨_,‹_›,by simp⟩
   ·cases h2
  | mp k e u=>
   obtain⟨kt,h2,_⟩:=mp' t k e u sz by_ hl
   exact⟨_,h2,by simp⟩
  | ptr e=>
   simp only at h1
   split at h1
   ·rename_i d hd
    exact⟨d,hd,fun k hk=>by rw[hk] at h1;cases h1⟩
   ·cases h1
  | other=>
   simp only at h1
   split at h1
   ·rename_i d hd
    exact⟨d,hd,fun k hk=>by rw[hk] at h1;cases h1⟩
   ·cases h1
 ·intro t ti hl
  have h1:=(at_ t ti hl).1
  split at h1
  ·rename_i i hi
   exact⟨i,hi,Nat.eq_of_beq_eq_true h1⟩
  ·cases h1
 ·intro t fs ty s b hl
  have h1:=(at_ t _ hl).2
  simp only[Bool.and_eq_true] at h1
  obtain⟨⟨_,h2⟩,_⟩:=h1
  split at h2
  ·rename_i fields hf
   refine⟨fields,hf,fun i off ft nm hq=>?_⟩
   obtain⟨f,q1,q2⟩:=xE h2 i off ft nm hq
   exact⟨f,by simpa using q1,q2⟩
  ·cases h2
 ·intro t fs ty s b fields hl hf
  have h1:=(at_ t _ hl).2
  simp only[Bool.and_eq_true] at h1
  obtain⟨⟨_,h2⟩,_⟩:=h1
  rw[hf] at h2
  exact qP h2
 ·intro t ty ht hty I w0 w x y cx cy hx hy ox oy b
  obtain⟨ty',h1,h2,h3⟩:=HU hc t ht
  have hty:E.ty t=some ty:=hty
  rw[hty] at h1
  cases h1
  exact Kx h2 h3 I w0 w x y cx cy hx hy ox oy b
end Go.AE
end
