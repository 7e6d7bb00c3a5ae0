/- What the law's arguments read as, as data. -/
import Derived.Test.YtmkgiaecgkicoaaGreatAeTab
import Derived.ChangeArms
import Derived.ChangeOld
import Derived.Below
section
namespace Go.AE
open Go Go.RowKit
def wv:(t:Ty)->t.D->Prop
 | .int k,n=>(Lit.int k n).wf=true
 | .bool,_=>True
 | .str,s=>(s:ByteArray).size<=Go.maxLen
 | .unit,_=>True
 | .sl t,xs=>(xs:List t.D).length<=Go.maxLen/\∀x∈(xs:List t.D),wv t x
 | .pair a b,x=>wv a x.1/\wv b x.2
section
variable {P:Program} {E:Tab} {H:Type} {enc:TypeId×Value->H} {w:World} {held:Bool} {spare:Nat->Bool}
structure Shaped (P:Program) (E:Tab):Prop where
 fact:∀t ty,E.ty t=some ty->TyFact P t ty
 int:∀t k,E.ty t=some (.int k)->P.underlying t=some (.int k)
 bool:∀t,E.ty t=some .bool->P.underlying t=some .bool
 str:∀t,E.ty t=some .str->P.underlying t=some .string
 sl:∀t ty,E.ty t=some (.sl ty)->∃e,P.underlying t=some (.slice e)/\E.ty e=some ty
 st:∀t ty,E.ty t=some ty->ty.agg=true->∃fields fs,P.underlying t=some (.struct fields)/\bM P fields.toList fs=true/\uM E 0 fs ty=true
theorem shaped_of (h:Cc P E E=true):Shaped P E:=by
 have hT:TabOk P ⟨E,fun t=>jJ t [],[],0,[],0,false,false⟩:=Cu h rfl
 have at_:=fun t ti (hl:lookup E t=some ti)=>Bool.and_eq_true_iff.1 (Af h t ti hl)
 have pos:∀t ty,E.ty t=some ty->0<ty.size:=fun t ty ht=>(hT.ty t ty ht).pos
 have stty:∀t fs ty s b,lookup E t=some ⟨.st fs ty,s,b⟩->ty.agg=true:=by
  intro t fs ty s b hl
  obtain⟨fields,q1,_⟩:=hT.st t fs ty s b hl
  obtain⟨d,hd,he⟩:=(hT.ty t ty (by show Tab.ty E t=_;unfold Tab.ty;rw[hl];rfl)).desc
  rw[q1] at hd
  cases hd
  exact he.symm
 refine⟨fun t ty ht=>hT.ty t ty ht,?_,?_,?_,?_,?_⟩
 ·intro t k ht
  obtain⟨ti,hl,hty⟩:=mG ht
  obtain⟨td,sz,by_⟩:=ti
  cases td with
  | val u=>simp only[TD.ty,Option.some.injEq] at hty;subst hty;exact hT.int t k sz by_ hl
  | sl e u=>simp[TD.ty] at hty
  | st fs u=>simp only[TD.ty,Option.some.injEq] at hty;subst hty;have:=stty _ _ _ _ _ hl;cases this
  | ptr e=>simp[TD.ty] at hty
  | mp k e u=>simp[TD.ty] at hty
  | other=>simp[TD.ty] at hty
 ·intro t ht
  obtain⟨ti,hl,hty⟩:=mG ht
  obtain⟨td,sz,by_⟩:=ti
  cases td with
  | val u=>
   simp only[TD.ty,Option.some.injEq] at hty
   subst hty
   have h1:=(at_ t _ hl).2
   simp only[Bool.and_eq_true] at h1
   obtain⟨_,h2⟩:=h1
   split at h2
   ·assumption
   ·cases h2
  | sl e u=>simp[TD.ty] at hty
  | st fs u=>simp only[TD.ty,Option.some.injEq] at hty;subst hty;have:=stty _ _ _ _ _ hl;cases this
  | ptr e=>simp[TD.ty] at hty
  | mp k e u=>simp[TD.ty] at hty
  | other=>simp[TD.ty] at hty
 ·intro t ht
  obtain⟨ti,hl,hty⟩:=mG ht
  obtain⟨td,sz,by_⟩:=ti
  cases td with
  | val u=>simp only[TD.ty,Option.some.injEq] at hty;subst hty;exact hT.str t sz by_ hl
  | sl e u=>simp[TD.ty] at hty
  | st fs u=>simp only[TD.ty,Option.some.injEq] at hty;subst hty;have:=stty _ _ _ _ _ hl;cases this
  | ptr e=>simp[TD.ty] at hty
  | mp k e u=>simp[TD.ty] at hty
  | other=>simp[TD.ty] at hty
 ·intro t ty ht
  obtain⟨ti,hl,hty⟩:=mG ht
  obtain⟨td,sz,by_⟩:=ti
  cases td with
  | val u=>
   simp only[TD.ty,Option.some.injEq] at hty
   subst hty
   have h1:=(at_ t _ hl).2
   simp only[Bool.and_eq_true] at h1
   cases h1.2
  | sl e u=>
   simp only[TD.ty,Option.some.injEq,Ty.sl.injEq] at hty
   subst hty
   obtain⟨q1,q2⟩:=hT.sl t e u sz by_ hl
   exact⟨e,q1,q2⟩
  | st fs u=>simp only[TD.ty,Option.some.injEq] at hty;subst hty;have:=stty _ _ _ _ _ hl;cases this
  | ptr e=>simp[TD.ty] at hty
  | mp k e u=>simp[TD.ty] at hty
  | other=>simp[TD.ty] at hty
 ·intro t ty ht hag
  obtain⟨ti,hl,hty⟩:=mG ht
  obtain⟨td,sz,by_⟩:=ti
  cases td with
  | val u=>
   simp only[TD.ty,Option.some.injEq] at hty
   subst hty
   have h1:=(at_ t _ hl).2
   simp only[Bool.and_eq_true] at h1
   cases u<;>first | exact Bool.noConfusion (show false=true from h1.2) | (cases hag;done)
  | sl e u=>simp only[TD.ty,Option.some.injEq] at hty;subst hty;cases hag
  | st fs u=>
   simp only[TD.ty,Option.some.injEq] at hty
   subst hty
   have h1:=(at_ t _ hl).2
   simp only[Bool.and_eq_true] at h1
   obtain⟨⟨_,h2⟩,h3⟩:=h1
   split at h2
   ·rename_i fields hf
    exact⟨fields,fs,hf,h2,h3⟩
   ·cases h2
  | ptr e=>simp[TD.ty] at hty
  | mp k e u=>simp[TD.ty] at hty
  | other=>simp[TD.ty] at hty
theorem tH (hS:Shaped P E) {t:TypeId} {ty:Ty} (ht:E.ty t=some ty):P.cellsOf t=ty.size:=by
 obtain⟨i,z,hi,hs,_⟩:=(hS.fact t ty ht).info
 simp[Program.cellsOf,hi,hs]
theorem mapM_cells {f:Nat->Option Value}:∀{n:Nat} {cs:List Value},(List.range n).mapM f=some cs->cs.length=n/\∀i,i<n->f i=cs[i]?:=by
 intro n cs h
 have key:∀(l:List Nat) (cs:List Value),l.mapM f=some cs->cs.length=l.length/\∀i (hi:i<l.length),f l[i]=cs[i]?:=by
  intro l
  induction l with
  | nil=>intro cs h;simp at h;subst h;simp
  | cons x l ih=>
   intro cs h
   rw[List.mapM_cons] at h
   cases hx:f x with
   | none=>simp[hx] at h
   | some y=>
    cases hl:l.mapM f with
    | none=>simp[hx,hl] at h
    | some ys=>
     simp[hx,hl] at h
     subst h
     obtain⟨h1,h2⟩:=ih ys hl
     refine⟨by simp[h1],fun i hi=>?_⟩
     cases i with
     | zero=>simpa using hx
     | succ i=>simpa using h2 i (by simpa using hi)
 obtain⟨h1,h2⟩:=key _ _ h
 refine⟨by simpa using h1,fun i hi=>?_⟩
 have:=h2 i (by simpa using hi)
 simpa using this
theorem Jl {a:Addr} {v:Value} (h:w.cell? a=some v):a.spot=none/\a.block<w.heap.size:=by
 unfold World.cell? at h
 split at h
 ·rename_i c t fr hc
  cases hs:a.spot with
  | some x=>rw[hs] at h;simp at h
  | none=>
   refine⟨rfl,?_⟩
   rcases Nat.lt_or_ge a.block w.heap.size with h1 | h1
   ·exact h1
   ·rw[Array.getElem?_eq_none h1] at hc;cases hc
 ·cases h
theorem FB {base:Nat} {b o k n:Nat} {cs:List Value} (h:w.cells? base (⟨b,o,none⟩:Addr) n=some cs):cs.length=n/\Cells w b o cs:=by
 unfold World.cells? at h
 split at h
 ·obtain⟨h1,h2⟩:=mapM_cells h
  refine⟨h1,fun j v hj=>?_⟩
  have hlt:j<cs.length:=(List.getElem?_eq_some_iff.1 hj).1
  have:=h2 j (by omega)
  rw[hj,iq] at this
  exact this
 ·cases h
theorem Db (hS:Shaped P E) {n:Nat} (ih:∀(ty:Ty),(∀t,E.ty t=some ty->∀(cs:List Value) (x:DataW H×List MemPlace),DataW.trod enc P w 0 spare held n t cs=some x->∃d:ty.D,Rep w (fun b=>b<w.heap.size) ty d cs/\wv ty d)) :
  ∀(ty:Ty) (fl:List Field) (fs:List (Nat×TypeId×String)) (off:Nat) (cs:List Value),bM P fl fs=true->uM E off fs ty=true->cs.length=off+ty.size →
   (∀f∈fl,∃x,DataW.trod enc P w 0 spare held n f.type ((cs.drop f.offset).take (P.cellsOf f.type))=some x) →
   ∃d:ty.D,Rep w (fun b=>b<w.heap.size) ty d (cs.drop off)/\wv ty d:=by
 intro ty
 induction ty with
 | unit=>
  intro fl fs off cs h1 h2 hl h3
  refine⟨(),?_,trivial⟩
  show cs.drop off=[]
  rw[List.drop_eq_nil_iff]
  simp[Ty.size] at hl
  omega
 | pair a b iha ihb=>
  intro fl fs off cs h1 h2 hl h3
  cases fs with
  | nil=>cases h2
  | cons q l=>
   cases fl with
   | nil=>cases h1
   | cons f fl=>
    unfold bM at h1
    unfold uM at h2
    simp only[Bool.and_eq_true] at h1 h2
    obtain⟨⟨⟨p1,p2⟩,_⟩,p4⟩:=h1
    obtain⟨⟨q1,q2⟩,q3⟩:=h2
    have e1:f.offset=off:=(Nat.eq_of_beq_eq_true p1).trans (Nat.eq_of_beq_eq_true q1)
    have e2:f.type=q.2.1:=Nat.eq_of_beq_eq_true p2
    split at q2
    ·rename_i u hu
     have:=kU q2
     subst this
     have hty:E.ty f.type=some u:=by rw[e2];exact hu
     obtain⟨x,hx⟩:=h3 f (by simp)
     rw[tH hS hty,e1] at hx
     obtain⟨d1,r1,f1⟩:=ih u f.type hty _ x hx
     simp only[Ty.size] at hl
     obtain⟨d2,r2,f2⟩:=ihb fl l (off+u.size) cs p4 q3 (by omega) (fun g hg=>h3 g (by simp[hg]))
     refine⟨(d1,d2),⟨_,_,?_,r1,r2⟩,f1,f2⟩
     rw[<-List.drop_drop,List.take_append_drop]
    ·cases q2
 | _=>intro fl fs off cs h1 h2;cases fs<;>cases h2
theorem Fl {ty:Ty} {b o:Nat} {len:Nat} (h:∀i,i<len->∃(d:ty.D) (cs:List Value),Rep w (fun b=>b<w.heap.size) ty d cs/\wv ty d/\Cells w b (o+i * ty.size) cs) :
  ∃(xs:List ty.D) (l:List Value),xs.length=len/\cK (Rep w (fun b=>b<w.heap.size) ty) xs l/\Cells w b o l/\∀x∈xs,wv ty x:=by
 induction len with
 | zero=>exact⟨[],[],rfl,rfl,fun j v hj=>by simp at hj,by simp⟩
 | succ n ih=>
  obtain⟨xs,l,h1,h2,h3,h4⟩:=ih (fun i hi=>h i (by omega))
  obtain⟨d,cs,r1,r2,r3⟩:=h n (by omega)
  refine⟨xs++[d],l++cs,by simp[h1],h2.append ⟨cs,[],by simp,r1,rfl⟩,?_,?_⟩
  ·intro j v hj
   have hl:=h2.length
   rw[h1] at hl
   by_cases hjl:j<l.length
   ·rw[List.getElem?_append_left hjl] at hj
    exact h3 j v hj
   ·rw[List.getElem?_append_right (by omega)] at hj
    have:=r3 _ v hj
    rw[show o+j=o+n * ty.size+(j-l.length) by omega]
    exact this
  ·intro x hx
   rcases List.mem_append.1 hx with hx | hx
   ·exact h4 x hx
   ·simp at hx;subst hx;exact r2
theorem IF (hS:Shaped P E):∀(fuel:Nat) (ty:Ty) (t:TypeId),E.ty t=some ty->∀(cs:List Value) (x:DataW H×List MemPlace),DataW.trod enc P w 0 spare held fuel t cs=some x →
  ∃d:ty.D,Rep w (fun b=>b<w.heap.size) ty d cs/\wv ty d:=by
 intro fuel
 induction fuel with
 | zero=>intro ty t _ cs x h;simp[DataW.trod] at h
 | succ n ih=>
  intro ty t ht cs x h
  cases ha:ty.agg with
  | true=>
   obtain⟨fields,fs,hu,hf,hp⟩:=hS.st t ty ht ha
   obtain⟨xs,m,hm,_,hlen,hxl,hel⟩:=DataW.trod_struct hu h
   cases hm
   have hsz:=tH hS ht
   obtain⟨d,r1,r2⟩:=Db hS (fun ty t ht cs x h=>ih ty t ht cs x h) ty fields.toList fs 0 cs hf hp (by omega) (fun f hfm=>by
    obtain⟨i,hi,e⟩:=List.getElem_of_mem hfm
    have hi':i<fields.size:=by simpa using hi
    have hg:fields[i]? = some f:=by simp[<-e,hi']
    have:=hel i f hg
    have hx:i<xs.length:=by omega
    exact⟨xs[i],by rw[this];simp[hx]⟩)
   exact⟨d,by simpa using r1,r2⟩
  | false=>
   cases ty with
   | int k=>
    obtain⟨m,rfl,_,hw⟩:=DataW.trod_int (hS.int t k ht) h
    exact⟨m,rfl,hw⟩
   | bool=>
    obtain⟨b,rfl,_⟩:=DataW.trod_bool (hS.bool t ht) h
    exact⟨b,rfl,trivial⟩
   | str=>
    obtain⟨s,rfl,_,hw⟩:=DataW.trod_string (hS.str t ht) h
    exact⟨s,rfl,hw⟩
   | sl u=>
    obtain⟨e,hu,he⟩:=hS.sl t u ht
    rcases DataW.trod_slice hu h with⟨rfl,_⟩ | ⟨a,len,cap,elems,rest,m,hm,rfl,_,_,hl,hc,hlen,hel,_,_⟩
    ·exact⟨[],⟨none,0,rfl,Nat.le_refl _,.inl rfl⟩,Nat.zero_le _,by simp⟩
    ·cases hm
     have hsz:=tH hS he
     have hpos:=(hS.fact e u he).pos
     rw[hsz] at hel
     have each:∀i,i<len->∃cs,w.cells? 0 (a.add (i * u.size)) u.size=some cs/\∃d:u.D,Rep w (fun b=>b<w.heap.size) u d cs/\wv u d:=by
      intro i hi
      have h1:=hel i hi
      have h2:i<elems.length:=by omega
      rw[List.getElem?_eq_getElem h2] at h1
      cases hcs:w.cells? 0 (a.add (i * u.size)) u.size with
      | none=>rw[hcs] at h1;cases h1
      | some cs=>
       rw[hcs] at h1
       exact⟨cs,rfl,ih u e he cs _ h1⟩
     cases len with
     | zero=>exact⟨[],⟨some a,cap,rfl,hl,.inl rfl⟩,Nat.zero_le _,by simp⟩
     | succ len=>
      have hspot:a.spot=none/\a.block<w.heap.size:=by
       obtain⟨cs,hcs,_⟩:=each 0 (by omega)
       rw[Nat.zero_mul] at hcs
       have ha0:a.add 0=a:=by simp[Addr.add]
       rw[ha0] at hcs
       unfold World.cells? at hcs
       rw[if_pos (Nat.zero_le _)] at hcs
       obtain⟨h1,h2⟩:=mapM_cells hcs
       have:=h2 0 hpos
       rw[ha0] at this
       have hlt:0<cs.length:=by omega
       rw[List.getElem?_eq_getElem hlt] at this
       exact Jl this
      obtain⟨b,o,sp⟩:=a
      have hs0:sp=none:=hspot.1
      subst hs0
      obtain⟨xs,l,h1,h2,h3,h4⟩:=Fl (w:=w) (ty:=u) (b:=b) (o:=o) (len:=len+1) (fun i hi=>by
       obtain⟨cs,hcs,d,r1,r2⟩:=each i hi
       rw[iq] at hcs
       exact⟨d,cs,r1,r2,(FB (k:=0) (n:=u.size) hcs).2⟩)
      refine⟨xs,⟨some ⟨b,o,none⟩,cap,by rw[h1],by omega,.inr ⟨b,o,l,rfl,hspot.2,h3,h2⟩⟩,by show xs.length<=_;omega,h4⟩
   | unit=>cases ha
   | pair a b=>cases ha
theorem open_arg (hS:Shaped P E) {ty:Ty} {t:TypeId} (ht:E.ty t=some ty) {base:Nat} {r:Reach} {v:Value} (hv:Value.okWide P w r base t v) {d:DataW H} {ps:List MemPlace} (h:DataW.Trod enc P w 0 spare held t v d ps) :
  ∃x:ty.D,wv ty x/\∃cs,Rep w (fun b=>b<w.heap.size) ty x cs/\v=mkv ty cs:=by
 obtain⟨fuel,hf⟩:=h
 obtain⟨x,hr,hx⟩:=IF hS fuel ty t ht _ _ hf
 refine⟨x,hx,_,hr,?_⟩
 cases ha:ty.agg with
 | true=>
  obtain⟨fields,fs,hu,_,_⟩:=hS.st t ty ht ha
  obtain⟨cs,rfl,_⟩:=WideShapes.okWide_struct hu hv
  simp[mkv,ha,Value.cells]
 | false=>
  cases ty with
  | int k=>
   obtain⟨n,rfl⟩:=WideShapes.okWide_int (hS.int t k ht) hv
   rfl
  | bool=>
   obtain⟨n,rfl⟩:=WideShapes.okWide_bool (hS.bool t ht) hv
   rfl
  | str=>
   obtain⟨n,rfl⟩:=WideShapes.okWide_string (hS.str t ht) hv
   rfl
  | sl u=>
   obtain⟨e,hu,_⟩:=hS.sl t u ht
   obtain⟨a,len,cap,rfl⟩:=WideShapes.okWide_slice hu hv
   rfl
  | unit=>cases ha
  | pair a b=>cases ha
end
end Go.AE
end
section
namespace Go.AE
open Go Go.RowKit
def dA (t:Ty) (v:AV) (k:t.D->Prop):Prop:=match v with
 | .data u x=>(match Ty.eq? u t with
  | some ⟨h⟩=>k (eG h x)
  | none=>False)
 | _=>False
def lF (t:Ty) (v:AV) (k:List t.D->Prop):Prop:=match v with
 | .brw u x=>(match Ty.eq? u t with
  | some ⟨h⟩=>k (eG (congrArg Ty.sl h) x)
  | none=>False)
 | _=>False
theorem aP {t:Ty} {v:AV} {k:t.D->Prop} (h:dA t v k):∃x,v=.data t x/\k x:=by
 unfold dA at h
 split at h
 ·split at h
  ·rename_i hh _
   cases hh
   exact⟨_,rfl,h⟩
  ·exact h.elim
 ·exact h.elim
theorem dx {t:Ty} {v:AV} {k:List t.D->Prop} (h:lF t v k):∃x,v=.brw t x/\k x:=by
 unfold lF at h
 split at h
 ·split at h
  ·rename_i hh _
   cases hh
   exact⟨_,rfl,h⟩
  ·exact h.elim
 ·exact h.elim
def IA (t:Ty) (v:AV) (k:t.D->Prop):Prop:=match v with
 | .adr u x=>(match Ty.eq? u t with
  | some ⟨h⟩=>k (eG h x)
  | none=>False)
 | _=>False
def xC (t:Ty) (v:AV) (k:t.D->Prop):Prop:=match v with
 | .ref w=>dA t w k
 | _=>False
def Fk (t:Ty) (v:AV) (k:List t.D->Prop):Prop:=match v with
 | .ref w=>lF t w k
 | _=>False
theorem Es {t:Ty} {v:AV} {k:List t.D->Prop} (h:Fk t v k):∃x,v=.ref (.brw t x)/\k x:=by
 unfold Fk at h
 split at h
 ·obtain⟨x,rfl,hk⟩:=dx h
  exact⟨x,rfl,hk⟩
 ·exact h.elim
def jC (f:FuncId) (v:AV) (k:List AV->Prop):Prop:=match v with
 | .fn g caps=>bif Nat.beq g f then k caps else False
 | _=>False
def nj (F:Prop) (l:List AV):Prop:=match l with
 | []=>F
 | _=>False
def zM (F:AV->Prop) (l:List AV):Prop:=match l with
 | [a]=>F a
 | _=>False
theorem EK {t:Ty} {v:AV} {k:t.D->Prop} (h:IA t v k):∃x,v=.adr t x/\k x:=by
 unfold IA at h
 split at h
 ·split at h
  ·rename_i hh _
   cases hh
   exact⟨_,rfl,h⟩
  ·exact h.elim
 ·exact h.elim
theorem kz {t:Ty} {v:AV} {k:t.D->Prop} (h:xC t v k):∃x,v=.ref (.data t x)/\k x:=by
 unfold xC at h
 split at h
 ·obtain⟨x,rfl,hk⟩:=aP h
  exact⟨x,rfl,hk⟩
 ·exact h.elim
theorem cH {f:FuncId} {v:AV} {k:List AV->Prop} (h:jC f v k):∃caps,v=.fn f caps/\k caps:=by
 unfold jC at h
 split at h
 ·rename_i g caps
  rcases aZ g f with⟨e,hb⟩ | ⟨_,hb⟩
  ·rw[hb] at h
   subst e
   exact⟨caps,rfl,h⟩
  ·rw[hb] at h
   exact h.elim
 ·exact h.elim
theorem dJ {F:Prop} {l:List AV} (h:nj F l):l=[]/\F:=by
 unfold nj at h
 split at h
 ·exact⟨rfl,h⟩
 ·exact h.elim
theorem nA {F:AV->Prop} {l:List AV} (h:zM F l):∃a,l=[a]/\F a:=by
 unfold zM at h
 split at h
 ·exact⟨_,rfl,h⟩
 ·exact h.elim
def Is (F:Prop) (l:List AV) (hp:Hp):Prop:=match l,hp with
 | [],[]=>F
 | _,_=>False
def args1 (F:AV->Prop) (l:List AV) (hp:Hp):Prop:=match l,hp with
 | [a],[]=>F a
 | _,_=>False
def args2 (F:AV->AV->Prop) (l:List AV) (hp:Hp):Prop:=match l,hp with
 | [a,b],[]=>F a b
 | _,_=>False
def rK (F:AV->AV->AV->Prop) (l:List AV) (hp:Hp):Prop:=match l,hp with
 | [a,b,c],[]=>F a b c
 | _,_=>False
def DB (F:AV->AV->AV->AV->Prop) (l:List AV) (hp:Hp):Prop:=match l,hp with
 | [a,b,c,d],[]=>F a b c d
 | _,_=>False
def Dh (F:AV->AV->AV->AV->AV->Prop) (l:List AV) (hp:Hp):Prop:=match l,hp with
 | [a,b,c,d,e],[]=>F a b c d e
 | _,_=>False
theorem ER {F:Prop} {l:List AV} {hp:Hp} (h:Is F l hp):l=[]/\hp=[]/\F:=by
 unfold Is at h
 split at h
 ·exact⟨rfl,rfl,h⟩
 ·exact h.elim
theorem zd {F:AV->Prop} {l:List AV} {hp:Hp} (h:args1 F l hp):∃a,l=[a]/\hp=[]/\F a:=by
 unfold args1 at h
 split at h
 ·exact⟨_,rfl,rfl,h⟩
 ·exact h.elim
theorem bZ {F:AV->AV->Prop} {l:List AV} {hp:Hp} (h:args2 F l hp):∃a b,l=[a,b]/\hp=[]/\F a b:=by
 unfold args2 at h
 split at h
 ·exact⟨_,_,rfl,rfl,h⟩
 ·exact h.elim
theorem gq {F:AV->AV->AV->Prop} {l:List AV} {hp:Hp} (h:rK F l hp):∃a b c,l=[a,b,c]/\hp=[]/\F a b c:=by
 unfold rK at h
 split at h
 ·exact⟨_,_,_,rfl,rfl,h⟩
 ·exact h.elim
theorem tT {F:AV->AV->AV->AV->Prop} {l:List AV} {hp:Hp} (h:DB F l hp):∃a b c d,l=[a,b,c,d]/\hp=[]/\F a b c d:=by
 unfold DB at h
 split at h
 ·exact⟨_,_,_,_,rfl,rfl,h⟩
 ·exact h.elim
theorem qi {F:AV->AV->AV->AV->AV->Prop} {l:List AV} {hp:Hp} (h:Dh F l hp):∃a b c d e,l=[a,b,c,d,e]/\hp=[]/\F a b c d e:=by
 unfold Dh at h
 split at h
 ·exact⟨_,_,_,_,_,rfl,rfl,h⟩
 ·exact h.elim
def hpN (n:Nat) (d:Dp) (t:Ty) (F:List t.D->Prop) (hp:Hp):Prop:=match hp with
 | [(k,.arr e u xs)]=>(match Ty.eq? u t with
  | some ⟨h⟩=>bif Nat.beq k n&&Dp.same e d then F (eG (congrArg Ty.sl h) xs) else False
  | none=>False)
 | _=>False
theorem lJ {n:Nat} {d:Dp} {t:Ty} {F:List t.D->Prop} {hp:Hp} (h:hpN n d t F hp):∃xs,hp=[(n,.arr d t xs)]/\F xs:=by
 unfold hpN at h
 split at h
 ·rename_i k e u xs
  split at h
  ·rename_i hh _
   cases hh
   cases hb:(Nat.beq k n&&Dp.same e d) with
   | false=>rw[hb] at h;exact h.elim
   | true=>
    rw[hb] at h
    obtain⟨h1,h2⟩:=Bool.and_eq_true_iff.1 hb
    have:=Nat.eq_of_beq_eq_true h1
    have h2:e=d:=Dp.kU h2
    subst this
    subst h2
    exact⟨xs,rfl,h⟩
  ·exact h.elim
 ·exact h.elim
def Hz (n:Nat) (a:AV) (F:Prop):Prop:=match a with
 | .own k none=>bif Nat.beq k n then F else False
 | _=>False
theorem Fa {n:Nat} {a:AV} {F:Prop} (h:Hz n a F):a=.own n none/\F:=by
 unfold Hz at h
 split at h
 ·rename_i k
  rcases aZ k n with⟨rfl,hb⟩ | ⟨_,hb⟩
  ·rw[hb] at h;exact⟨rfl,h⟩
  ·rw[hb] at h;exact h.elim
 ·exact h.elim
def xz (n:Nat) (hi:Int) (a:AV) (F:Prop):Prop:=match a with
 | .clp k m=>bif Nat.beq k n then m=hi/\F else False
 | _=>False
theorem ju {n:Nat} {hi:Int} {a:AV} {F:Prop} (h:xz n hi a F):a=.clp n hi/\F:=by
 unfold xz at h
 split at h
 ·rename_i k m
  rcases aZ k n with⟨rfl,hb⟩ | ⟨_,hb⟩
  ·rw[hb] at h;obtain⟨rfl,h⟩:=h;exact⟨rfl,h⟩
  ·rw[hb] at h;exact h.elim
 ·exact h.elim
def DZ (a:AV) (F:Prop):Prop:=match a with
 | .cst (.slice none 0 0)=>F
 | _=>False
theorem tG {a:AV} {F:Prop} (h:DZ a F):a=.cst (.slice none 0 0)/\F:=by
 unfold DZ at h
 split at h
 ·exact⟨rfl,h⟩
 ·exact h.elim
abbrev dO (f:Func):Code:=match f.body with
 | some c=>c
 | none=>.skip
def dm (c:Code) (n:Nat):Code:=match pq (bQ c) n with
 | some p=>p.2
 | none=>.skip
theorem aL {C:Ctx} {L:bK} {ann:Nat->List Dir} {c:Code} (h:bQ c=[]):∀p∈bQ c,dn C L ann p.1 p.2:=by
 rw[h];intro p hp;cases hp
theorem FF {P:Program} {E:Tab} {c:TypeId->Bool} {n off:Nat} {deep two:Bool}:eL P ⟨E,c,[],n,[],off,deep,two⟩:=⟨fun f con h=>by simp[lookup] at h,fun f T h=>by simp[lookup] at h⟩
theorem EW {P:Program} {E:Tab} {c:TypeId->Bool} {n off:Nat} {deep two:Bool} {f:FuncId} {T:Inl} {l:List (Nat×Inl)} (h1:∀args w,(callFunc f args).run P w=.ok (.enter f args) w) (h2:ED P f T)
  (h:eL P ⟨E,c,[],n,l,off,deep,two⟩):eL P ⟨E,c,[],n,(f,T)::l,off,deep,two⟩:=by
 refine⟨h.1,fun g T' hg=>?_⟩
 have hk:lookup ((f,T)::l) g=some T':=hg
 clear hg
 rw[lookup_cons] at hk
 by_cases e:f=g
 ·rw[if_pos e] at hk
  subst e
  cases hk
  exact⟨h1,h2⟩
 ·rw[if_neg e] at hk
  exact h.2 g T' hk
theorem DS {P:Program} {E:Tab} {c:TypeId->Bool} {n off:Nat} {deep two:Bool} {f:FuncId} {con:Con} {l:Cons} {inl:List (Nat×Inl)} (h1:∀args w,(callFunc f args).run P w=.ok (.enter f args) w) (h2:zR P f con)
  (h:eL P ⟨E,c,l,n,inl,off,deep,two⟩):eL P ⟨E,c,(f,con)::l,n,inl,off,deep,two⟩:=by
 refine⟨fun g cg hg=>?_,h.2⟩
 have hk:lookup ((f,con)::l) g=some cg:=hg
 clear hg
 rw[lookup_cons] at hk
 by_cases e:f=g
 ·rw[if_pos e] at hk
  subst e
  cases hk
  exact⟨h1,h2⟩
 ·rw[if_neg e] at hk
  exact h.1 g cg hk
theorem Dq {P:Program} {f:FuncId} {fn:Func} (hf:P.funcs[f]? = some fn) (hn:(fn.name == "runtime.NumGoroutine")=false) (hb:fn.body.isNone=false) (args:Array Value) (w:World) :
  (callFunc f args).run P w=.ok (.enter f args) w:=by
 have hn':¬fn.name = "runtime.NumGoroutine" :=by simpa using hn
 have hb':¬fn.body=none:=by intro e;rw[e] at hb;cases hb
 simp[callFunc,hf,hn',hb']
theorem law_calls {P:Program} {f:FuncId} {con:Con} (hc:zR P f con) {args:List AV} {vals:List Value} {W:World}
  (hv:∀I S φ hp,(∀b,b<W.heap.size->I b)->ax W I S φ hp args vals) (hrun:con.run args [] fun r _=>r=.data .bool true) :
  Calls P f vals.toArray W fun e W'=>e=.returned (.bool true)/\Below W.heap.size W W':=by
 let g:Gl:={ w0:=W,ok:=fun b=>b<W.heap.size,io:=fun _=>False,okLt:=fun _ h=>h }
 have hS:Sim g 0 ⟨[],[]⟩ idle g.w0 ⟨fun _=>none,fun _=>[]⟩:=
  ⟨rfl,rfl,rfl,rfl,rfl,Nat.le_refl _,fun _ _ _=>rfl,fun _ _ _ _ _ h=>by simp[lookup] at h,fun _ _ _ h=>by simp[lookup] at h,fun _ _ _ h=>by simp[lookup] at h,fun _ _ h=>by simp[lookup] at h,fun _ _ h=>by simp[lookup] at h,fun _ h=>by simp[lookup] at h⟩
 refine Calls.mono (hc g args [] _ ⟨fun _=>none,fun _=>[]⟩ vals hrun hS (hv _ _ _ _ fun b hb=>⟨.inl hb,hb,fun _ _ h=>by simp[lookup] at h⟩)) ?_
 intro e w' he
 cases e with
 | returned u=>
  obtain⟨r,hp',φ',rfl,hs,hr⟩:=he
  exact⟨by rw[pH hr],hs.os,hs.tape,hs.output,hs.hsize,fun k hk=>hs.frame k hk (fun h=>h)⟩
 | panicked c=>exact he.elim
 | outgrown=>exact he.elim
theorem args_nil {W:World}:∀I S φ hp,(∀b,b<W.heap.size->I b)->ax W I S φ hp [] []:=fun _ _ _ _ _=>by simp[ax]
theorem args_cons {W:World} {t:Ty} {x:t.D} {v:Value} {l:List AV} {vs:List Value} (h:∃cs,Rep W (fun b=>b<W.heap.size) t x cs/\v=mkv t cs)
  (hl:∀I S φ hp,(∀b,b<W.heap.size->I b)->ax W I S φ hp l vs):∀I S φ hp,(∀b,b<W.heap.size->I b)->ax W I S φ hp (.data t x::l) (v::vs):=by
 intro I S φ hp hI
 obtain⟨cs,hr,rfl⟩:=h
 simp only[ax,ak]
 exact⟨_,_,rfl,⟨cs,hr.mono hI (fun _ _ _=>rfl),rfl⟩,hl I S φ hp hI⟩
end Go.AE
end
