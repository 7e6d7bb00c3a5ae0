/- What the abstract values say of memory, and how this is kept as memory grows. -/
import Derived.Test.YtmkgiaecgkicoaaGreatAeDefs
import Derived.Laws.AppendOwn
import Derived.ChangeKeysEq
import Derived.Below
import Derived.Laws.CopyRow
import Derived.Laws.Rows
section
namespace Go
def World.rowOf (w:World) (base:Nat) (e:TypeId) (size:Nat) (v:Value) (n:Nat) (xs:List Value):Prop:=
 xs.length=n * size ∧
 ((v=.slice none 0 0/\n=0) ∨
  ∃g cap cur,v=.slice (some ⟨g,0,none⟩) n cap/\base<=g/\w.heap[g]? = some (.cells cur e (0,0))/\n<=cap/\cap<=maxLen/\cap * size<=cur.size/\cur.toList.take (n * size)=xs)
theorem World.jD (w:World) (base:Nat) (e:TypeId) (size:Nat):w.rowOf base e size (.slice none 0 0) 0 []:=⟨by simp,.inl ⟨rfl,rfl⟩⟩
end Go
namespace Go.AE
open Go Go.RowKit
def cK {α:Type} (R:α->List Value->Prop):List α->List Value->Prop
 | [],cs=>cs=[]
 | x::xs,cs=>∃c1 c2,cs=c1++c2/\R x c1/\cK R xs c2
def Cells (w:World) (b o:Nat) (cs:List Value):Prop:=∀j v,cs[j]? = some v->w.cell? ⟨b,o+j,none⟩=some v
def Rep (w:World) (I:Nat->Prop):(t:Ty)->t.D->List Value->Prop
 | .int k,n,cs=>cs=[.int k n]
 | .bool,b,cs=>cs=[.bool b]
 | .str,s,cs=>cs=[.string s]
 | .unit,_,cs=>cs=[]
 | .pair a b,x,cs=>∃c1 c2,cs=c1++c2/\Rep w I a x.1 c1/\Rep w I b x.2 c2
 | .sl t,xs,cs=>∃A c,cs=[.slice A xs.length c]/\xs.length<=c ∧
   (xs=[]\/∃b o l,A=some ⟨b,o,none⟩/\I b/\Cells w b o l/\cK (Rep w I t) xs l)
def mkv (t:Ty) (cs:List Value):Value:=match t.agg with
 | true=>.agg cs.toArray
 | false=>cs.headD undef
theorem cK.mono {α:Type} {R R':α->List Value->Prop} (h:∀x cs,R x cs->R' x cs):∀{xs cs},cK R xs cs->cK R' xs cs
 | [],_,hr=>hr
 | _::_,_,⟨c1,c2,e,h1,h2⟩=>⟨c1,c2,e,h _ _ h1,cK.mono h h2⟩
def ki (I:Nat->Prop) (w w':World):Prop:=∀b,I b->∀o,w'.cell? ⟨b,o,none⟩=w.cell? ⟨b,o,none⟩
theorem Cells.same {w w':World} {b o:Nat} {cs:List Value} (h:Cells w b o cs) (hs:∀o,w'.cell? ⟨b,o,none⟩=w.cell? ⟨b,o,none⟩):Cells w' b o cs:=
 fun j v hj=>(hs _).trans (h j v hj)
theorem Rep.mono {w w':World} {I I':Nat->Prop} (hI:∀b,I b->I' b) (hw:ki I w w'):∀{t:Ty} {x:t.D} {cs:List Value},Rep w I t x cs->Rep w' I' t x cs:=by
 intro t
 induction t with
 | int k=>exact fun h=>h
 | bool=>exact fun h=>h
 | str=>exact fun h=>h
 | unit=>exact fun h=>h
 | pair a b iha ihb=>exact fun⟨c1,c2,e,h1,h2⟩=>⟨c1,c2,e,iha h1,ihb h2⟩
 | sl t ih=>
  rintro xs cs ⟨A,c,e,hc,h⟩
  refine⟨A,c,e,hc,?_⟩
  rcases h with h | ⟨b,o,l,hA,hb,hcs,hl⟩
  ·exact .inl h
  ·exact .inr ⟨b,o,l,hA,hI b hb,hcs.same (hw b hb),cK.mono (fun _ _ h=>ih h) hl⟩
theorem cK.mono' {w w':World} {I I':Nat->Prop} (hI:∀b,I b->I' b) (hw:ki I w w') {t:Ty} {xs:List t.D} {cs:List Value} (h:cK (Rep w I t) xs cs):cK (Rep w' I' t) xs cs:=
 cK.mono (fun _ _ h=>h.mono hI hw) h
theorem Rep.length {w:World} {I:Nat->Prop}:∀{t:Ty} {x:t.D} {cs:List Value},Rep w I t x cs->cs.length=t.size:=by
 intro t
 induction t with
 | int k=>rintro x cs rfl;rfl
 | bool=>rintro x cs rfl;rfl
 | str=>rintro x cs rfl;rfl
 | unit=>rintro x cs rfl;rfl
 | pair a b iha ihb=>rintro x cs ⟨c1,c2,rfl,h1,h2⟩;simp[Ty.size,iha h1,ihb h2]
 | sl t ih=>rintro x cs ⟨A,c,rfl,_⟩;rfl
theorem Rep.one {w:World} {I:Nat->Prop}:∀{t:Ty} {x:t.D} {cs:List Value},Rep w I t x cs->∀v∈cs,v.oneCell'=true:=by
 intro t
 induction t with
 | int k=>rintro x cs rfl v hv;simp at hv;subst hv;rfl
 | bool=>rintro x cs rfl v hv;simp at hv;subst hv;rfl
 | str=>rintro x cs rfl v hv;simp at hv;subst hv;rfl
 | unit=>rintro x cs rfl v hv;simp at hv
 | pair a b iha ihb=>
  rintro x cs ⟨c1,c2,rfl,h1,h2⟩ v hv
  rcases List.mem_append.1 hv with h | h
  ·exact iha h1 v h
  ·exact ihb h2 v h
 | sl t ih=>rintro x cs ⟨A,c,rfl,_⟩ v hv;simp at hv;subst hv;rfl
theorem cK.length {w:World} {I:Nat->Prop} {t:Ty}:∀{xs:List t.D} {cs:List Value},cK (Rep w I t) xs cs->cs.length=xs.length * t.size
 | [],_,h=>by rw[h];simp
 | x::xs,_,⟨c1,c2,e,h1,h2⟩=>by rw[e,List.length_append,h1.length,cK.length h2,List.length_cons,Nat.succ_mul];omega
theorem cK.one {w:World} {I:Nat->Prop} {t:Ty}:∀{xs:List t.D} {cs:List Value},cK (Rep w I t) xs cs->∀v∈cs,v.oneCell'=true
 | [],_,h,v,hv=>by rw[h] at hv;simp at hv
 | x::xs,_,⟨c1,c2,e,h1,h2⟩,v,hv=>by
  rw[e] at hv
  rcases List.mem_append.1 hv with h | h
  ·exact h1.one v h
  ·exact cK.one h2 v h
theorem cK.at {w:World} {I:Nat->Prop} {t:Ty}:∀{xs:List t.D} {cs:List Value} (_:cK (Rep w I t) xs cs) (i:Nat) (hi:i<xs.length),
  Rep w I t xs[i] ((cs.drop (i * t.size)).take t.size)
 | x::xs,_,⟨c1,c2,e,h1,h2⟩,0,_=>by
  subst e
  simp only[Nat.zero_mul,List.drop_zero,List.getElem_cons_zero]
  rw[<-h1.length,List.take_left]
  exact h1
 | x::xs,_,⟨c1,c2,e,h1,h2⟩,i+1,hi=>by
  subst e
  have:=cK.at h2 i (by simpa using hi)
  simp only[List.getElem_cons_succ]
  rw[Nat.succ_mul,<-h1.length,Nat.add_comm,List.drop_append,h1.length]
  rw[show t.size+i * t.size-t.size=i * t.size by omega,List.drop_eq_nil_of_le (by rw[h1.length];omega),List.nil_append]
  exact this
theorem cK.append {w:World} {I:Nat->Prop} {t:Ty}:∀{xs ys:List t.D} {cs ds:List Value},cK (Rep w I t) xs cs->cK (Rep w I t) ys ds->cK (Rep w I t) (xs++ys) (cs++ds)
 | [],_,_,_,h,h'=>by rw[h];exact h'
 | x::xs,_,_,_,⟨c1,c2,e,h1,h2⟩,h'=>⟨c1,c2++_,by rw[e,List.append_assoc],h1,cK.append h2 h'⟩
theorem cK.take {w:World} {I:Nat->Prop} {t:Ty}:∀(n:Nat) {xs:List t.D} {cs:List Value},cK (Rep w I t) xs cs->cK (Rep w I t) (xs.take n) (cs.take (n * t.size))
 | 0,_,_,_=>by simp[cK]
 | n+1,[],_,h=>by rw[h];simp[cK]
 | n+1,x::xs,_,⟨c1,c2,e,h1,h2⟩=>by
  subst e
  have:=cK.take n h2
  refine⟨c1,c2.take (n * t.size),?_,h1,this⟩
  rw[List.take_append,Nat.succ_mul,h1.length,List.take_of_length_le (by rw[h1.length];omega),show n * t.size+t.size-t.size=n * t.size by omega]
theorem cK.drop {w:World} {I:Nat->Prop} {t:Ty}:∀(n:Nat) {xs:List t.D} {cs:List Value},cK (Rep w I t) xs cs->cK (Rep w I t) (xs.drop n) (cs.drop (n * t.size))
 | 0,_,_,h=>by simpa using h
 | n+1,[],_,h=>by rw[h];simp[cK]
 | n+1,x::xs,_,⟨c1,c2,e,h1,h2⟩=>by
  subst e
  have:=cK.drop n h2
  have hd:c1.drop (n * t.size+t.size)=[]:=List.drop_eq_nil_of_le (by rw[h1.length];omega)
  rw[List.drop_succ_cons,Nat.succ_mul,List.drop_append,h1.length,hd,List.nil_append,show n * t.size+t.size-t.size=n * t.size by omega]
  exact this
theorem cK.set {w:World} {I:Nat->Prop} {t:Ty}:∀{xs:List t.D} {cs:List Value} (_:cK (Rep w I t) xs cs) (i:Nat) (_:i<xs.length) {y:t.D} {ds:List Value} (_:Rep w I t y ds),
  cK (Rep w I t) (xs.set i y) (cs.take (i * t.size)++ds++cs.drop (i * t.size+t.size))
 | x::xs,_,⟨c1,c2,e,h1,h2⟩,0,_,y,ds,hy=>by
  subst e
  refine⟨ds,c2,?_,hy,h2⟩
  simp only[Nat.zero_mul,List.take_zero,List.nil_append,Nat.zero_add]
  rw[<-h1.length,List.drop_left]
 | x::xs,_,⟨c1,c2,e,h1,h2⟩,i+1,hi,y,ds,hy=>by
  subst e
  have:=cK.set h2 i (by simpa using hi) hy
  refine⟨c1,_,?_,h1,this⟩
  have e1:(i+1) * t.size=c1.length+i * t.size:=by rw[Nat.succ_mul,h1.length];omega
  rw[e1,List.take_append,List.take_of_length_le (by omega),show c1.length+i * t.size-c1.length=i * t.size by omega]
  rw[Nat.add_assoc,List.drop_append,List.drop_eq_nil_of_le (by omega),List.nil_append,show c1.length+(i * t.size+t.size)-c1.length=i * t.size+t.size by omega]
  simp only[List.append_assoc]
theorem Cells.take {w:World} {b o:Nat} {cs:List Value} (h:Cells w b o cs) (n:Nat):Cells w b o (cs.take n):=by
 intro j v hj
 rw[List.getElem?_take] at hj
 split at hj
 ·exact h j v hj
 ·cases hj
theorem Cells.drop {w:World} {b o:Nat} {cs:List Value} (h:Cells w b o cs) (n:Nat):Cells w b (o+n) (cs.drop n):=by
 intro j v hj
 rw[List.getElem?_drop] at hj
 have:=h _ v hj
 rwa [show o+n+j=o+(n+j) by omega]
structure Names where
 main:Nat->Option Nat
 sub:Nat->List Nat
instance:CoeFun Names (fun _=>Nat->Option Nat):=⟨Names.main⟩
def Names.eI (φ:Names) (i b:Nat):Prop:=φ i=some b\/b∈φ.sub i
def bG {α:Type} (R:α->List Value->List Nat->Prop):List α->List Value->List Nat->Prop
 | [],cs,B=>cs=[]/\B=[]
 | x::xs,cs,B=>∃c1 c2 B1 B2,cs=c1++c2/\B=B1++B2/\R x c1 B1/\bG R xs c2 B2
def Tree (w:World):(t:Ty)->t.D->List Value->List Nat->Prop
 | .int k,n,cs,B=>cs=[.int k n]/\B=[]
 | .bool,b,cs,B=>cs=[.bool b]/\B=[]
 | .str,s,cs,B=>cs=[.string s]/\B=[]
 | .unit,_,cs,B=>cs=[]/\B=[]
 | .pair a b,x,cs,B=>∃c1 c2 B1 B2,cs=c1++c2/\B=B1++B2/\Tree w a x.1 c1 B1/\Tree w b x.2 c2 B2
 | .sl t,xs,cs,B=>∃A c,cs=[.slice A xs.length c]/\xs.length<=c ∧
   ((xs=[]/\B=[]/\A=none/\c=0)\/∃b cur e B',A=some ⟨b,0,none⟩/\B=b::B'/\w.heap[b]? = some (.cells cur e (0,0))/\bG (Tree w t) xs (cur.toList.take (xs.length * t.size)) B'/\c<=maxLen/\c * t.size<=cur.size)
def fz (d:Dp) (w:World) (I:Nat->Prop) (B:List Nat) (t:Ty) (xs:List t.D) (l:List Value):Prop:=match d with
 | .sh=>cK (Rep w I t) xs l/\B=[]
 | .dp=>∃B0,bG (Tree w t) xs l B0/\B0.Nodup/\∀b∈B0,b∈B
 | .ho i off=>∃B0,bG (Tree w t) xs (l.set (i.toNat * t.size+off) (.slice none 0 0)) B0/\B0.Nodup/\∀b∈B0,b∈B
structure Gl where
 w0:World
 ok:Nat->Prop
 io:Nat->Prop
 okLt:∀b,ok b->b<w0.heap.size
 gh:Nat->Value:=fun _=>undef
 /-- The block that was handed over to be written. -/
 pin:Option Nat:=none
 /-- Blocks that were handed over for good. -/
 mv:Nat->Prop:=fun _=>False
 mvOk:∀b,mv b->io b/\ok b/\pin≠some b:=by intro _ h;exact h.elim
 /-- Blocks that stay as they were. -/
 st:Nat->Prop:=fun b=>b<w0.heap.size/\¬io b
 stOk:∀b,st b->b<w0.heap.size/\¬io b:=by intro _ h;exact h
def Gl.mine (g:Gl) (b:Nat):Prop:=g.w0.heap.size<=b\/g.mv b
theorem Gl.lH {g:Gl} {b:Nat} (h:g.mine b):g.ok b\/g.w0.heap.size<=b:=h.elim .inr (fun h=>.inl (g.mvOk b h).2.1)
theorem Gl.oe {g:Gl} {b:Nat} (h:g.mine b):g.w0.heap.size<=b\/g.io b:=h.imp (fun h=>h) (fun h=>(g.mvOk b h).1)
theorem Gl.Eh {g:Gl} {b:Nat} (h:g.mine b) (hb:b<g.w0.heap.size):g.pin≠some b:=h.elim (fun q=>absurd hb (by omega)) (fun h=>(g.mvOk b h).2.2)
def valOf (g:Gl) (a:Act) (j:Nat):Value:=bif Nat.blt j bV then a.tmps.getD j undef else g.gh j
def aM (g:Gl) (b:Nat):Prop:=g.st b
def imm (g:Gl) (φ:Names) (hp:Hp) (n:Nat) (b:Nat):Prop:=
 (g.ok b\/g.w0.heap.size<=b)/\b<n/\∀id blk,lookup hp id=some blk->¬ φ.eI id b
def iy (w:World) (r:Option Nat) (t:Ty) (n:Nat) (cut:Option (Int×Int)) (u:Value):Prop:=match cut with
 | none=>∃e l,w.rowOf 0 e t.size u n l/\u.ownBlock=r
 | some (lo,hi)=>0<=lo/\lo<=hi/\hi<=n/\∃A c,u=.slice A (hi-lo).toNat c/\(hi-lo).toNat<=c ∧
   (lo=0->∃e l,w.rowOf 0 e t.size u hi.toNat l/\u.ownBlock=r) ∧
   (lo<hi->∃b,r=some b/\A=some ⟨b,lo.toNat * t.size,none⟩)
def mT (w:World) (r:Option Nat) (t:Ty) (n:Nat) (hi:Int) (u:Value):Prop:=
 0<=hi/\hi<=n/\∃e l,w.rowOf 0 e t.size u hi.toNat l/\u.ownBlock=r
mutual
def ak (w:World) (I S:Nat->Prop) (φ:Names) (hp:Hp):AV->Value->Prop
 | .top,_=>True
 | .cst v,u=>u=v
 | .data t x,u=>∃cs,Rep w I t x cs/\u=mkv t cs
 | .adr t x,u=>∃b o cs,u=.pointer (some ⟨b,o,none⟩)/\I b/\Rep w I t x cs/\Cells w b o cs
 | .brw t xs,u=>∃A c,u=.slice A xs.length c/\xs.length<=c ∧
   (xs=[]\/∃b o l,A=some ⟨b,o,none⟩/\S b/\Cells w b o l/\cK (Rep w I t) xs l)
 | .badr t x,u=>∃b o cs,u=.pointer (some ⟨b,o,none⟩)/\S b/\Rep w I t x cs/\Cells w b o cs
 | .ptr id off,u=>∀blk,lookup hp id=some blk->∃b,φ id=some b/\u=.pointer (some ⟨b,off,none⟩)
 | .elt id i off,u=>∀blk,lookup hp id=some blk->∃d t xs b,blk=.arr d t xs/\φ id=some b/\0<=i/\i<xs.length ∧
   u=.pointer (some ⟨b,i.toNat * t.size+off,none⟩)
 | .own id cut,u=>∀blk,lookup hp id=some blk->∃d t xs,blk=.arr d t xs/\iy w (φ id) t xs.length cut u
 | .clp id hi,u=>∀blk,lookup hp id=some blk->∃d t xs,blk=.arr d t xs/\mT w (φ id) t xs.length hi u
 | .agg t avs,u=>∃vs,u=mkv t vs/\vs.length=t.size/\(∀v∈vs,v.oneCell'=true)/\ax w I S φ hp avs vs
 | .pth id i off _,u=>∀blk,lookup hp id=some blk->∃d t xs b cur e,blk=.arr d t xs/\φ id=some b/\0<=i/\i<xs.length ∧
   w.heap[b]? = some (.cells cur e (0,0))/\cur.toList[i.toNat * t.size+off]? = some u
 | .fn f caps,u=>∃vs,u=.func (.func f) #[] vs.toArray/\ax w I S φ hp caps vs
 | .tup avs,u=>∃vs,u=.tuple vs.toArray/\ax w I S φ hp avs vs
 | .mp id,u=>∀blk,lookup hp id=some blk->∃b,φ id=some b/\u=.map (some b)
 | .ref v,u=>∃b o uv,u=.pointer (some ⟨b,o,none⟩)/\I b/\w.cell? ⟨b,o,none⟩=some uv/\uv.oneCell'=true/\ak w I S φ hp v uv
def ax (w:World) (I S:Nat->Prop) (φ:Names) (hp:Hp):List AV->List Value->Prop
 | [],vs=>vs=[]
 | a::l,vs=>∃v vs',vs=v::vs'/\ak w I S φ hp a v/\ax w I S φ hp l vs'
end
def iu (w:World) (I:Nat->Prop) (k:IntKind) (u:Ty):List (Int×u.D)->List MapEntry->Prop
 | [],[]=>True
 | p::xs,e::es=>e.key=.int k p.1/\(∃cs,Rep w I u p.2 cs/\e.val=mkv u cs)/\iu w I k u xs es
 | _,_=>False
theorem iu.mono {w w':World} {I I':Nat->Prop} {k:IntKind} {u:Ty} (hI:∀b,I b->I' b) (hs:ki I w w'):∀{xs:List (Int×u.D)} {es:List MapEntry},iu w I k u xs es->iu w' I' k u xs es
 | [],[],h=>h
 | _::_,_::_,⟨h1,⟨cs,h2,h3⟩,h4⟩=>⟨h1,⟨cs,h2.mono hI hs,h3⟩,iu.mono hI hs h4⟩
def dL (w:World) (I S:Nat->Prop) (φ:Names) (hp:Hp) (r:Option Nat) (B:List Nat):Block->Prop
 | .box cs=>(∃b vs e,r=some b/\w.heap[b]? = some (.cells vs e (0,0))/\ax w I S φ hp cs vs.toList/\∀v∈vs.toList,v.oneCell'=true)/\B=[]
 | .arr d t xs=>∃v e l,w.rowOf 0 e t.size v xs.length l/\v.ownBlock=r/\fz d w I B t xs l
 | .map k u xs=>(∃b es clock,r=some b/\w.heap[b]? = some (.map es clock)/\iu w I k u xs es.toList)/\B=[]
structure Sim (g:Gl) (N:Nat) (s:St) (a:Act) (w:World) (φ:Names):Prop where
 defers:a.defers=[]
 size:a.tmps.size=N
 os:w.os=g.w0.os
 tape:w.tape=g.w0.tape
 output:w.output=g.w0.output
 hsize:g.w0.heap.size<=w.heap.size
 frame:∀b,b<g.w0.heap.size->¬g.io b->w.heap[b]? = g.w0.heap[b]?
 inj:∀i j bi bj b,lookup s.hp i=some bi->lookup s.hp j=some bj->φ.eI i b->φ.eI j b->i=j
 apart:∀i blk b,lookup s.hp i=some blk->φ i=some b->b∉φ.sub i
 place:∀i blk b,lookup s.hp i=some blk->φ.eI i b->b<w.heap.size/\(g.mine b\/(g.io b/\i=base))
 blocks:∀i blk,lookup s.hp i=some blk->dL w (imm g φ s.hp w.heap.size) (aM g) φ s.hp (φ i) (φ.sub i) blk
 env:∀j av,lookup s.env j=some av->ak w (imm g φ s.hp w.heap.size) (aM g) φ s.hp av (valOf g a j)
 pinned:∀blk,lookup s.hp base=some blk->φ base=g.pin/\∀b,g.pin=some b->b<g.w0.heap.size ∧
  ∀cur e,g.w0.heap[b]? = some (.cells cur e (0,0))->∃cur',w.heap[b]? = some (.cells cur' e (0,0))/\cur'.size=cur.size
structure Later (w w':World) (I I' S S':Nat->Prop) (φ φ':Names) (hp hp':Hp):Prop where
 imm:∀b,I b->I' b
 immSame:ki I w w'
 aM:∀b,S b->S' b
 stabSame:ki S w w'
 /-- What still has a name has the name that it had, of the same shape. -/
 names:∀i blk',lookup hp' i=some blk'->∃blk,lookup hp i=some blk/\φ' i=φ i ∧
  (∀d t xs,blk=.arr d t xs->∃d' xs',blk'=.arr d' t xs'/\xs'.length=xs.length) ∧
  ((∃d t xs,blk=.arr d t xs)->∀b,φ i=some b->w'.heap[b]? = w.heap[b]?)
theorem oc {w w':World} {e:TypeId} {size n:Nat} {v:Value} {l:List Value} (h:w.rowOf 0 e size v n l)
  (hw:∀b,v.ownBlock=some b->∀cur,w.heap[b]? = some (.cells cur e (0,0))->∃cur',w'.heap[b]? = some (.cells cur' e (0,0))/\cur'.size=cur.size) :
  ∃l',w'.rowOf 0 e size v n l':=by
 rcases h with⟨hl,⟨rfl,rfl⟩ | ⟨g,cap,cur,rfl,hb,hg,hn,hc,hs,ht⟩⟩
 ·exact⟨[],by simp,.inl ⟨rfl,rfl⟩⟩
 ·obtain⟨cur',hg',hs'⟩:=hw g rfl cur hg
  refine⟨cur'.toList.take (n * size),?_,.inr ⟨g,cap,cur',rfl,hb,hg',hn,hc,by omega,rfl⟩⟩
  rw[List.length_take]
  have:n * size<=cap * size:=Nat.mul_le_mul_right _ hn
  simp
  omega
theorem iy.later {w w':World} {r:Option Nat} {t:Ty} {n:Nat} {cut:Option (Int×Int)} {u:Value} (h:iy w r t n cut u)
  (hw:∀b,r=some b->∀cur e,w.heap[b]? = some (.cells cur e (0,0))->∃cur',w'.heap[b]? = some (.cells cur' e (0,0))/\cur'.size=cur.size) :
  iy w' r t n cut u:=by
 cases cut with
 | none=>
  obtain⟨e,l,ho,hr⟩:=h
  obtain⟨l',ho'⟩:=oc ho (fun b hb cur=>hw b (hr▸hb) cur e)
  exact⟨e,l',ho',hr⟩
 | some p=>
  obtain⟨lo,hi⟩:=p
  obtain⟨h1,h2,h3,A,c,hu,hc,h4,h5⟩:=h
  refine⟨h1,h2,h3,A,c,hu,hc,fun h0=>?_,h5⟩
  obtain⟨e,l,ho,hr⟩:=h4 h0
  obtain⟨l',ho'⟩:=oc ho (fun b hb cur=>hw b (hr▸hb) cur e)
  exact⟨e,l',ho',hr⟩
theorem mT.later {w w':World} {r:Option Nat} {t:Ty} {n:Nat} {hi:Int} {u:Value} (h:mT w r t n hi u)
  (hw:∀b,r=some b->∀cur e,w.heap[b]? = some (.cells cur e (0,0))->∃cur',w'.heap[b]? = some (.cells cur' e (0,0))/\cur'.size=cur.size):mT w' r t n hi u:=by
 obtain⟨h1,h2,e,l,ho,hr⟩:=h
 obtain⟨l',ho'⟩:=oc ho (fun b hb cur=>hw b (hr▸hb) cur e)
 exact⟨h1,h2,e,l',ho',hr⟩
theorem mT.look {w:World} {r:Option Nat} {t:Ty} {n:Nat} {hi:Int} {u:Value} (h:mT w r t n hi u):0<=hi/\hi<=n/\∃A c,u=.slice A hi.toNat c/\hi.toNat<=c/\(0<hi->∃b,r=some b/\A=some ⟨b,0,none⟩):=by
 obtain⟨h1,h2,e,l,ho,hr⟩:=h
 refine⟨h1,h2,?_⟩
 rcases ho.2 with⟨rfl,h0⟩ | ⟨g,cap,cur,rfl,_,_,hn,_⟩
 ·exact⟨none,0,by rw[h0],by omega,fun q=>by omega⟩
 ·exact⟨_,cap,rfl,hn,fun _=>⟨g,by rw[<-hr];rfl,rfl⟩⟩
mutual
theorem ak.later {w w':World} {I I' S S':Nat->Prop} {φ φ':Names} {hp hp':Hp} (L:Later w w' I I' S S' φ φ' hp hp') :
  ∀(av:AV) (u:Value),ak w I S φ hp av u->ak w' I' S' φ' hp' av u
 | .top,_,_=>by simp[ak]
 | .cst v,u,h=>by simpa [ak] using h
 | .data t x,u,h=>by
  simp only[ak] at h ⊢
  obtain⟨cs,h1,h2⟩:=h
  exact⟨cs,h1.mono L.imm L.immSame,h2⟩
 | .adr t x,u,h=>by
  simp only[ak] at h ⊢
  obtain⟨b,o,cs,h1,h2,h3,h4⟩:=h
  exact⟨b,o,cs,h1,L.imm _ h2,h3.mono L.imm L.immSame,h4.same (L.immSame b h2)⟩
 | .brw t xs,u,h=>by
  simp only[ak] at h ⊢
  obtain⟨A,c,h1,h2,h3⟩:=h
  refine⟨A,c,h1,h2,?_⟩
  rcases h3 with h3 | ⟨b,o,l,hA,hb,hcs,hl⟩
  ·exact .inl h3
  ·exact .inr ⟨b,o,l,hA,L.aM b hb,hcs.same (L.stabSame b hb),hl.mono' L.imm L.immSame⟩
 | .badr t x,u,h=>by
  simp only[ak] at h ⊢
  obtain⟨b,o,cs,h1,h2,h3,h4⟩:=h
  exact⟨b,o,cs,h1,L.aM _ h2,h3.mono L.imm L.immSame,h4.same (L.stabSame b h2)⟩
 | .ptr id off,u,h=>by
  simp only[ak] at h ⊢
  intro blk' hb
  obtain⟨blk,h1,h2,_⟩:=L.names id blk' hb
  rw[h2]
  exact h blk h1
 | .elt id i off,u,h=>by
  simp only[ak] at h ⊢
  intro blk' hb
  obtain⟨blk,h1,h2,h3,_⟩:=L.names id blk' hb
  obtain⟨d,t,xs,b,rfl,hφ,h0,hi,hu⟩:=h blk h1
  obtain⟨d',xs',rfl,hl⟩:=h3 d t xs rfl
  exact⟨d',t,xs',b,rfl,h2.trans hφ,h0,by rw[hl];exact hi,hu⟩
 | .own id cut,u,h=>by
  simp only[ak] at h ⊢
  intro blk' hb
  obtain⟨blk,h1,h2,h3,h4⟩:=L.names id blk' hb
  obtain⟨d,t,xs,rfl,ho⟩:=h blk h1
  obtain⟨d',xs',rfl,hl⟩:=h3 d t xs rfl
  exact⟨d',t,xs',rfl,by rw[h2,hl];exact ho.later (fun b hb cur e hg=>⟨cur,(h4 ⟨_,_,_,rfl⟩ b hb).trans hg,rfl⟩)⟩
 | .clp id hi,u,h=>by
  simp only[ak] at h ⊢
  intro blk' hb
  obtain⟨blk,h1,h2,h3,h4⟩:=L.names id blk' hb
  obtain⟨d,t,xs,rfl,ho⟩:=h blk h1
  obtain⟨d',xs',rfl,hl⟩:=h3 d t xs rfl
  exact⟨d',t,xs',rfl,by rw[h2,hl];exact ho.later (fun b hb cur e hg=>⟨cur,(h4 ⟨_,_,_,rfl⟩ b hb).trans hg,rfl⟩)⟩
 | .agg t avs,u,h=>by
  simp only[ak] at h ⊢
  obtain⟨vs,h1,h2,h3,h4⟩:=h
  exact⟨vs,h1,h2,h3,ax.later L avs vs h4⟩
 | .mp id,u,h=>by
  simp only[ak] at h ⊢
  intro blk' hb
  obtain⟨blk,h1,h2,_⟩:=L.names id blk' hb
  obtain⟨b,e1,e2⟩:=h blk h1
  exact⟨b,h2.trans e1,e2⟩
 | .pth id i off t',u,h=>by
  simp only[ak] at h ⊢
  intro blk' hb
  obtain⟨blk,h1,h2,h3,h4⟩:=L.names id blk' hb
  obtain⟨d,t,xs,b,cur,e,rfl,hφ,h0,hi,hg,hu⟩:=h blk h1
  obtain⟨d',xs',rfl,hl⟩:=h3 d t xs rfl
  exact⟨d',t,xs',b,cur,e,rfl,h2.trans hφ,h0,by rw[hl];exact hi,(h4 ⟨_,_,_,rfl⟩ b hφ).trans hg,hu⟩
 | .fn f caps,u,h=>by
  simp only[ak] at h ⊢
  obtain⟨vs,h1,h2⟩:=h
  exact⟨vs,h1,ax.later L caps vs h2⟩
 | .tup avs,u,h=>by
  simp only[ak] at h ⊢
  obtain⟨vs,h1,h2⟩:=h
  exact⟨vs,h1,ax.later L avs vs h2⟩
 | .ref v,u,h=>by
  simp only[ak] at h ⊢
  obtain⟨b,o,uv,h1,h2,h3,h4,h5⟩:=h
  exact⟨b,o,uv,h1,L.imm _ h2,(L.immSame b h2 o).trans h3,h4,ak.later L v uv h5⟩
theorem ax.later {w w':World} {I I' S S':Nat->Prop} {φ φ':Names} {hp hp':Hp} (L:Later w w' I I' S S' φ φ' hp hp') :
  ∀(l:List AV) (vs:List Value),ax w I S φ hp l vs->ax w' I' S' φ' hp' l vs
 | [],_,h=>by simpa [ax] using h
 | a::l,vs,h=>by
  simp only[ax] at h ⊢
  obtain⟨v,vs',e,h1,h2⟩:=h
  exact⟨v,vs',e,ak.later L a v h1,ax.later L l vs' h2⟩
end
end Go.AE
end
section
namespace Go.AE
open Go Go.RowKit
def bq:Ty->List Value
 | .int k=>[.int k 0]
 | .bool=>[.bool false]
 | .str=>[.string ⟨#[]⟩]
 | .unit=>[]
 | .sl _=>[.slice none 0 0]
 | .pair a b=>bq a++bq b
theorem nk (w:World) (I:Nat->Prop):∀t:Ty,Rep w I t t.zero (bq t)
 | .int _=>rfl
 | .bool=>rfl
 | .str=>rfl
 | .unit=>rfl
 | .sl _=>⟨none,0,rfl,Nat.le_refl _,.inl rfl⟩
 | .pair a b=>⟨_,_,rfl,nk w I a,nk w I b⟩
def mF:TypeDesc->Bool
 | .struct _ | .array ..=>true
 | _=>false
structure TyFact (P:Program) (t:TypeId) (ty:Ty):Prop where
 info:∃i z,P.info? t=some i/\i.size=ty.size/\i.zero=some z/\z.cells.toList=bq ty
 pos:0<ty.size
 desc:∃d,P.underlying t=some d/\mF d=ty.agg
theorem iq (b o j:Nat):(⟨b,o,none⟩:Addr).add j=⟨b,o+j,none⟩:=Addr.add_lit b o j
variable {P:Program} {w:World}
theorem BO {t:TypeId} {ty:Ty} (h:TyFact P t ty):(isAgg t).run P w=.ok ty.agg w:=by
 obtain⟨d,hd,he⟩:=h.desc
 simp only[isAgg,Sem.run_bind,run_underlying hd,Result.andThen_ok]
 cases d<;>simp[mF] at he<;>simp[<-he]
theorem pL {t:TypeId} {ty:Ty} (h:TyFact P t ty):(sizeOf t).run P w=.ok ty.size w:=by
 obtain⟨i,z,hi,hs,_⟩:=h.info
 simp[sizeOf,typeInfo,hi,hs]
theorem xS {t:TypeId} {ty:Ty} (h:TyFact P t ty) {b o:Nat} {cs:List Value} (hc:Cells w b o cs) (hl:cs.length=ty.size) :
  (loadVar t ⟨b,o,none⟩).run P w=.ok (mkv ty cs) w:=by
 simp only[loadVar,Sem.run_bind,BO h,Result.andThen_ok]
 cases ha:ty.agg with
 | true=>
  have:=run_loadCells_list (P:=P) w ⟨b,o,none⟩ cs (fun j v hj=>by rw[iq];exact hc j v hj)
  rw[hl] at this
  simp[pL h,this,mkv,ha]
 | false=>
  have hp:=h.pos
  cases cs with
  | nil=>simp at hl;omega
  | cons v cs=>
   have:=hc 0 v rfl
   simp at this
   simp[load,Sem.run,this,mkv,ha]
theorem fL {t:TypeId} {ty:Ty} (h:TyFact P t ty) {b o:Nat} {cs:List Value} (hc:Cells w b o cs) (hl:cs.length=ty.size) :
  (Instr.loadAt t (.pointer (some ⟨b,o,none⟩))).run P w=.ok (mkv ty cs) w:=by
 simp[Instr.loadAt,Instr.sureAddr,xS h hc hl]
theorem pX {ty:Ty} {cs:List Value} (hl:cs.length=ty.size) (h1:∀v∈cs,v.oneCell'=true) (ha:ty.agg=false->ty.size=1):(mkv ty cs).cells=cs.toArray:=by
 unfold mkv
 cases h:ty.agg with
 | true=>rfl
 | false=>
  have:=ha h
  rw[this] at hl
  match cs,hl with
  | [v],_=>
   have:=h1 v (by simp)
   cases v<;>first | rfl | cases this
theorem ep:∀ty:Ty,ty.agg=false->ty.size=1
 | .int _,_ | .bool,_ | .str,_ | .sl _,_=>rfl
theorem lB {t:TypeId} {ty:Ty} (h:TyFact P t ty) {b o:Nat} {cur:Array Value} {e:TypeId} {cs:List Value} (hg:w.heap[b]? = some (.cells cur e (0,0)))
  (hl:cs.length=ty.size) (ho:o+cs.length<=cur.size) (h1:∀v∈cs,v.oneCell'=true) :
  (Instr.storeAt t (.pointer (some ⟨b,o,none⟩)) (mkv ty cs)).run P w=.ok () (w.setRow b (cur.toList.take o++cs++cur.toList.drop (o+cs.length)).toArray):=by
 have hc:=pX hl h1 (ep ty)
 have hst:=run_storeCells_at P b o e cs 0 cur w hg (by simpa using ho) h1
 simp only[Nat.add_zero] at hst
 simp[Instr.storeAt,Instr.sureAddr,storeVar,hc,pL h,hl]
 rw[<-hl,<-List.append_assoc]
 exact hst
theorem yq {t:TypeId} {ty:Ty} (h:TyFact P t ty) (ha:ty.agg=false) {b o:Nat} {cur:Array Value} {e:TypeId} {v:Value} (hg:w.heap[b]? = some (.cells cur e (0,0)))
  (ho:o<cur.size) (h1:v.oneCell'=true) :
  (Instr.storeAt t (.pointer (some ⟨b,o,none⟩)) v).run P w=.ok () (w.setRow b (cur.toList.take o++[v]++cur.toList.drop (o+1)).toArray):=by
 have:=lB (P:=P) (w:=w) h (b:=b) (o:=o) (cs:=[v]) hg (by simp[ep ty ha]) (by simp;omega) (by simpa using h1)
 simpa [mkv,ha] using this
theorem fZ {t:Ty} (x:t.D):eG (rfl:t=t) x=x:=rfl
theorem ni {I:Nat->Prop}:∀{t:Ty} {x:t.D} {off:Nat} {u:Ty} {y:u.D},proj t x off u=some y->∀{cs:List Value},Rep w I t x cs->Rep w I u y ((cs.drop off).take u.size):=by
 intro t
 have leaf:∀{t:Ty} {x:t.D} {off:Nat} {u:Ty} {y:u.D},(match bif Nat.beq off 0 then Ty.eq? t u else none with | some ⟨h⟩=>some (eG h x) | none=>none)=some y →
   ∀{cs:List Value},Rep w I t x cs->Rep w I u y ((cs.drop off).take u.size):=by
  intro t x off u y h cs hr
  cases hb:Nat.beq off 0 with
  | false=>simp[hb] at h
  | true=>
   have:off=0:=Nat.eq_of_beq_eq_true hb
   subst this
   simp only[hb,cond_true] at h
   split at h
   ·rename_i hh _
    subst hh
    simp only[fZ,Option.some.injEq] at h
    subst h
    simpa [<-hr.length] using hr
   ·cases h
 induction t with
 | pair a b iha ihb=>
  intro x off u y h cs hr
  unfold proj at h
  split at h
  ·rename_i hh heq
   cases hb:Nat.beq off 0 with
   | false=>simp[hb] at heq
   | true=>
    have:off=0:=Nat.eq_of_beq_eq_true hb
    subst this
    subst hh
    simp only[fZ,Option.some.injEq] at h
    subst h
    simpa [<-hr.length] using hr
  ·obtain⟨c1,c2,rfl,h1,h2⟩:=hr
   cases hb:Nat.blt off a.size with
   | true=>
    simp only[hb,cond_true] at h
    have:=iha h h1
    have hlt:off<a.size:=by simpa [Nat.blt_eq] using hb
    have hl:=this.length
    rw[List.length_take,List.length_drop,h1.length] at hl
    rw[List.drop_append_of_le_length (by rw[h1.length];omega),List.take_append_of_le_length (by rw[List.length_drop,h1.length];omega)]
    exact this
   | false=>
    simp only[hb,cond_false] at h
    have:=ihb h h2
    have hge:¬off<a.size:=by intro hc;rw[<-Nat.blt_eq] at hc;rw[hc] at hb;cases hb
    have hd:c1.drop off=[]:=List.drop_eq_nil_of_le (by rw[h1.length];omega)
    rw[List.drop_append,hd,List.nil_append,h1.length]
    exact this
 | int k=>intro x off u y h cs hr;exact leaf h hr
 | bool=>intro x off u y h cs hr;exact leaf h hr
 | str=>intro x off u y h cs hr;exact leaf h hr
 | unit=>intro x off u y h cs hr;exact leaf h hr
 | sl t _=>intro x off u y h cs hr;exact leaf h hr
theorem Gx {I:Nat->Prop}:∀{t:Ty} {x:t.D} {off:Nat} {u:Ty} {y:u.D} {z:t.D},upd t x off u y=some z->∀{cs ds:List Value},Rep w I t x cs->Rep w I u y ds →
  Rep w I t z (cs.take off++ds++cs.drop (off+u.size))/\off+u.size<=t.size:=by
 intro t
 have leaf:∀{t:Ty} {off:Nat} {u:Ty} {y:u.D} {z:t.D},(match bif Nat.beq off 0 then Ty.eq? u t else none with | some ⟨h⟩=>some (eG h y) | none=>none)=some z →
   ∀{x:t.D} {cs ds:List Value},Rep w I t x cs->Rep w I u y ds->Rep w I t z (cs.take off++ds++cs.drop (off+u.size))/\off+u.size<=t.size:=by
  intro t off u y z h x cs ds hr hy
  cases hb:Nat.beq off 0 with
  | false=>simp[hb] at h
  | true=>
   have:off=0:=Nat.eq_of_beq_eq_true hb
   subst this
   simp only[hb,cond_true] at h
   split at h
   ·rename_i hh _
    subst hh
    simp only[fZ,Option.some.injEq] at h
    subst h
    refine⟨?_,by omega⟩
    rw[List.take_zero,List.nil_append,Nat.zero_add,List.drop_eq_nil_of_le (by rw[hr.length];omega),List.append_nil]
    exact hy
   ·cases h
 induction t with
 | pair a b iha ihb=>
  intro x off u y z h cs ds hr hy
  unfold upd at h
  split at h
  ·rename_i hh heq
   cases hb:Nat.beq off 0 with
   | false=>simp[hb] at heq
   | true=>
    have:off=0:=Nat.eq_of_beq_eq_true hb
    subst this
    subst hh
    simp only[fZ,Option.some.injEq] at h
    subst h
    refine⟨?_,by omega⟩
    rw[List.take_zero,List.nil_append,Nat.zero_add,List.drop_eq_nil_of_le (by rw[hr.length];omega),List.append_nil]
    exact hy
  ·obtain⟨c1,c2,rfl,h1,h2⟩:=hr
   cases hb:Nat.blt off a.size with
   | true=>
    simp only[hb,cond_true] at h
    split at h
    ·rename_i z' hz
     cases h
     obtain⟨g1,g2⟩:=iha hz h1 hy
     refine⟨⟨_,c2,?_,g1,h2⟩,by simp[Ty.size];omega⟩
     rw[List.take_append_of_le_length (by rw[h1.length];omega),List.drop_append_of_le_length (by rw[h1.length];omega)]
     simp only[List.append_assoc]
    ·cases h
   | false=>
    simp only[hb,cond_false] at h
    split at h
    ·rename_i z' hz
     cases h
     obtain⟨g1,g2⟩:=ihb hz h2 hy
     have hge:¬off<a.size:=by intro hc;rw[<-Nat.blt_eq] at hc;rw[hc] at hb;cases hb
     refine⟨⟨c1,_,?_,h1,g1⟩,by simp[Ty.size];omega⟩
     have hd:c1.drop (off+u.size)=[]:=List.drop_eq_nil_of_le (by rw[h1.length];omega)
     rw[List.take_append,List.take_of_length_le (by rw[h1.length];omega),List.drop_append,hd,List.nil_append,h1.length]
     rw[show off+u.size-a.size=off-a.size+u.size by omega]
     simp only[List.append_assoc]
    ·cases h
 | int k=>intro x off u y z h cs ds hr hy;exact leaf h hr hy
 | bool=>intro x off u y z h cs ds hr hy;exact leaf h hr hy
 | str=>intro x off u y z h cs ds hr hy;exact leaf h hr hy
 | unit=>intro x off u y z h cs ds hr hy;exact leaf h hr hy
 | sl t _=>intro x off u y z h cs ds hr hy;exact leaf h hr hy
theorem rj {I:Nat->Prop} {t:Ty} {xs:List t.D} {cs:List Value} (h:cK (Rep w I t) xs cs) (lo hi:Int) :
  cK (Rep w I t) (aj xs (some (lo,hi))) ((cs.drop (lo.toNat * t.size)).take ((hi-lo).toNat * t.size)):=by
 unfold aj
 exact cK.take _ (cK.drop _ h)
theorem qE {I:Nat->Prop} {t:Ty} {xs:List t.D} {cs:List Value} (h:cK (Rep w I t) xs cs) {i:Int} (h0:0<=i) (hi:i<(xs.length:Int)) :
  Rep w I t (nth xs i) ((cs.drop (i.toNat * t.size)).take t.size):=by
 have hi':i.toNat<xs.length:=by omega
 have:=cK.at h i.toNat hi'
 unfold nth
 rw[List.getD_eq_getElem?_getD,List.getElem?_eq_getElem hi']
 exact this
end Go.AE
end
