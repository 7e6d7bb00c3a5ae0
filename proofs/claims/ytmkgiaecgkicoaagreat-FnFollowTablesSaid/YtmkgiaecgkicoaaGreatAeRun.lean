/- What the machine's own operations do where the abstract values tell what memory holds. -/
import Derived.Test.YtmkgiaecgkicoaaGreatAeRep
import Derived.Laws.CopyRow
import Derived.Laws.Rows
namespace Go.AE
open Go Go.RowKit
def bn:Ty->List Value
 | .int k=>[.int k 0]
 | .bool=>[.bool false]
 | .str=>[.string ⟨#[]⟩]
 | .unit=>[]
 | .sl _=>[.slice none 0 0]
 | .pair a b=>bn a++bn b
theorem ni (w:World) (I:Nat->Prop):∀t:Ty,Rep w I t t.zero (bn t)
 | .int _=>rfl
 | .bool=>rfl
 | .str=>rfl
 | .unit=>rfl
 | .sl _=>⟨none,0,rfl,Nat.le_refl _,.inl rfl⟩
 | .pair a b=>⟨_,_,rfl,ni w I a,ni w I b⟩
def mF:TypeDesc->Bool
 | .struct _ | .array ..=>true
 | _=>false
structure TyFact (P:Program) (t:TypeId) (ty:Ty):Prop where
 info:∃i z,P.info? t=some i/\i.size=ty.size/\i.zero=some z/\z.cells.toList=bn ty
 pos:0<ty.size
 desc:∃d,P.underlying t=some d/\mF d=ty.agg
theorem hY (b o j:Nat):(⟨b,o,none⟩:Addr).add j=⟨b,o+j,none⟩:=Addr.add_lit b o j
variable {P:Program} {w:World}
theorem Bv {t:TypeId} {ty:Ty} (h:TyFact P t ty):(isAgg t).run P w=.ok ty.agg w:=by
 obtain⟨d,hd,he⟩:=h.desc
 simp only[isAgg,Sem.run_bind,run_underlying hd,Result.andThen_ok]
 cases d<;>simp[mF] at he<;>simp[<-he]
theorem pH {t:TypeId} {ty:Ty} (h:TyFact P t ty):(sizeOf t).run P w=.ok ty.size w:=by
 obtain⟨i,z,hi,hs,_⟩:=h.info
 simp[sizeOf,typeInfo,hi,hs]
theorem xK {t:TypeId} {ty:Ty} (h:TyFact P t ty) {b o:Nat} {cs:List Value} (hc:Cells w b o cs) (hl:cs.length=ty.size) :
  (loadVar t ⟨b,o,none⟩).run P w=.ok (mkv ty cs) w:=by
 simp only[loadVar,Sem.run_bind,Bv h,Result.andThen_ok]
 cases ha:ty.agg with
 | true=>
  have:=run_loadCells_list (P:=P) w ⟨b,o,none⟩ cs (fun j v hj=>by rw[hY];exact hc j v hj)
  rw[hl] at this
  simp[pH h,this,mkv,ha]
 | false=>
  have hp:=h.pos
  cases cs with
  | nil=>simp at hl;omega
  | cons v cs=>
   have:=hc 0 v rfl
   simp at this
   simp[load,Sem.run,this,mkv,ha]
theorem fE {t:TypeId} {ty:Ty} (h:TyFact P t ty) {b o:Nat} {cs:List Value} (hc:Cells w b o cs) (hl:cs.length=ty.size) :
  (Instr.loadAt t (.pointer (some ⟨b,o,none⟩))).run P w=.ok (mkv ty cs) w:=by
 simp[Instr.loadAt,Instr.sureAddr,xK h hc hl]
theorem oY {ty:Ty} {cs:List Value} (hl:cs.length=ty.size) (h1:∀v∈cs,v.oneCell'=true) (ha:ty.agg=false->ty.size=1):(mkv ty cs).cells=cs.toArray:=by
 unfold mkv
 cases h:ty.agg with
 | true=>rfl
 | false=>
  have:=ha h
  rw[this] at hl
  match cs,hl with
  | [v],_=>
   have:=h1 v (by simp)
   cases v<;>first | rfl | cases this
theorem dO:∀ty:Ty,ty.agg=false->ty.size=1
 | .int _,_ | .bool,_ | .str,_ | .sl _,_=>rfl
theorem lp {t:TypeId} {ty:Ty} (h:TyFact P t ty) {b o:Nat} {cur:Array Value} {e:TypeId} {cs:List Value} (hg:w.heap[b]? = some (.cells cur e (0,0)))
  (hl:cs.length=ty.size) (ho:o+cs.length<=cur.size) (h1:∀v∈cs,v.oneCell'=true) :
  (Instr.storeAt t (.pointer (some ⟨b,o,none⟩)) (mkv ty cs)).run P w=.ok () (w.setRow b (cur.toList.take o++cs++cur.toList.drop (o+cs.length)).toArray):=by
 have hc:=oY hl h1 (dO ty)
 have hst:=run_storeCells_at P b o e cs 0 cur w hg (by simpa using ho) h1
 simp only[Nat.add_zero] at hst
 simp[Instr.storeAt,Instr.sureAddr,storeVar,hc,pH h,hl]
 rw[<-hl,<-List.append_assoc]
 exact hst
theorem xU {t:TypeId} {ty:Ty} (h:TyFact P t ty) (ha:ty.agg=false) {b o:Nat} {cur:Array Value} {e:TypeId} {v:Value} (hg:w.heap[b]? = some (.cells cur e (0,0)))
  (ho:o<cur.size) (h1:v.oneCell'=true) :
  (Instr.storeAt t (.pointer (some ⟨b,o,none⟩)) v).run P w=.ok () (w.setRow b (cur.toList.take o++[v]++cur.toList.drop (o+1)).toArray):=by
 have:=lp (P:=P) (w:=w) h (b:=b) (o:=o) (cs:=[v]) hg (by simp[dO ty ha]) (by simp;omega) (by simpa using h1)
 simpa [mkv,ha] using this
theorem fY {t:Ty} (x:t.D):dQ (rfl:t=t) x=x:=rfl
theorem mZ {I:Nat->Prop}:∀{t:Ty} {x:t.D} {off:Nat} {u:Ty} {y:u.D},proj t x off u=some y->∀{cs:List Value},Rep w I t x cs->Rep w I u y ((cs.drop off).take u.size):=by
 intro t
 have leaf:∀{t:Ty} {x:t.D} {off:Nat} {u:Ty} {y:u.D},(match bif Nat.beq off 0 then Ty.eq? t u else none with | some ⟨h⟩=>some (dQ h x) | none=>none)=some y →
   ∀{cs:List Value},Rep w I t x cs->Rep w I u y ((cs.drop off).take u.size):=by
  intro t x off u y h cs hr
  cases hb:Nat.beq off 0 with
  | false=>simp[hb] at h
  | true=>
   have:off=0:=Nat.eq_of_beq_eq_true hb
   subst this
   simp only[hb,cond_true] at h
   split at h
   ·rename_i hh _
    subst hh
    simp only[fY,Option.some.injEq] at h
    subst h
    simpa [<-hr.length] using hr
   ·cases h
 induction t with
 | pair a b iha ihb=>
  intro x off u y h cs hr
  unfold proj at h
  split at h
  ·rename_i hh heq
   cases hb:Nat.beq off 0 with
   | false=>simp[hb] at heq
   | true=>
    have:off=0:=Nat.eq_of_beq_eq_true hb
    subst this
    subst hh
    simp only[fY,Option.some.injEq] at h
    subst h
    simpa [<-hr.length] using hr
  ·obtain⟨c1,c2,rfl,h1,h2⟩:=hr
   cases hb:Nat.blt off a.size with
   | true=>
    simp only[hb,cond_true] at h
    have:=iha h h1
    have hlt:off<a.size:=by simpa [Nat.blt_eq] using hb
    have hl:=this.length
    rw[List.length_take,List.length_drop,h1.length] at hl
    rw[List.drop_append_of_le_length (by rw[h1.length];omega),List.take_append_of_le_length (by rw[List.length_drop,h1.length];omega)]
    exact this
   | false=>
    simp only[hb,cond_false] at h
    have:=ihb h h2
    have hge:¬off<a.size:=by intro hc;rw[<-Nat.blt_eq] at hc;rw[hc] at hb;cases hb
    have hd:c1.drop off=[]:=List.drop_eq_nil_of_le (by rw[h1.length];omega)
    rw[List.drop_append,hd,List.nil_append,h1.length]
    exact this
 | int k=>intro x off u y h cs hr;exact leaf h hr
 | bool=>intro x off u y h cs hr;exact leaf h hr
 | str=>intro x off u y h cs hr;exact leaf h hr
 | unit=>intro x off u y h cs hr;exact leaf h hr
 | sl t _=>intro x off u y h cs hr;exact leaf h hr
theorem Fi {I:Nat->Prop}:∀{t:Ty} {x:t.D} {off:Nat} {u:Ty} {y:u.D} {z:t.D},upd t x off u y=some z->∀{cs ds:List Value},Rep w I t x cs->Rep w I u y ds →
  Rep w I t z (cs.take off++ds++cs.drop (off+u.size))/\off+u.size<=t.size:=by
 intro t
 have leaf:∀{t:Ty} {off:Nat} {u:Ty} {y:u.D} {z:t.D},(match bif Nat.beq off 0 then Ty.eq? u t else none with | some ⟨h⟩=>some (dQ h y) | none=>none)=some z →
   ∀{x:t.D} {cs ds:List Value},Rep w I t x cs->Rep w I u y ds->Rep w I t z (cs.take off++ds++cs.drop (off+u.size))/\off+u.size<=t.size:=by
  intro t off u y z h x cs ds hr hy
  cases hb:Nat.beq off 0 with
  | false=>simp[hb] at h
  | true=>
   have:off=0:=Nat.eq_of_beq_eq_true hb
   subst this
   simp only[hb,cond_true] at h
   split at h
   ·rename_i hh _
    subst hh
    simp only[fY,Option.some.injEq] at h
    subst h
    refine⟨?_,by omega⟩
    rw[List.take_zero,List.nil_append,Nat.zero_add,List.drop_eq_nil_of_le (by rw[hr.length];omega),List.append_nil]
    exact hy
   ·cases h
 induction t with
 | pair a b iha ihb=>
  intro x off u y z h cs ds hr hy
  unfold upd at h
  split at h
  ·rename_i hh heq
   cases hb:Nat.beq off 0 with
   | false=>simp[hb] at heq
   | true=>
    have:off=0:=Nat.eq_of_beq_eq_true hb
    subst this
    subst hh
    simp only[fY,Option.some.injEq] at h
    subst h
    refine⟨?_,by omega⟩
    rw[List.take_zero,List.nil_append,Nat.zero_add,List.drop_eq_nil_of_le (by rw[hr.length];omega),List.append_nil]
    exact hy
  ·obtain⟨c1,c2,rfl,h1,h2⟩:=hr
   cases hb:Nat.blt off a.size with
   | true=>
    simp only[hb,cond_true] at h
    split at h
    ·rename_i z' hz
     cases h
     obtain⟨g1,g2⟩:=iha hz h1 hy
     refine⟨⟨_,c2,?_,g1,h2⟩,by simp[Ty.size];omega⟩
     rw[List.take_append_of_le_length (by rw[h1.length];omega),List.drop_append_of_le_length (by rw[h1.length];omega)]
     simp only[List.append_assoc]
    ·cases h
   | false=>
    simp only[hb,cond_false] at h
    split at h
    ·rename_i z' hz
     cases h
     obtain⟨g1,g2⟩:=ihb hz h2 hy
     have hge:¬off<a.size:=by intro hc;rw[<-Nat.blt_eq] at hc;rw[hc] at hb;cases hb
     refine⟨⟨c1,_,?_,h1,g1⟩,by simp[Ty.size];omega⟩
     have hd:c1.drop (off+u.size)=[]:=List.drop_eq_nil_of_le (by rw[h1.length];omega)
     rw[List.take_append,List.take_of_length_le (by rw[h1.length];omega),List.drop_append,hd,List.nil_append,h1.length]
     rw[show off+u.size-a.size=off-a.size+u.size by omega]
     simp only[List.append_assoc]
    ·cases h
 | int k=>intro x off u y z h cs ds hr hy;exact leaf h hr hy
 | bool=>intro x off u y z h cs ds hr hy;exact leaf h hr hy
 | str=>intro x off u y z h cs ds hr hy;exact leaf h hr hy
 | unit=>intro x off u y z h cs ds hr hy;exact leaf h hr hy
 | sl t _=>intro x off u y z h cs ds hr hy;exact leaf h hr hy
theorem qY {I:Nat->Prop} {t:Ty} {xs:List t.D} {cs:List Value} (h:cB (Rep w I t) xs cs) (lo hi:Int) :
  cB (Rep w I t) (aC xs (some (lo,hi))) ((cs.drop (lo.toNat * t.size)).take ((hi-lo).toNat * t.size)):=by
 unfold aC
 exact cB.take _ (cB.drop _ h)
theorem pO {I:Nat->Prop} {t:Ty} {xs:List t.D} {cs:List Value} (h:cB (Rep w I t) xs cs) {i:Int} (h0:0<=i) (hi:i<(xs.length:Int)) :
  Rep w I t (nth xs i) ((cs.drop (i.toNat * t.size)).take t.size):=by
 have hi':i.toNat<xs.length:=by omega
 have:=cB.at h i.toNat hi'
 unfold nth
 rw[List.getD_eq_getElem?_getD,List.getElem?_eq_getElem hi']
 exact this
end Go.AE
