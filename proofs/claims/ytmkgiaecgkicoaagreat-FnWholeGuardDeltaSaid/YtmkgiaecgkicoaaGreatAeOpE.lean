/- The operations, one by one: struct literals, make, stores. Fifth part. -/
import Derived.Test.YtmkgiaecgkicoaaGreatAeOpD
import Derived.Laws.MakeOwn
import Derived.Laws.Tables
namespace Go.AE
open Go Go.RowKit
section
variable {P:Program} {C:Ctx} {g:Gl} {N:Nat} {o:Oper} {s:St} {a:Act} {w:World} {φ:Names} {K:AV->St->Prop}
theorem Ae (off:Nat) (l:List Value) (cs:Array Value) (h:off+l.length<=cs.size) :
  ((l.zipIdx 0).foldl (fun cs (x:Value×Nat)=>cs.setIfInBounds (off+x.2) x.1) cs).toList=cs.toList.take off++l++cs.toList.drop (off+l.length):=by
 obtain⟨h1,h2⟩:=Great.foldl_set off l 0 cs
 apply List.ext_getElem?
 intro k
 rw[Array.getElem?_toList,h2 k]
 simp only[Nat.add_zero]
 by_cases hk:off<=k/\k<off+l.length/\k<cs.size
 ·rw[if_pos hk,List.append_assoc,List.getElem?_append_right (by simp;omega),List.getElem?_append_left (by simp;omega)]
  simp
  congr 1
  omega
 ·rw[if_neg hk]
  by_cases hlt:k<off
  ·rw[List.append_assoc,List.getElem?_append_left (by simp;omega),List.getElem?_take_of_lt hlt]
   simp
  ·by_cases hge:off+l.length<=k
   ·rw[List.getElem?_append_right (by simp;omega),List.getElem?_drop]
    simp
    congr 1
    omega
   ·rw[List.append_assoc,List.getElem?_append_right (by simp;omega),List.getElem?_append_left (by simp;omega)]
    have:¬k<cs.size:=by omega
    have:cs.size<=off+l.length-1:=by omega
    omega
theorem BI {place:Nat->Option (Nat×Nat)} {cells:Array Value} {i off sz:Nat} {u:Value} {cs:List Value} {rest:List (Nat×Value)} (hp:place i=some (off,sz)) (hu:u.cells=cs.toArray) (hl:cs.length=sz)
  (hle:off+sz<=cells.size) :
  Instr.fill place cells ((i,u)::rest)=Instr.fill place (cells.toList.take off++cs++cells.toList.drop (off+sz)).toArray rest:=by
 have hset:=Ae off cs cells (by omega)
 conv=>lhs;unfold Instr.fill
 simp only[hp,hu]
 rw[if_neg (by simp;omega)]
 congr 1
 apply Array.ext'
 simp only[<-Array.foldl_toList,Array.toList_zipIdx]
 rw[<-hl]
 exact hset
theorem vA (hT:TabOk P C) {fs:List (Nat×TypeId×String)} {t:Ty} {pl:List (Nat×Nat)}
  (hpl:∀i off ft nm,fJ fs i=some (off,ft,nm)->∃j,P.info? ft=some j/\pl[i]? = some (off,j.size)) :
  ∀{parts:List (Nat×Operand)} {x x2:t.D} {s1 s2:St} {cells:Array Value},Sim g N s1 a w φ->Rep w (imm g φ s1.hp w.heap.size) t x cells.toList->pT C.tab fs t x parts s1=some (x2,s2) →
   ∃cells2:Array Value,Instr.fill (pl.toArray[·]?) cells (parts.map fun p=>(p.1,a.eval p.2))=some cells2/\Rep w (imm g φ s2.hp w.heap.size) t x2 cells2.toList/\Sim g N s2 a w φ
 | [],x,x2,s1,s2,cells,h1,hr,h=>by
  simp only[pT,Option.some.injEq,Prod.mk.injEq] at h
  obtain⟨rfl,rfl⟩:=h
  exact⟨cells,rfl,hr,h1⟩
 | (i,y)::parts,x,x2,s1,s2,cells,h1,hr,h=>by
  unfold pT at h
  split at h
  case h_2=>cases h
  rename_i off ft nm hq
  split at h
  case h_2=>cases h
  rename_i u hu
  split at h
  case h_2=>cases h
  rename_i z s1' hy
  split at h
  case h_2=>cases h
  rename_i x' hx'
  obtain⟨g1,cs,hrc,e1⟩:=h1.iT (h1.eval y) hy
  have L:=qw (w:=w) (g:=g) (φ:=φ) hy
  obtain⟨r1,r2⟩:=Gx hx' (hr.mono L.imm L.immSame) hrc
  have hf:=hT.ty _ _ hu
  obtain⟨j,hj,hplj⟩:=hpl i off ft nm hq
  obtain⟨j',z',hj',hsz,_⟩:=hf.info
  rw[hj] at hj'
  cases hj'
  have hle:off+u.size<=cells.size:=by
   have:=hr.length
   rw[Array.length_toList] at this
   omega
  have hstep:=BI (place:=(pl.toArray[·]?)) (cells:=cells) (i:=i) (off:=off) (sz:=u.size) (u:=a.eval y) (cs:=cs) (rest:=parts.map fun p=>(p.1,a.eval p.2))
   (by simpa [hsz] using hplj) (by rw[e1];exact pX hrc.length hrc.one (ep u)) hrc.length hle
  have hih:=vA hT hpl (cells:=(cells.toList.take off++cs++cells.toList.drop (off+u.size)).toArray) g1 (by simpa using r1) h
  obtain⟨cells2,q1,q2,q3⟩:=hih
  refine⟨cells2,?_,q2,q3⟩
  simp only[List.map_cons]
  rw[hstep]
  exact q1
theorem Cb {v:AV} {u:Ty} {x:Value} {I S:Nat->Prop} {hp:Hp} (h:v.isAgg u=true) (hv:ak w I S φ hp v x):∃vs,x=mkv u vs/\vs.length=u.size/\(∀v∈vs,v.oneCell'=true)/\ax w I S φ hp v.cells vs/\v.cells.length=u.size:=by
 unfold AV.isAgg at h
 split at h
 ·rename_i t vs
  obtain⟨h1,h2⟩:=Bool.and_eq_true_iff.1 h
  have ht:t=u:=by
   unfold Ty.same at h1
   split at h1
   ·rename_i hh _;exact hh.down
   ·cases h1
  subst ht
  simp only[ak] at hv
  obtain⟨us,e1,e2,e3,e4⟩:=hv
  exact⟨us,e1,e2,e3,by simpa only[AV.cells] using e4,by simpa only[AV.cells] using Nat.eq_of_beq_eq_true h2⟩
 ·cases h
theorem jI {w:World} {I S:Nat->Prop} {φ:Names} {hp:Hp}:∀{l:List AV} {vs:List Value} {n:Nat} {k:List AV} {us:List Value},ax w I S φ hp l vs->ax w I S φ hp k us->n+k.length<=l.length →
  ax w I S φ hp (setAt l n k) (vs.take n++us++vs.drop (n+k.length))
 | l,vs,0,[],us,h,h',_=>by
  simp only[ax] at h'
  subst h'
  simpa [setAt] using h
 | [],vs,n,k,us,h,h',hl=>by
  simp at hl
  obtain⟨rfl,hk⟩:=hl
  have:k=[]:=hk
  subst this
  simp only[ax] at h h'
  subst h
  subst h'
  simp[setAt,ax]
 | x::l,vs,0,v::k,us,h,h',hl=>by
  simp only[ax] at h h'
  obtain⟨u,vs',rfl,h1,h2⟩:=h
  obtain⟨u',us',rfl,h1',h2'⟩:=h'
  simp only[setAt,ax]
  have:=jI (n:=0) h2 h2' (by simp at hl;omega)
  refine⟨u',_,?_,h1',this⟩
  simp[Nat.add_comm]
 | x::l,vs,n+1,k,us,h,h',hl=>by
  simp only[ax] at h
  obtain⟨u,vs',rfl,h1,h2⟩:=h
  have:=jI (n:=n) h2 h' (by simp at hl;omega)
  cases k with
  | nil=>
   simp only[ax] at h'
   subst h'
   simp only[setAt,ax]
   refine⟨u,_,?_,h1,this⟩
   simp
  | cons v k=>
   simp only[setAt,ax]
   refine⟨u,_,?_,h1,this⟩
   simp only[List.take_succ_cons,List.cons_append,List.append_assoc]
   rw[show n+1+(v::k).length=(n+(v::k).length)+1 by omega,List.drop_succ_cons]
theorem rF (hT:TabOk P C) {fs:List (Nat×TypeId×String)} {pl:List (Nat×Nat)}
  (hpl:∀i off ft nm,fJ fs i=some (off,ft,nm)->∃j,P.info? ft=some j/\pl[i]? = some (off,j.size)) (h1:Sim g N s a w φ) :
  ∀{parts:List (Nat×Operand)} {l l2:List AV} {cells:Array Value},ax w (imm g φ s.hp w.heap.size) (aM g) φ s.hp l cells.toList->(∀v∈cells.toList,v.oneCell'=true)->ir C.tab fs s l parts=some l2 →
   ∃cells2:Array Value,Instr.fill (pl.toArray[·]?) cells (parts.map fun p=>(p.1,a.eval p.2))=some cells2/\ax w (imm g φ s.hp w.heap.size) (aM g) φ s.hp l2 cells2.toList/\(∀v∈cells2.toList,v.oneCell'=true)/\cells2.size=cells.size
 | [],l,l2,cells,hr,ho,h=>by
  simp only[ir,Option.some.injEq] at h
  subst h
  exact⟨cells,rfl,hr,ho,rfl⟩
 | (i,y)::parts,l,l2,cells,hr,ho,h=>by
  unfold ir at h
  split at h
  case h_2=>cases h
  rename_i off ft nm hq
  split at h
  case h_2=>cases h
  rename_i u hu
  have h0:=cT h
  clear h
  obtain⟨hb,h⟩:=h0
  have hle:=Nat.le_of_ble_eq_true hb
  have hlc:l.length=cells.size:=by have:=hr.length;simpa using this.symm
  have hf:=hT.ty _ _ hu
  obtain⟨j,hj,hplj⟩:=hpl i off ft nm hq
  obtain⟨j',z',hj',hsz,_⟩:=hf.info
  rw[hj] at hj'
  cases hj'
  have step:∀{k:List AV} {us:List Value},ax w (imm g φ s.hp w.heap.size) (aM g) φ s.hp k us->us.length=u.size->(∀v∈us,v.oneCell'=true)->a.eval y=mkv u us->ir C.tab fs s (setAt l off k) parts=some l2 →
    ∃cells2:Array Value,Instr.fill (pl.toArray[·]?) cells (((i,y)::parts).map fun p=>(p.1,a.eval p.2))=some cells2/\ax w (imm g φ s.hp w.heap.size) (aM g) φ s.hp l2 cells2.toList/\(∀v∈cells2.toList,v.oneCell'=true)/\cells2.size=cells.size:=by
   intro k us hk hul huo e1 hb2
   have hkl:k.length=u.size:=by have:=hk.length;omega
   have hset:=jI (n:=off) hr hk (by omega)
   rw[hkl] at hset
   have hstep:=BI (place:=(pl.toArray[·]?)) (cells:=cells) (i:=i) (off:=off) (sz:=u.size) (u:=a.eval y) (cs:=us) (rest:=parts.map fun p=>(p.1,a.eval p.2))
    (by simpa [hsz] using hplj) (by rw[e1];exact pX hul huo (ep u)) hul (by omega)
   obtain⟨cells2,q1,q2,q3,q4⟩:=rF hT hpl h1 (cells:=(cells.toList.take off++us++cells.toList.drop (off+u.size)).toArray) (by simpa using hset) (fun v hv=>by
    simp only[List.mem_append] at hv
    rcases hv with(hv | hv) | hv
    ·exact ho v (List.mem_of_mem_take hv)
    ·exact huo v hv
    ·exact ho v (List.mem_of_mem_drop hv)) hb2
   refine⟨cells2,?_,q2,q3,?_⟩
   ·simp only[List.map_cons]
    rw[hstep]
    exact q1
   ·rw[q4]
    simp[hul]
    omega
  have hy:=h1.eval y
  cases ha:u.agg with
  | true=>
   rw[ha] at h
   simp only[cond_true] at h
   split at h
   ·rename_i t x e1
    split at h
    case h_2=>cases h
    rename_i hh _
    have hh:=hh.down
    subst hh
    rw[e1] at hy
    simp only[ak] at hy
    obtain⟨cs,hrc,e2⟩:=hy
    exact step (qe hrc) hrc.length hrc.one e2 h
   ·obtain⟨hg,h⟩:=cT h
    obtain⟨vs,k1,k2,k3,k4,k5⟩:=Cb hg hy
    exact step k4 k2 k3 k1 h
  | false=>
   rw[ha] at h
   simp only[cond_false] at h
   obtain⟨hg,h⟩:=cT h
   have ho1:=CM hy hg
   exact step (k:=[eval s.env y]) (us:=[a.eval y]) (by simp only[ax];exact⟨_,[],rfl,hy,rfl⟩) (by simp[ep u ha]) (by simpa using ho1) (by simp[mkv,ha]) h
theorem DG {S:World->Prop} (hT:TabOk P C) (h:Sim g N s a w φ) {ty:TypeId} {parts:Array (Nat×Operand)} (ho:o.op=.build ty parts) (hop:opW C o s K):eY S P g N o a w K:=by
 simp only[opW,ho] at hop
 split at hop
 case h_2=>exact hop.elim
 rename_i fs t sz by_ e1
 obtain⟨fields,h1,_⟩:=hT.st _ _ _ _ _ e1
 obtain⟨pl,hpl,hpl2⟩:=hT.places _ _ _ _ _ fields e1 h1
 have htab:C.tab.ty ty=some t:=by simp[Tab.ty,e1,TD.ty]
 have hf:=hT.ty _ _ htab
 obtain⟨i,z,hi,hs,hz,hzc⟩:=hf.info
 cases hdp:(C.deep&&!t.flat) with
 | true=>
  rw[hdp] at hop
  simp only[cond_true] at hop
  obtain⟨l2,hy,hop⟩:=aJ hop
  obtain⟨cells2,q1,q2,q3,q4⟩:=rF hT hpl2 h (cells:=z.cells) (by rw[hzc];exact xV t) (by rw[hzc];exact uE t) hy
  have hagg:t.agg=true:=by
   obtain⟨d,hd,he⟩:=hf.desc
   rw[h1] at hd
   cases hd
   simpa [mF] using he.symm
  have hb:P.built ty (parts.map fun(i,x)=>(i,a.eval x)).toList=some cells2:=by
   unfold Program.built
   simp only[hi,h1,hz,hpl]
   rw[Array.toList_map]
   exact q1
  have hzl:z.cells.size=t.size:=by
   have:=congrArg List.length hzc
   rw[dK] at this
   simpa using this
  refine⟨.agg cells2,_,_,φ,?_,hop,h,?_⟩
  ·intro w' _
   simp only[execOp,ho,Sem.run_bind,run_build w' ty _ cells2 hb,Result.andThen_ok]
   rfl
  ·simp only[ak]
   exact⟨cells2.toList,by simp[mkv,hagg],by simp;omega,q3,q2⟩
 | false=>
 rw[hdp] at hop
 simp only[cond_false] at hop
 obtain⟨y,hy,hop⟩:=aJ hop
 obtain⟨cells2,q1,q2,q3⟩:=vA hT hpl2 (cells:=z.cells) h (by rw[hzc];exact nk ..) (show pT C.tab fs t t.zero parts.toList s=some (y.1,y.2) from hy)
 have hagg:t.agg=true:=by
  obtain⟨d,hd,he⟩:=hf.desc
  rw[h1] at hd
  cases hd
  simpa [mF] using he.symm
 have hb:P.built ty (parts.map fun(i,x)=>(i,a.eval x)).toList=some cells2:=by
  unfold Program.built
  simp only[hi,h1,hz,hpl]
  rw[Array.toList_map]
  exact q1
 refine⟨.agg cells2,_,_,φ,?_,hop,q3,?_⟩
 ·intro w' _
  simp only[execOp,ho,Sem.run_bind,run_build w' ty _ cells2 hb,Result.andThen_ok]
  rfl
 ·simp only[ak]
  exact⟨_,q2,by simp[mkv,hagg]⟩
theorem sQ (z:List Value) (hz:0<z.length):∀n:Nat,(madeCells z.toArray (n * z.length)).toList=(List.replicate n z).flatten
 | 0=>by simp[madeCells,Array.range_zero']
 | n+1=>by
  have ih:=sQ z hz n
  simp only[madeCells,Array.toList_map,Array.toList_range,List.size_toArray] at ih ⊢
  rw[List.replicate_succ,List.flatten_cons,<-ih,Nat.succ_mul,Nat.add_comm,List.range_add,List.map_append,List.map_map]
  congr 1
  ·apply List.ext_getElem
   ·simp
   ·intro k h1 h2
    have hk:k<z.length:=by simpa using h1
    simp[Nat.mod_eq_of_lt hk,hk]
  ·apply List.map_congr_left
   intro k _
   simp only[Function.comp]
   rw[Nat.add_mod_left]
theorem wT (w:World):∀t:Ty,Tree w t t.zero (bq t) []
 | .int _=>⟨rfl,rfl⟩
 | .bool=>⟨rfl,rfl⟩
 | .str=>⟨rfl,rfl⟩
 | .unit=>⟨rfl,rfl⟩
 | .sl _=>⟨none,0,rfl,Nat.le_refl _,.inl ⟨rfl,rfl,rfl,rfl⟩⟩
 | .pair a b=>⟨_,_,[],[],rfl,rfl,wT w a,wT w b⟩
theorem qR (w:World) (t:Ty):∀n:Nat,bG (Tree w t) (List.replicate n t.zero) (List.replicate n (bq t)).flatten []
 | 0=>⟨rfl,rfl⟩
 | n+1=>⟨bq t,_,[],[],by simp[List.replicate_succ],rfl,wT w t,qR w t n⟩
theorem fV (w:World) (I:Nat->Prop) (t:Ty):∀n:Nat,cK (Rep w I t) (List.replicate n t.zero) (List.replicate n (bq t)).flatten
 | 0=>rfl
 | n+1=>⟨bq t,_,by simp[List.replicate_succ],nk w I t,fV w I t n⟩
theorem FE {n b:Nat} (h:n * b<=lim) (hb:0<b):n<=lim:=Nat.le_trans (Nat.le_mul_of_pos_right _ hb) h
theorem Jv (hT:TabOk P C) (h:Sim g N s a w φ) (hd:Nat.add (o.dst.getD 0) C.off≠base) {ty:TypeId} {n c:Operand} (ho:o.op=.makeSlice ty n c) (hop:opW C o s K):nN P g N o a w K:=by
 simp only[opW,ho] at hop
 unfold Ko at hop
 split at hop
 case h_2=>exact hop.elim
 rename_i e t _ _ e1
 obtain⟨h1,h2⟩:=hT.sl _ _ _ _ _ e1
 obtain⟨ei,hei,hop⟩:=aJ hop
 obtain⟨p,hp,hop⟩:=aJ hop
 obtain⟨q,hq,hpq,h0,hlim,hop⟩:=aJ hop
 obtain⟨kn,hn⟩:=rA (h.eval n) hp
 obtain⟨kc,hc⟩:=rA (h.eval c) hq
 have hf:=hT.ty _ _ h2
 obtain⟨i,z,hi,hs,hz,hzc⟩:=hf.info
 obtain⟨i',hi',hby⟩:=hT.bytes _ _ hei
 rw[hi] at hi'
 cases hi'
 have hpos:=hT.slPos _ _ _ _ _ _ e1 hei
 have hlim':p.toNat * ei.bytes<=lim:=by
  have:((p.toNat * ei.bytes:Nat):Int)=p * ei.bytes:=by rw[Int.natCast_mul,Int.toNat_of_nonneg h0]
  omega
 have hple:=FE hlim' hpos
 have hzl:z.cells=(bq t).toArray:=by rw[<-hzc]
 have hml:(List.replicate p.toNat t.zero).length<=maxLen:=by
  simp only[List.length_replicate]
  unfold lim at hple
  unfold maxLen
  omega
 have hcells:madeCells z.cells (p.toNat * i.size)=(List.replicate p.toNat (bq t)).flatten.toArray:=by
  apply Array.ext'
  rw[hzl,hs,<-dK t]
  exact sQ (bq t) (by rw[dK];exact hf.pos) p.toNat
 have hrun:=run_make (P:=P) w ty e i z h1 hi hz kn kc p p h0 (Int.le_refl _) (by
   rw[hby]
   have:(ei.bytes:Int) * p=p * ei.bytes:=Int.mul_comm _ _
   rw[this]
   unfold lim at hlim
   omega) (by unfold lim at hple;omega)
 rw[hcells] at hrun
 have hrun':(execOp a.eval o).run P w=.ok (.value (.slice (some ⟨w.heap.size,0,none⟩) (List.replicate p.toNat t.zero).length (List.replicate p.toNat t.zero).length)) (w.alloc (.cells (List.replicate p.toNat (bq t)).flatten.toArray e)):=by
  subst hpq
  simp only[execOp,ho,hn,hc,Sem.run_bind,hrun,Result.andThen_ok,List.length_replicate]
  rfl
 cases hdp:(C.deep&&!t.flat) with
 | true=>
  rw[hdp] at hop
  obtain⟨r1,r2⟩:=h.FO (Handed.refl s φ) (Nat.add (o.dst.getD 0) C.off) hd t (List.replicate p.toNat t.zero) _ e (qR w t p.toNat) hml
  exact⟨_,_,_,_,_,.inl hrun',hop,r1,r2,ew w _⟩
 | false=>
  rw[hdp] at hop
  obtain⟨r1,r2⟩:=h.II (Nat.add (o.dst.getD 0) C.off) hd t (List.replicate p.toNat t.zero) _ e (fV w _ t p.toNat) hml
  exact⟨_,_,_,_,_,.inl hrun',hop,r1,r2,ew w _⟩
theorem Iq {α:Type} (L cs:List α) (A B sz off us:Nat) (h1:off+us<=sz) (h2:A+sz<=B) (h3:B<=L.length) (h4:cs.length=us) :
  (L.take (A+off)++cs++L.drop (A+off+us)).take B =
   (L.take B).take A++((((L.take B).drop A).take sz).take off++cs++(((L.take B).drop A).take sz).drop (off+us))++(L.take B).drop (A+sz):=by
 have e1:(L.take B).take A=L.take A:=by rw[List.take_take];congr 1;omega
 have e2:(((L.take B).drop A).take sz).take off=(L.drop A).take off:=by
  rw[List.take_take,List.drop_take,List.take_take];congr 1;omega
 have e3:(((L.take B).drop A).take sz).drop (off+us)=(L.drop (A+off+us)).take (sz-(off+us)):=by
  rw[List.drop_take,List.drop_drop,List.drop_take,List.take_take]
  congr 1
  ·omega
  ·congr 1;omega
 have e4:(L.take B).drop (A+sz)=((L.drop (A+off+us)).drop (sz-(off+us))).take (B-(A+sz)):=by
  rw[List.drop_take,List.drop_drop]
  congr 2
  omega
 rw[e1,e2,e3,e4]
 have hl:(L.take (A+off)++cs).length=A+off+us:=by simp;omega
 rw[List.take_append,hl,List.take_of_length_le (by omega)]
 have e5:B-(A+off+us)=(sz-(off+us))+(B-(A+sz)):=by omega
 rw[e5,List.take_add,List.take_add]
 simp only[List.append_assoc]
theorem jE (w:World) (b:Nat) (cs:Array Value):Turn w (w.setRow b cs) (some b):=
 ⟨rfl,rfl,rfl,by simp,fun b' _ hne=>setRow_other w b b' cs (fun e=>hne (by rw[e]))⟩
theorem GK {n m:Nat} (h:Nat.blt n m=true):n<m:=by rwa [Nat.blt_eq] at h
theorem EP {α:Type} (l:List α) (a s off:Nat) (v:α) (ds:List α) (h:off+1<=s) :
  (l.set (a+off) v).take a++(((((l.set (a+off) v).drop a).take s).take off++ds++(((l.set (a+off) v).drop a).take s).drop (off+1)))++(l.set (a+off) v).drop (a+s) =
   l.take a++((((l.drop a).take s).take off++ds++((l.drop a).take s).drop (off+1)))++l.drop (a+s):=by
 have e1:(l.set (a+off) v).take a=l.take a:=by
  apply List.ext_getElem?
  intro j
  rw[List.getElem?_take,List.getElem?_take]
  split
  ·rw[List.getElem?_set_ne (by omega)]
  ·rfl
 have e2:(((l.set (a+off) v).drop a).take s).take off=((l.drop a).take s).take off:=by
  apply List.ext_getElem?
  intro j
  simp only[List.getElem?_take,List.getElem?_drop]
  split
  ·rw[List.getElem?_set_ne (by omega)]
  ·rfl
 have e3:(((l.set (a+off) v).drop a).take s).drop (off+1)=((l.drop a).take s).drop (off+1):=by
  apply List.ext_getElem?
  intro j
  simp only[List.getElem?_take,List.getElem?_drop]
  rw[List.getElem?_set_ne (by omega)]
 have e4:(l.set (a+off) v).drop (a+s)=l.drop (a+s):=by
  apply List.ext_getElem?
  intro j
  simp only[List.getElem?_drop]
  rw[List.getElem?_set_ne (by omega)]
 rw[e1,e2,e3,e4]
theorem HC (hT:TabOk P C) (h:Sim g N s a w φ) {ty:TypeId} {x v:Operand} (ho:o.op=.store ty x v) (hop:opW C o s K):yp P g N o a w K:=by
 have hx:=h.eval x
 have hv:=h.eval v
 have hexec:∀{w'},(Instr.storeAt ty (a.eval x) (a.eval v)).run P w=.ok () w'->(execOp a.eval o).run P w=.ok .skip w':=by
  intro w' hu
  simp only[execOp,ho,Sem.run_bind,hu,Result.andThen_ok]
  rfl
 simp only[opW,ho] at hop
 unfold Jb at hop
 obtain⟨u,hu,hop⟩:=aJ hop
 have hf:=hT.ty _ _ hu
 split at hop
 ·rename_i id off e1
  rw[e1] at hx
  cases ha:u.agg with
  | true=>
   simp only[ha,cond_true] at hop
   cases hdp:(C.deep&&(eval s.env v).isAgg u) with
   | true=>
    rw[hdp] at hop
    simp only[cond_true] at hop
    obtain⟨us,k1,k2,k3,k4,k5⟩:=Cb (Bool.and_eq_true_iff.1 hdp).2 hv
    split at hop
    case h_2=>exact hop.elim
    rename_i cs1 hl
    obtain⟨hle,hop⟩:=rZ hop
    have hle:=Nat.le_of_ble_eq_true hle
    simp only[ak] at hx
    obtain⟨b,hφ,e5⟩:=hx _ hl
    obtain⟨⟨b',vs,e0,hb',hg0,hvs,hone⟩,_⟩:=h.blocks id _ hl
    have hb':=hφ.symm.trans hb'
    cases hb'
    have hlen:cs1.length=vs.size:=by
     have:=hvs.length
     simpa using this.symm
    have hrun:=lB (P:=P) hf (o:=off) (cs:=us) hg0 k2 (by rw[k2];omega) k3
    rw[e5,k1] at hexec
    refine⟨undef,_,.top,_,φ,.inr ⟨hexec hrun,rfl⟩,hop,?_,by simp[ak]⟩
    refine h.setBlock (jE w b _) hl hφ ?_ ?_
    ·intro cur e hcur
     rw[hg0] at hcur
     cases hcur
     refine⟨_,setRow_heap w b _ _ _ _ hg0,?_⟩
     simp[k2]
     omega
    ·intro L
     refine⟨⟨b,_,e0,rfl,setRow_heap w b _ _ _ _ hg0,?_,?_⟩,rfl⟩
     ·have h1:=ax.later L _ _ hvs
      have h2:=ax.later L _ _ k4
      have:=jI (n:=off) h1 h2 (by omega)
      rw[k5,<-k2] at this
      simpa using this
     ·intro c hc
      simp only[List.mem_append] at hc
      rcases hc with(hc | hc) | hc
      ·exact hone c (List.mem_of_mem_take hc)
      ·exact k3 c hc
      ·exact hone c (List.mem_of_mem_drop hc)
   | false=>
   rw[hdp] at hop
   simp only[cond_false] at hop
   obtain⟨y,hy,hop⟩:=aJ hop
   obtain⟨hg,cs,hr,e4⟩:=h.iT hv (show s.iT u (eval s.env v)=some (y.1,y.2) from hy)
   split at hop
   ·rename_i cs1 hl
    obtain⟨hle,hop⟩:=rZ hop
    have hle:=Nat.le_of_ble_eq_true hle
    have hx1:=ak.later (qw (w:=w) (g:=g) (φ:=φ) (show s.iT u (eval s.env v)=some (y.1,y.2) from hy)) _ _ hx
    simp only[ak] at hx1
    obtain⟨b,hφ,e5⟩:=hx1 _ hl
    obtain⟨⟨b',vs,e0,hb',hg0,hvs,hone⟩,_⟩:=hg.blocks id _ hl
    have hb':=hφ.symm.trans hb'
    cases hb'
    have hlen:cs1.length=vs.size:=by
     have:=hvs.length
     simpa using this.symm
    have hrun:=lB (P:=P) hf (o:=off) (cs:=cs) hg0 hr.length (by rw[hr.length];omega) hr.one
    rw[e5,e4] at hexec
    refine⟨undef,_,.top,_,φ,.inr ⟨hexec hrun,rfl⟩,hop,?_,by simp[ak]⟩
    have hsp:(spread u y.1).length=u.size:=by
     have:=(qe (S:=aM g) (φ:=φ) (hp:=y.2.hp) hr).length
     rw[<-this,hr.length]
    refine hg.setBlock (jE w b _) hl hφ ?_ ?_
    ·intro cur e hcur
     rw[hg0] at hcur
     cases hcur
     refine⟨_,setRow_heap w b _ _ _ _ hg0,?_⟩
     simp[hr.length]
     omega
    ·intro L
     refine⟨⟨b,_,e0,rfl,setRow_heap w b _ _ _ _ hg0,?_,?_⟩,rfl⟩
     ·have h1:=ax.later L _ _ hvs
      have h2:=qe (S:=aM g) (φ:=φ) (hp:=(y.2.setBlock id (.box (setAt cs1 off (spread u y.1)))).hp) (hr.mono L.imm L.immSame)
      have:=jI (n:=off) h1 h2 (by omega)
      rw[hsp,<-hr.length] at this
      simpa using this
     ·intro c hc
      simp only[List.mem_append] at hc
      rcases hc with(hc | hc) | hc
      ·exact hone c (List.mem_of_mem_take hc)
      ·exact hr.one c hc
      ·exact hone c (List.mem_of_mem_drop hc)
   ·exact hop.elim
  | false=>
   simp only[ha,cond_false] at hop
   split at hop
   ·rename_i cs1 hl
    cases h1:(eval s.env v).one s.hp with
    | false=>simp[h1] at hop
    | true=>
     simp only[h1,cond_true] at hop
     obtain⟨hlt,hop⟩:=rZ hop
     have hlt:=GK hlt
     have hone1:=CM hv h1
     simp only[ak] at hx
     obtain⟨b,hφ,e5⟩:=hx _ hl
     obtain⟨⟨b',vs,e0,hb',hg0,hvs,hone⟩,_⟩:=h.blocks id _ hl
     have hb':=hφ.symm.trans hb'
     cases hb'
     have hlen:cs1.length=vs.size:=by
      have:=hvs.length
      simpa using this.symm
     have hrun:=yq (P:=P) hf ha (o:=off) hg0 (by omega) hone1
     rw[e5] at hexec
     refine⟨undef,_,.top,_,φ,.inr ⟨hexec hrun,rfl⟩,hop,?_,by simp[ak]⟩
     refine h.setBlock (jE w b _) hl hφ ?_ ?_
     ·intro cur e hcur
      rw[hg0] at hcur
      cases hcur
      refine⟨_,setRow_heap w b _ _ _ _ hg0,?_⟩
      simp
      omega
     ·intro L
      refine⟨⟨b,_,e0,rfl,setRow_heap w b _ _ _ _ hg0,?_,?_⟩,rfl⟩
      ·have h1:=ax.later L _ _ hvs
       have h2:=ak.later L _ _ hv
       have h3:ax (w.setRow b (vs.toList.take off++[a.eval v]++vs.toList.drop (off+1)).toArray) (imm g φ (s.setBlock id (.box (setAt cs1 off [eval s.env v]))).hp (w.setRow b (vs.toList.take off++[a.eval v]++vs.toList.drop (off+1)).toArray).heap.size) (aM g) φ
         (s.setBlock id (.box (setAt cs1 off [eval s.env v]))).hp [eval s.env v] [a.eval v]:=by
        simp only[ax];exact⟨_,[],rfl,h2,rfl⟩
       have:=jI (n:=off) h1 h3 (by simp;omega)
       simpa using this
      ·intro c hc
       simp only[List.mem_append] at hc
       rcases hc with(hc | hc) | hc
       ·exact hone c (List.mem_of_mem_take hc)
       ·simp at hc;rw[hc];exact hone1
       ·exact hone c (List.mem_of_mem_drop hc)
   ·exact hop.elim
 ·rename_i id i off e1
  rw[e1] at hx
  have deep:∀{d:Dp} {t:Ty} {xs:List t.D} {y:u.D×St},s.hand u (eval s.env v)=some y->lookup y.2.hp id=some (.arr d t xs)->∀{z:t.D},upd t (nth xs i) off u y.1=some z->K .top (y.2.cR id (.arr .dp t (xs.set i.toNat z))) →
    (∀l:List Value,fz d w (imm g φ s.hp w.heap.size) (φ.sub id) t xs l->∃l1 B0,bG (Tree w t) xs l1 B0/\B0.Nodup/\(∀b∈B0,b∈φ.sub id)/\∀(_:off+u.size<=t.size) (cs:List Value),l1.take (i.toNat * t.size)++((((l1.drop (i.toNat * t.size)).take t.size).take off++cs++((l1.drop (i.toNat * t.size)).take t.size).drop (off+u.size)))++l1.drop (i.toNat * t.size+t.size) =
     l.take (i.toNat * t.size)++((((l.drop (i.toNat * t.size)).take t.size).take off++cs++((l.drop (i.toNat * t.size)).take t.size).drop (off+u.size)))++l.drop (i.toNat * t.size+t.size))->yp P g N o a w K:=by
   intro d t xs y hy hl z hz hop hq
   obtain⟨B',cs,k,hr,e4⟩:=Ad h hv (show s.hand u (eval s.env v)=some (y.1,y.2) from hy)
   have hl0:=k.fH id _ hl
   simp only[ak] at hx
   obtain⟨d',t',xs',b,e2,hφ,h0,hi,e5⟩:=hx _ hl0
   cases e2
   obtain⟨v0,e0,l0,q1,q2,q3⟩:=h.blocks id _ hl0
   obtain⟨l1,B0,q3,q4,q5,hL⟩:=hq l0 q3
   have hi':i.toNat<xs.length:=by omega
   have hnth:nth xs i=xs[i.toNat]:=by
    unfold nth
    rw[List.getD_eq_getElem?_getD,List.getElem?_eq_getElem hi']
    rfl
   rw[hnth] at hz
   obtain⟨B1,E,B2,eB,t1,t2⟩:=bG.at q3 i.toNat hi'
   obtain⟨y0,hy0⟩:=Ec hz
   obtain⟨E1,Ep,E2,eE,_,u2,t4⟩:=we hy0 t1
   rw[e5,e4] at hexec
   rcases q1 with⟨hn0,⟨e6,h00⟩ | ⟨gg,cap,cur,e6,hb0,hgc,hnc,hcm,hcs,htk⟩⟩
   ·omega
   ·have hgb:gg=b:=by
     rw[e6] at q2
     have:=q2.trans hφ
     simpa [Value.ownBlock] using this
    subst hgb
    have hmul:(i.toNat+1) * t.size<=xs.length * t.size:=Nat.mul_le_mul_right _ hi'
    have hmul2:xs.length * t.size<=cap * t.size:=Nat.mul_le_mul_right _ hnc
    rw[Nat.succ_mul] at hmul
    have hrl:=hr.length
    have hrun:=lB (P:=P) hf (o:=i.toNat * t.size+off) (cs:=cs) hgc hr.length (by omega) hr.one
    have hrow:(cur.toList.take (i.toNat * t.size+off)++cs++cur.toList.drop (i.toNat * t.size+off+cs.length)).take (xs.length * t.size) =
      l0.take (i.toNat * t.size)++((((l0.drop (i.toNat * t.size)).take t.size).take off++cs++((l0.drop (i.toNat * t.size)).take t.size).drop (off+u.size)))++l0.drop (i.toNat * t.size+t.size):=by
     rw[<-htk,hrl]
     exact Iq cur.toList cs _ _ t.size off u.size u2 (by omega) (by have hcl:cur.toList.length=cur.size:=Array.length_toList;omega) hrl
    have hB0:∀x,(x∈B1\/x∈E1\/x∈E2\/x∈B2)->x∈B0:=by
     intro x hx
     rw[eB,eE]
     simp only[List.mem_append]
     rcases hx with h | h | h | h<;>simp[h]
    have hmem:∀x,x∈B1++(E1++B'++E2)++B2->x∈B0\/x∈B':=by
     intro x hx
     simp only[List.mem_append] at hx
     rcases hx with(h | (h | h) | h) | h
     ·exact .inl (hB0 x (.inl h))
     ·exact .inl (hB0 x (.inr (.inl h)))
     ·exact .inr h
     ·exact .inl (hB0 x (.inr (.inr (.inl h))))
     ·exact .inl (hB0 x (.inr (.inr (.inr h))))
    have hfreed:∀x∈B',qT s y.2 φ id x:=by
     intro x hx
     obtain⟨j,blk,r1,r2,r3,_⟩:=k.owner x hx
     exact⟨j,blk,r1,r2,.inr r3⟩
    have hdisj:∀x∈B',¬ φ.eI id x:=by
     intro x hx ho
     obtain⟨j,blk,r1,r2,r3,_⟩:=k.owner x hx
     have:=h.inj j id _ _ x r1 hl0 r2 ho
     subst this
     rw[hl] at r3
     cases r3
    have hne:∀x,x∈B0\/x∈B'->x≠gg:=by
     rintro x (hx | hx) rfl
     ·exact h.apart id _ x hl0 hφ (q5 x hx)
     ·exact hdisj x hx (.inl hφ)
    have hnd:(B1++(E1++B'++E2)++B2).Nodup:=by
     rw[eB,eE] at q4
     have hd:∀x,(x∈B1\/x∈E1\/x∈E2\/x∈B2)->x∉B':=fun x hx hin=>hdisj x hin (.inr (q5 x (hB0 x hx)))
     simp only[List.nodup_append,List.mem_append] at q4 ⊢
     obtain⟨⟨n1,⟨⟨n2,n3,n4⟩,n5,n6⟩,n7⟩,n8,n9⟩:=q4
     refine⟨⟨n1,⟨⟨n2,k.nodup,?_⟩,n5,?_⟩,?_⟩,n8,?_⟩
     ·rintro x hx y hy rfl
      exact hd x (.inr (.inl hx)) hy
     ·rintro x hx y hy rfl
      rcases hx with hx | hx
      ·exact n6 x (.inl hx) x hy rfl
      ·exact hd x (.inr (.inr (.inl hy))) hx
     ·rintro x hx y hy rfl
      rcases hy with(hy | hy) | hy
      ·exact n7 x hx x (.inl (.inl hy)) rfl
      ·exact hd x (.inl hx) hy
      ·exact n7 x hx x (.inr hy) rfl
     ·rintro x hx y hy rfl
      rcases hx with hx | (hx | hx) | hx
      ·exact n9 x (.inl hx) x hy rfl
      ·exact n9 x (.inr (.inl (.inl hx))) x hy rfl
      ·exact hd x (.inr (.inr (.inr hy))) hx
      ·exact n9 x (.inr (.inr hx)) x hy rfl
    have hset:bG (Tree (w.setRow gg (cur.toList.take (i.toNat * t.size+off)++cs++cur.toList.drop (i.toNat * t.size+off+cs.length)).toArray) t) (xs.set i.toNat z)
      (l0.take (i.toNat * t.size)++((((l0.drop (i.toNat * t.size)).take t.size).take off++cs++((l0.drop (i.toNat * t.size)).take t.size).drop (off+u.size)))++l0.drop (i.toNat * t.size+t.size)) (B1++(E1++B'++E2)++B2):=by
     rw[<-hL u2 cs]
     refine t2 _ z _ _ (fun x hx=>setRow_other w gg x _ (hne x (.inl (hB0 x (hx.elim .inl (fun h=>.inr (.inr (.inr h)))))))) ?_
     refine t4 y.1 z hz _ cs B' (fun x hx=>setRow_other w gg x _ (hne x (.inl (hB0 x (hx.elim (fun h=>.inr (.inl h)) (fun h=>.inr (.inr (.inl h)))))))) ?_
     exact hr.frame (fun x hx=>setRow_other w gg x _ (hne x (.inr hx)))
    refine⟨undef,_,.top,_,bp φ id (φ id) (B1++(E1++B'++E2)++B2),.inr ⟨hexec hrun,rfl⟩,hop,?_,by simp[ak]⟩
    refine h.qG ⟨k.env,k.fH⟩ hl (by simp) (jE w gg _).p (fun x hx=>by cases hx;exact⟨id,_,hl0,.inl hφ,.inl rfl⟩) (fun x hx=>?_) (fun x hx hin=>?_) (fun x hx cur' e hcur=>?_) (fun L=>?_)
    ·rcases hmem x hx with hx | hx
     ·obtain⟨p1,p2⟩:=h.place id _ x hl0 (.inr (q5 x hx))
      exact⟨by simpa using p1,p2,.inr ⟨id,_,hl0,.inr (q5 x hx),.inl rfl⟩⟩
     ·obtain⟨p1,p2⟩:=k.le h x hx
      exact⟨by simpa using p1,.inl p2,.inr (hfreed x hx)⟩
    ·rw[hφ] at hx
     cases hx
     exact hne gg (hmem gg hin) rfl
    ·rw[hφ] at hx
     cases hx
     rw[hgc] at hcur
     cases hcur
     refine⟨_,setRow_heap w gg _ _ _ _ hgc,?_⟩
     simp[hrl]
     omega
    ·refine⟨v0,e0,_,⟨?_,.inr ⟨gg,cap,_,by rw[List.length_set];exact e6,hb0,setRow_heap w gg _ _ _ _ hgc,by simpa using hnc,hcm,?_,?_⟩⟩,by rw[e6,hφ];rfl,_,hset,hnd,fun _ h=>h⟩
     ·exact hset.length
     ·simp[hrl];omega
     ·simpa using hrow
  split at hop
  ·-- a deep array
   obtain⟨y,hy,hop⟩:=aJ hop
   split at hop
   case h_2=>exact hop.elim
   rename_i t xs hl
   obtain⟨z,hz,hop⟩:=aJ hop
   refine deep hy hl hz hop fun l q=>?_
   obtain⟨B0,q1,q2,q3⟩:=q
   exact⟨l,B0,q1,q2,q3,fun _ _=>rfl⟩
  ·-- a deep array with a hole
   split at hop
   case h_2=>exact hop.elim
   rename_i q
   obtain⟨y,hy,hop⟩:=aJ hop
   split at hop
   case h_2=>exact hop.elim
   rename_i i0 off0 t xs hl
   obtain⟨rfl,hop⟩:=hop
   cases hb:Nat.beq off off0 with
   | false=>rw[hb] at hop;exact hop.elim
   | true=>
    rw[hb] at hop
    have hb:=Nat.eq_of_beq_eq_true hb
    subst hb
    obtain⟨z,hz,hop⟩:=aJ hop
    refine deep hy hl hz hop fun l q=>?_
    obtain⟨B0,q1,q2,q3⟩:=q
    exact⟨_,B0,q1,q2,q3,fun hu cs=>EP l _ _ _ _ cs hu⟩
  ·obtain⟨y,hy,hop⟩:=aJ hop
   obtain⟨hg,cs,hr,e4⟩:=h.iT hv (show s.iT u (eval s.env v)=some (y.1,y.2) from hy)
   split at hop
   case h_2=>exact hop.elim
   rename_i t xs hl
   obtain⟨z,hz,hop⟩:=aJ hop
   have hx1:=ak.later (qw (w:=w) (g:=g) (φ:=φ) (show s.iT u (eval s.env v)=some (y.1,y.2) from hy)) _ _ hx
   simp only[ak] at hx1
   obtain⟨d',t',xs',b,e2,hφ,h0,hi,e5⟩:=hx1 _ hl
   cases e2
   obtain⟨v0,e0,l0,q1,q2,q3,hsub⟩:=hg.blocks id _ hl
   have hn:=qE q3 h0 hi
   obtain⟨u1,u2⟩:=Gx hz hn hr
   have hi':i.toNat<xs.length:=by omega
   have hset:=cK.set q3 i.toNat hi' u1
   rw[e5,e4] at hexec
   rcases q1 with⟨hn0,⟨e6,h00⟩ | ⟨gg,cap,cur,e6,hb0,hgc,hnc,hcm,hcs,htk⟩⟩
   ·omega
   ·have hgb:gg=b:=by
     rw[e6] at q2
     have:=q2.trans hφ
     simpa [Value.ownBlock] using this
    subst hgb
    have hmul:(i.toNat+1) * t.size<=xs.length * t.size:=Nat.mul_le_mul_right _ hi'
    have hmul2:xs.length * t.size<=cap * t.size:=Nat.mul_le_mul_right _ hnc
    rw[Nat.succ_mul] at hmul
    have hrl:=hr.length
    have hrun:=lB (P:=P) hf (o:=i.toNat * t.size+off) (cs:=cs) hgc hr.length (by omega) hr.one
    refine⟨undef,_,.top,_,bp φ id (φ id) [],.inr ⟨hexec hrun,rfl⟩,hop,?_,by simp[ak]⟩
    -- the new cells, seen as a row
    have hrow:(cur.toList.take (i.toNat * t.size+off)++cs++cur.toList.drop (i.toNat * t.size+off+cs.length)).take (xs.length * t.size) =
      l0.take (i.toNat * t.size)++((((l0.drop (i.toNat * t.size)).take t.size).take off++cs++((l0.drop (i.toNat * t.size)).take t.size).drop (off+u.size)))++l0.drop (i.toNat * t.size+t.size):=by
     rw[<-htk,hrl]
     exact Iq cur.toList cs _ _ t.size off u.size u2 (by omega) (by have hcl:cur.toList.length=cur.size:=Array.length_toList;omega) hrl
    refine hg.qG (fu.refl _) hl (by simp) (jE w gg _).p (fun x hx=>by cases hx;exact⟨id,_,hl,.inl hφ,.inl rfl⟩) (fun x hx=>by simp at hx) (fun _ _ h=>by simp at h) (fun x hx cur' e hcur=>?_) (fun L=>?_)
    ·rw[hφ] at hx
     cases hx
     rw[hgc] at hcur
     cases hcur
     refine⟨_,setRow_heap w gg _ _ _ _ hgc,?_⟩
     simp[hrl]
     omega
    ·refine⟨v0,e0,_,⟨?_,.inr ⟨gg,cap,_,by rw[List.length_set];exact e6,hb0,setRow_heap w gg _ _ _ _ hgc,by simpa using hnc,hcm,?_,?_⟩⟩,by rw[e6,hφ];rfl,hset.mono' L.imm L.immSame,rfl⟩
     ·exact hset.length
     ·simp[hrl];omega
     ·simpa using hrow
 ·exact hop.elim
end
end Go.AE
