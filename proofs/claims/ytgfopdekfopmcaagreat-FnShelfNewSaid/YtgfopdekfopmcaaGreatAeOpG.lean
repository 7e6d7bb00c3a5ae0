/- The operations, one by one: zeros appended to nothing, what is cleared, the room of nothing. Seventh part. -/
import Derived.Test.YtgfopdekfopmcaaGreatAeOpF
namespace Go.AE
open Go Go.RowKit
section
variable {P:Program} {C:Ctx} {g:Gl} {N:Nat} {o:Oper} {s:St} {a:Act} {w:World} {φ:Names} {K:AV->St->Prop}
theorem At (hT:TabOk P C) (h:Sim g N s a w φ) {c:Call} {x:Operand} {t:TypeId} (ho:o.op=.call c) (hc:c.callee=.builtin .cap) (hargs:c.args.toList=[x]) (hts:c.argTypes.toList=[t]) (hop:As C t (eval s.env x) s K) :
  ja P g N o a w K:=by
 have hx:=h.eval x
 have ea:c.args=#[x]:=by cases hq:c.args;simp[hq] at hargs;rw[hargs]
 have et:c.argTypes=#[t]:=by cases hq:c.argTypes;simp[hq] at hts;rw[hts]
 have hexec:∀{u} {w':World},(Builtin.cap_ #[t] o.type #[a.eval x]).run P w'=.ok u w'->(execOp a.eval o).run P w'=.ok (.value u) w':=by
  intro u w' hu
  simp[execOp,ho,resolve,hc,invoke,builtin,ea,et,hu]
 unfold As at hop
 split at hop
 case h_2=>exact hop.elim
 rename_i e1
 have h1:=(hT.sl _ _ _ _ _ e1).1
 split at hop
 case h_2=>exact hop.elim
 rename_i e2
 rw[e2] at hx
 simp only[aa] at hx
 rw[hx] at hexec
 exact⟨goInt 0,w,_,s,φ,.inl (hexec (by simp[Builtin.cap_,run_underlying h1])),hop,h,bA ..,Turn.refl w none⟩
theorem oT (w:World) {t u ty e:TypeId} {i:TypeInfo} {z:Value} {sz:Nat} {k:IntKind} (ht:P.underlying t=some (.slice e)) (hu:P.underlying u=some (.int k))
  (hi:P.info? e=some i) (hs:i.size=sz) (hz:i.zero=some z) (hzs:z.cells.size=sz) {m:Nat} (hlim:m * i.bytes<=lim) (hpos:0<i.bytes) (hsz:0<sz) :
  ∃v' w' e',(Builtin.append_ #[t,u] ty #[.slice none 0 0,.int .i64 m]).run P w=.ok v' w'/\w'.rowOf 0 e' sz v' m (madeCells z.cells (m * sz)).toList/\w.grownBy w' none ∧
   (v'.ownBlock=none\/∃b,v'.ownBlock=some b/\w.heap.size<=b/\b<w'.heap.size):=by
 subst hs
 have hnm:=vT hlim hpos
 unfold lim at hlim hnm
 have hml:0+m<=maxLen:=by unfold maxLen;omega
 have hw:IntKind.i64.wrap (m:Int)=(m:Int):=by rw[IntKind.wrap_i64];omega
 have hlimI:((m:Int) * i.bytes)=((m * i.bytes:Nat):Int):=by simp
 have h48':¬(281474976710656<(m:Int) * (i.bytes:Int)):=by rw[hlimI];omega
 by_cases hm:m=0
 ·subst hm
  refine⟨.slice none 0 0,w,e,?_,?_,⟨rfl,rfl,rfl,Nat.le_refl _,fun _ _ _=>rfl⟩,.inl rfl⟩
  ·have hw0:IntKind.i64.wrap 0=0:=by simpa using hw
   simp[Builtin.append_,run_underlying ht,run_underlying hu,sizeOf,typeInfo,hi,asInt,asIntOf,hw0]
  ·have:=World.gn w 0 e i.size
   simpa [madeCells] using this
 ·have h48:¬(281474976710656<Builtin.nextslicecap m 0 * i.bytes):=by
   rw[nextslicecap_zero (by omega)]
   omega
  have h63':¬(9223372036854775807<(m:Int)):=by omega
  have hne:¬(m * i.size=0):=by
   have:=Nat.mul_pos (Nat.pos_of_ne_zero hm) hsz
   omega
  have hcells:Builtin.zeroCells z.cells m=madeCells z.cells (m * i.size):=by
   unfold Builtin.zeroCells madeCells
   rw[hzs]
  obtain⟨r1,r2⟩:=pn w (e:=e) (n:=0) (m:=m) (old:=0) (l:=[]) (news:=(madeCells z.cells (m * i.size)).toList) hzs (by simp) (by simp[size_madeCells]) hml none
  refine⟨_,_,e,?_,by simpa only[Nat.zero_add,List.nil_append] using r1,r2,.inr ⟨w.heap.size,rfl,Nat.le_refl _,by simp⟩⟩
  simp[Builtin.append_,run_underlying ht,run_underlying hu,sizeOf,typeInfo,zeroValue,hi,hz,asInt,asIntOf,Builtin.lenOf,hm,hw,h48',h63',h48,hne,hcells,Question.forced,run_firstCells_none,newRow,grownCap]
  intro hh
  omega
theorem zQ (hT:TabOk P C) (h:Sim g N s a w φ) (hd:Nat.add (o.dst.getD 0) C.off≠base) {c:Call} {x y:Operand} {t u:TypeId} (ho:o.op=.call c) (hc:c.callee=.builtin .append) (hargs:c.args.toList=[x,y]) (hts:c.argTypes.toList=[t,u])
  (hop:yL C t u (eval s.env x) (eval s.env y) (Nat.add (o.dst.getD 0) C.off) s K):qH P g N o a w K:=by
 have hx:=h.eval x
 have hy:=h.eval y
 have ea:c.args=#[x,y]:=by cases hq:c.args;simp[hq] at hargs;rw[hargs]
 have et:c.argTypes=#[t,u]:=by cases hq:c.argTypes;simp[hq] at hts;rw[hts]
 have hexec:∀{v w'},(Builtin.append_ #[t,u] o.type #[a.eval x,a.eval y]).run P w=.ok v w'->(execOp a.eval o).run P w=.ok (.value v) w':=by
  intro v w' hv
  simp[execOp,ho,resolve,hc,invoke,builtin,ea,et,hv]
 unfold yL at hop
 split at hop
 case h_2=>exact hop.elim
 rename_i e t' _ _ e1
 obtain⟨h1,h2⟩:=hT.sl _ _ _ _ _ e1
 have hf:=hT.ty _ _ h2
 split at hop
 case h_2=>exact hop.elim
 rename_i ei hei
 have hpos:=hT.slPos _ _ _ _ _ _ e1 hei
 obtain⟨i,z,hi_,hs,hz,hzc⟩:=hf.info
 obtain⟨i',hi',hby⟩:=hT.bytes _ _ hei
 rw[hi_] at hi'
 cases hi'
 have hzs:z.cells.size=t'.size:=by
  have:=congrArg List.length hzc
  rw[bU] at this
  simpa using this
 split at hop
 case h_2=>exact hop.elim
 rename_i ku _ _ hlu
 have hu:=hT.int _ _ _ _ hlu
 split at hop
 case h_2=>exact hop.elim
 rename_i m e2 e3
 obtain⟨h0,hlim,hop⟩:=hop
 rw[e2] at hx
 simp only[aa] at hx
 rw[e3] at hy
 obtain⟨m',rfl⟩:=Int.eq_ofNat_of_zero_le h0
 rw[hx,fk hy] at hexec
 have hlim':m' * ei.bytes<=lim:=by
  exact Int.ofNat_le.1 (by rw[Int.natCast_mul];exact hlim)
 obtain⟨v',w',e',r1,r2,r3,r4⟩:=oT (P:=P) (ty:=o.type) w h1 hu hi_ hs hz hzs (m:=m') (by rw[hby];exact hlim') (by rw[hby];exact hpos) hf.pos
 have hzl:z.cells=(aG t').toArray:=by rw[<-hzc]
 have hcells:(madeCells z.cells (m' * t'.size)).toList=(List.replicate m' (aG t')).flatten:=by
  rw[hzl,<-bU t']
  exact lZ (aG t') (by rw[bU];exact hf.pos) m'
 rw[hcells] at r2
 obtain⟨q1,q2⟩:=h.nW (id:=Nat.add (o.dst.getD 0) C.off) hd (t:=t') (v0:=.slice none 0 0) (List.replicate m' t'.zero) (by simp[Value.ownBlock]) r3 (by simpa using r2) (dm w _ t' m') (by simpa [Value.ownBlock] using r4)
 exact⟨v',w',_,_,_,.inl (hexec r1),by simpa using hop,q1,q2⟩
theorem zf (hT:TabOk P C) (h:Sim g N s a w φ) {c:Call} {x:Operand} {t:TypeId} (ho:o.op=.call c) (hc:c.callee=.builtin .clear) (hargs:c.args.toList=[x]) (hts:c.argTypes.toList=[t]) (hop:vW C t (eval s.env x) s K) :
  qH P g N o a w K:=by
 have hx:=h.eval x
 have ea:c.args=#[x]:=by cases hq:c.args;simp[hq] at hargs;rw[hargs]
 have et:c.argTypes=#[t]:=by cases hq:c.argTypes;simp[hq] at hts;rw[hts]
 have hexec:∀{u} {w':World},(Builtin.clear_ #[t] o.type #[a.eval x]).run P w=.ok u w'->(execOp a.eval o).run P w=.ok (.value u) w':=by
  intro u w' hu
  simp[execOp,ho,resolve,hc,invoke,builtin,ea,et,hu]
 unfold vW at hop
 split at hop
 case h_2=>exact hop.elim
 rename_i e t' _ _ e1
 obtain⟨h1,h2⟩:=hT.sl _ _ _ _ _ e1
 have hf:=hT.ty _ _ h2
 obtain⟨i,z,hi_,hs,hz,hzc⟩:=hf.info
 have hzs:z.cells.size=t'.size:=by
  have:=congrArg List.length hzc
  rw[bU] at this
  simpa using this
 split at hop
 case h_2=>exact hop.elim
 rename_i id lo hi e2
 rw[e2] at hx
 split at hop
 case h_2=>exact hop.elim
 rename_i t2 xs hl
 split at hop
 case h_2=>exact hop.elim
 rename_i hh _
 cases hh
 simp only[dx] at hop
 simp only[aa] at hx
 obtain⟨d3,t3,xs3,e4,g1,g2,g3,A,c,e5,hc5,g4,g5⟩:=hx _ hl
 cases e4
 rw[e5] at hexec
 obtain⟨v0,e0,l0,q1,q2,q3,hsub⟩:=h.blocks id _ hl
 have hlo:lo.toNat<=hi.toNat:=by omega
 have hhi:hi.toNat<=xs.length:=by omega
 have hn:(hi-lo).toNat=hi.toNat-lo.toNat:=by omega
 have hxl:(xs.take lo.toNat++(List.replicate (hi-lo).toNat t'.zero++xs.drop hi.toNat)).length=xs.length:=by
  simp only[List.length_append,List.length_take,List.length_replicate,List.length_drop]
  omega
 have hrep:∀I,aX (Rep w I t') xs l0->aX (Rep w I t') (xs.take lo.toNat++(List.replicate (hi-lo).toNat t'.zero++xs.drop hi.toNat)) (l0.take (lo.toNat * t'.size)++((List.replicate (hi-lo).toNat (aG t')).flatten++l0.drop (hi.toNat * t'.size))):=
  fun I q=>(q.take lo.toNat).append ((dm w I t' _).append (q.drop hi.toNat))
 by_cases h0:lo=hi
 ·subst h0
  have hz0:(lo-lo).toNat=0:=by omega
  have hsame:xs.take lo.toNat++(List.replicate (lo-lo).toNat t'.zero++xs.drop lo.toNat)=xs:=by
   rw[hz0,List.replicate_zero,List.nil_append,List.take_append_drop]
  rw[hsame] at hop
  rw[hz0] at hexec
  refine⟨.tuple #[],w,.top,_,aI φ id (φ id) [],.inl (hexec ?_),hop,?_,by simp[aa]⟩
  ·cases A<;>simp[Builtin.clear_,run_underlying h1]
  ·refine h.kB (cN.refl s) hl rfl (Turn.refl w none).p (fun b hb=>by cases hb) (fun b hb=>by simp at hb) (fun _ _ h=>by simp at h) (fun b _ cur e hg=>⟨cur,hg,rfl⟩) (fun L=>?_)
   exact⟨v0,e0,l0,q1,q2,q3.mono' L.imm L.immSame,rfl⟩
 ·obtain⟨b,hφ,hA⟩:=g5 (by omega)
  subst hA
  rcases q1 with⟨hn0,⟨e6,h00⟩ | ⟨gg,cap,cur,e6,hb0,hgc,hnc,hcm,hcs,htk⟩⟩
  ·rw[e6] at q2
   rw[hφ] at q2
   cases q2
  have hgb:gg=b:=by
   rw[e6] at q2
   have:=q2.trans hφ
   simpa [Value.ownBlock] using this
  subst hgb
  have hcl:cur.toList.length=cur.size:=Array.length_toList
  have hm1:lo.toNat * t'.size<=hi.toNat * t'.size:=Nat.mul_le_mul_right _ hlo
  have hm2:hi.toNat * t'.size<=xs.length * t'.size:=Nat.mul_le_mul_right _ hhi
  have hm3:xs.length * t'.size<=cap * t'.size:=Nat.mul_le_mul_right _ hnc
  have hzl:z.cells=(aG t').toArray:=by rw[<-hzc]
  have hcells:(Builtin.zeroCells z.cells (hi-lo).toNat).toList=(List.replicate (hi-lo).toNat (aG t')).flatten:=by
   have:Builtin.zeroCells z.cells (hi-lo).toNat=madeCells z.cells ((hi-lo).toNat * t'.size):=by
    unfold Builtin.zeroCells madeCells
    rw[hzs]
   rw[this,hzl,<-bU t']
   exact lZ (aG t') (by rw[bU];exact hf.pos) _
  have hzlen:(List.replicate (hi-lo).toNat (aG t')).flatten.length=(hi-lo).toNat * t'.size:=(dm w (fun _=>True) t' _).length.trans (by simp)
  have hz1:∀v∈(List.replicate (hi-lo).toNat (aG t')).flatten,v.oneCell'=true:=(dm w (fun _=>True) t' _).one
  have hmul:(hi-lo).toNat * t'.size=hi.toNat * t'.size-lo.toNat * t'.size:=by rw[hn,Nat.sub_mul]
  have hst:=run_storeCells_at P gg (lo.toNat * t'.size) e0 (List.replicate (hi-lo).toNat (aG t')).flatten 0 cur w hgc (by rw[hzlen];omega) hz1
  simp only[Nat.add_zero,hzlen] at hst
  have hne:¬(hi-lo).toNat=0:=by omega
  have hpos2:∃k,(hi-lo).toNat=k+1:=⟨(hi-lo).toNat-1,by omega⟩
  obtain⟨k,hk⟩:=hpos2
  have hrow:(cur.toList.take (lo.toNat * t'.size)++(List.replicate (hi-lo).toNat (aG t')).flatten++cur.toList.drop (lo.toNat * t'.size+(hi-lo).toNat * t'.size)).take (xs.length * t'.size) =
    l0.take (lo.toNat * t'.size)++((List.replicate (hi-lo).toNat (aG t')).flatten++l0.drop (hi.toNat * t'.size)):=by
   have e9:lo.toNat * t'.size+(hi-lo).toNat * t'.size=hi.toNat * t'.size:=by omega
   rw[e9,<-htk,List.append_assoc,List.take_append,List.take_append]
   rw[List.take_of_length_le (by rw[List.length_take];omega),List.take_of_length_le (l:=(List.replicate _ _).flatten) (by rw[hzlen,List.length_take];omega)]
   congr 1
   ·rw[List.take_take,Nat.min_eq_left (by omega)]
   ·congr 1
    rw[hzlen,List.length_take,List.drop_take]
    congr 1
    omega
  refine⟨.tuple #[],_,.top,_,aI φ id (φ id) [],.inl (hexec (w':=w.setRow gg (cur.toList.take (lo.toNat * t'.size)++(List.replicate (hi-lo).toNat (aG t')).flatten++cur.toList.drop (lo.toNat * t'.size+(hi-lo).toNat * t'.size)).toArray) ?_),hop,?_,by simp[aa]⟩
  ·rw[<-hcells] at hst
   rw[hk] at hst ⊢
   simp[Builtin.clear_,run_underlying h1,zeroValue,typeInfo,hi_,hz,hst]
   rw[hk] at hcells
   rw[hcells]
  ·refine h.kB (cN.refl s) hl hxl (fB w gg _).p (fun x hx=>by cases hx;exact⟨id,_,hl,.inl hφ,.inl rfl⟩) (fun x hx=>by simp at hx) (fun _ _ h=>by simp at h) (fun x hx cur' e hcur=>?_) (fun L=>?_)
   ·rw[hφ] at hx
    cases hx
    rw[hgc] at hcur
    cases hcur
    refine⟨_,setRow_heap w gg _ _ _ _ hgc,?_⟩
    simp[hzlen]
    omega
   ·have hset:=hrep _ q3
    refine⟨v0,e0,_,⟨?_,.inr ⟨gg,cap,_,by rw[hxl];exact e6,hb0,setRow_heap w gg _ _ _ _ hgc,by rw[hxl];exact hnc,hcm,?_,?_⟩⟩,by rw[e6,hφ];rfl,hset.mono' L.imm L.immSame,rfl⟩
    ·exact hset.length
    ·simp[hzlen];omega
    ·rw[hxl];simpa using hrow
end
end Go.AE
