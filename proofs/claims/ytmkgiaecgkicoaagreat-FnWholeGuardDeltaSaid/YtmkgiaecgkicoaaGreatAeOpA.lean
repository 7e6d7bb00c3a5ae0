/- The operations, one by one: what the abstract step asks for is enough. First part. -/
import Derived.Test.YtmkgiaecgkicoaaGreatAeNorm
import Derived.Laws.Strings
namespace Go.AE
open Go Go.RowKit
structure TabOk (P:Program) (C:Ctx):Prop where
 ty:∀t ty,C.tab.ty t=some ty->TyFact P t ty
 str:∀t s b,lookup C.tab t=some ⟨.val .str,s,b⟩->P.underlying t=some .string
 int:∀t k s b,lookup C.tab t=some ⟨.val (.int k),s,b⟩->P.underlying t=some (.int k)
 sl:∀t e ty s b,lookup C.tab t=some ⟨.sl e ty,s,b⟩->P.underlying t=some (.slice e)/\C.tab.ty e=some ty
 slPos:∀t e ty s b ei,lookup C.tab t=some ⟨.sl e ty,s,b⟩->lookup C.tab e=some ei->0<ei.bytes
 notInt:∀t ti,lookup C.tab t=some ti->(∀k,ti.td≠.val (.int k))->∃d,P.underlying t=some d/\∀k,d≠.int k
 bytes:∀t ti,lookup C.tab t=some ti->∃i,P.info? t=some i/\i.bytes=ti.bytes
 st:∀t fs ty s b,lookup C.tab t=some ⟨.st fs ty,s,b⟩->∃fields:Array Field,P.underlying t=some (.struct fields) ∧
  ∀i off ft nm,fJ fs i=some (off,ft,nm)->∃f,fields[i]? = some f/\f.offset=off/\f.type=ft/\∃j,P.info? ft=some j/\j.size≠0
 places:∀t fs ty s b (fields:Array Field),lookup C.tab t=some ⟨.st fs ty,s,b⟩->P.underlying t=some (.struct fields) →
  ∃pl,fields.toList.mapM (fun f=>(P.info? f.type).map fun i=>(f.offset,i.size))=some pl ∧
   ∀i off ft nm,fJ fs i=some (off,ft,nm)->∃j,P.info? ft=some j/\pl[i]? = some (off,j.size)
 mp:∀t k e ty s b,lookup C.tab t=some ⟨.mp k e ty,s,b⟩->∃kt,P.underlying t=some (.map kt e)/\P.underlying kt=some (.int k)/\∀w,(zeroValue e).run P w=.ok (mkv ty (bq ty)) w
 eq:∀t (ty:Ty),C.cmp t=true->C.tab.ty t=some ty->∀(I:Nat->Prop) (w0 w:World) (x y:ty.D) (cx cy:List Value),Rep w0 I ty x cx->Rep w0 I ty y cy->∀(ox oy:Operand) (b:Bool),
  (do eqGuard (if b then .neq else .eql) t ox oy (mkv ty cx) (mkv ty cy);binOp (if b then .neq else .eql) t (mkv ty cx) (mkv ty cy):Sem Value).run P w=.ok (.bool (if b then !ty.beq x y else ty.beq x y)) w
def yp (P:Program) (g:Gl) (N:Nat) (o:Oper) (a:Act) (w:World) (K:AV->St->Prop):Prop:=
 ∃u w' v s' φ',(((execOp a.eval o).run P w=.ok (.value u) w')\/((execOp a.eval o).run P w=.ok .skip w'/\u=undef))/\K v s'/\Sim g N s' a w' φ' ∧
  ak w' (imm g φ' s'.hp w'.heap.size) (aM g) φ' s'.hp v u
section
variable {P:Program} {C:Ctx} {g:Gl} {N:Nat} {o:Oper} {s:St} {a:Act} {w:World} {φ:Names} {K:AV->St->Prop}
theorem JB (w:World) (I S:Nat->Prop) (φ:Names) (hp:Hp) (v:Value):ak w I S φ hp (HR v) v:=by
 cases v<;>simp only[HR,ak]<;>exact⟨[_],rfl,rfl⟩
theorem Sim.eval (h:Sim g N s a w φ) (x:Operand):ak w (imm g φ s.hp w.heap.size) (aM g) φ s.hp (eval s.env x) (a.eval x):=by
 cases x with
 | tmp t=>exact h.slot t
 | const v=>exact JB ..
 | global n=>simp[AE.eval,ak]
 | func f=>simp only[AE.eval,ak];exact⟨[],rfl,rfl⟩
def cq (P:Program) (g:Gl) (N:Nat) (o:Oper) (a:Act) (w:World) (K:AV->St->Prop):Prop:=
 ∃u v s' φ',(∀w',Turn w w' none->(execOp a.eval o).run P w'=.ok (.value u) w')/\K v s'/\Sim g N s' a w φ'/\ak w (imm g φ' s'.hp w.heap.size) (aM g) φ' s'.hp v u
def eY (S:World->Prop) (P:Program) (g:Gl) (N:Nat) (o:Oper) (a:Act) (w:World) (K:AV->St->Prop):Prop:=
 ∃u v s' φ',(∀w',S w'->(execOp a.eval o).run P w'=.ok (.value u) w')/\K v s'/\Sim g N s' a w φ'/\ak w (imm g φ' s'.hp w.heap.size) (aM g) φ' s'.hp v u
def nN (P:Program) (g:Gl) (N:Nat) (o:Oper) (a:Act) (w:World) (K:AV->St->Prop):Prop:=
 ∃u w' v s' φ',(((execOp a.eval o).run P w=.ok (.value u) w')\/((execOp a.eval o).run P w=.ok .skip w'/\u=undef))/\K v s'/\Sim g N s' a w' φ' ∧
  ak w' (imm g φ' s'.hp w'.heap.size) (aM g) φ' s'.hp v u/\Turn w w' none
theorem nN.done (h:nN P g N o a w K):yp P g N o a w K:=
 let ⟨u,w',v,s',φ',h1,h2,h3,h4,_⟩:=h
 ⟨u,w',v,s',φ',h1,h2,h3,h4⟩
theorem cq.Im (h:cq P g N o a w K):nN P g N o a w K:=
 let ⟨u,v,s',φ',h1,h2,h3,h4⟩:=h
 ⟨u,w,v,s',φ',.inl (h1 w (Turn.refl w none)),h2,h3,h4,Turn.refl w none⟩
theorem cq.done (h:cq P g N o a w K):yp P g N o a w K:=
 let ⟨u,v,s',φ',h1,h2,h3,h4⟩:=h
 ⟨u,w,v,s',φ',.inl (h1 w (Turn.refl w none)),h2,h3,h4⟩
theorem cq.same {u:Value} {v:AV} (h:Sim g N s a w φ) (hr:∀w',Turn w w' none->(execOp a.eval o).run P w'=.ok (.value u) w') (hk:K v s)
  (hv:ak w (imm g φ s.hp w.heap.size) (aM g) φ s.hp v u):cq P g N o a w K:=⟨u,v,s,φ,hr,hk,h,hv⟩
theorem eY.same {S:World->Prop} {u:Value} {v:AV} (h:Sim g N s a w φ) (hr:∀w',S w'->(execOp a.eval o).run P w'=.ok (.value u) w') (hk:K v s)
  (hv:ak w (imm g φ s.hp w.heap.size) (aM g) φ s.hp v u):eY S P g N o a w K:=⟨u,v,s,φ,hr,hk,h,hv⟩
theorem gw {w w':World} {b o:Nat} {cs:List Value} (ht:Turn w w' none) (hb:b<w.heap.size) (h:Cells w b o cs):Cells w' b o cs:=
 h.same fun o=>cN (ht.block b hb (by simp)) o
theorem Sim.wm (h:Sim g N s a w φ) (id:Nat) (hid:id≠base) (d:Dp) (t:Ty):Sim g N (s.create id (.arr d t [])) a w (lX φ id none) ∧
  ak w (imm g (lX φ id none) (s.create id (.arr d t [])).hp w.heap.size) (aM g) (lX φ id none) (s.create id (.arr d t [])).hp (.own id none) (.slice none 0 0):=by
 have hown:w.rowOf 0 0 t.size (.slice none 0 0) 0 []:=World.jD w 0 0 t.size
 refine⟨h.create hid (Turn.refl w none) (by simp) (by simp) (fun _=>⟨.slice none 0 0,0,[],hown,rfl,?_⟩),?_⟩
 ·cases d with
  | sh=>exact⟨rfl,rfl⟩
  | dp=>exact⟨[],⟨rfl,rfl⟩,List.nodup_nil,by simp⟩
  | ho=>exact⟨[],⟨rfl,rfl⟩,List.nodup_nil,by simp⟩
 simp only[ak]
 intro blk hl
 simp only[St.create,lookup_cons,if_true] at hl
 cases hl
 exact⟨d,t,[],rfl,0,[],hown,by simp[lX,bp,Value.ownBlock]⟩
theorem EA {S:World->Prop} (h:Sim g N s a w φ) (hd:Nat.add (o.dst.getD 0) C.off≠base) {x:Operand} (hrun:∀w',S w'->(execOp a.eval o).run P w'=.ok (.value (a.eval x)) w') (hop':BK C o.type (Nat.add (o.dst.getD 0) C.off) (eval s.env x) s K):eY S P g N o a w K:=by
 have hev:=h.eval x
 unfold BK at hop'
 split at hop'
 ·rename_i v hv
  rw[hv] at hev
  split at hop'
  ·split at hop'
   ·simp only[ak] at hev
    obtain⟨h1,h2⟩:=h.wm (Nat.add (o.dst.getD 0) C.off) hd _ ‹Ty›
    exact⟨_,_,_,_,hrun,hop',h1,by rw[hev];exact h2⟩
   ·exact eY.same h hrun hop' hev
  ·rename_i t _ _ _
   unfold cS at hop'
   split at hop'
   ·rename_i y hy
    refine eY.same h hrun hop' ?_
    simp only[ak] at hev ⊢
    obtain⟨cs,hr,e⟩:=iA w (imm g φ s.hp w.heap.size) hy
    exact⟨cs,hr,hev.trans e⟩
   ·exact hop'.elim
  ·exact eY.same h hrun hop' hev
 ·exact eY.same h hrun hop' hev
theorem CF {S:World->Prop} (h:Sim g N s a w φ) (hd:Nat.add (o.dst.getD 0) C.off≠base) {x:Operand} (ho:o.op=.move x\/o.op=.assign x) (hop:opW C o s K):eY S P g N o a w K:=by
 have hrun:∀w',S w'->(execOp a.eval o).run P w'=.ok (.value (a.eval x)) w':=by intro w' _;rcases ho with ho | ho<;>simp[execOp,ho]
 have hev:=h.eval x
 cases hnt:IC x (eval s.env x) with
 | true=>
  rcases ho with ho | ho
  ·simp only[opW,ho,hnt,cond_true] at hop
   exact eY.same h hrun hop hev
  ·have hop':BK C o.type (Nat.add (o.dst.getD 0) C.off) (eval s.env x) s K:=by simpa only[opW,ho] using hop
   exact EA h hd hrun hop'
 | false=>
  have hop':BK C o.type (Nat.add (o.dst.getD 0) C.off) (eval s.env x) s K:=by rcases ho with ho | ho<;>simpa only[opW,ho,hnt,cond_false] using hop
  exact EA h hd hrun hop'
theorem pH {w:World} {I S:Nat->Prop} {φ:Names} {hp:Hp} {b:Bool} {u:Value} (h:ak w I S φ hp (.data .bool b) u):u=.bool b:=by
 simp only[ak] at h
 obtain⟨cs,rfl,rfl⟩:=h
 rfl
theorem jh {w:World} {I S:Nat->Prop} {φ:Names} {hp:Hp} {k:IntKind} {n:Int} {u:Value} (h:ak w I S φ hp (.data (.int k) n) u):u=.int k n:=by
 simp only[ak] at h
 obtain⟨cs,rfl,rfl⟩:=h
 rfl
theorem pP {w:World} {I S:Nat->Prop} {φ:Names} {hp:Hp} {b:ByteArray} {u:Value} (h:ak w I S φ hp (.data .str b) u):u=.string b:=by
 simp only[ak] at h
 obtain⟨cs,rfl,rfl⟩:=h
 rfl
theorem eg (w:World) (I S:Nat->Prop) (φ:Names) (hp:Hp) (b:Bool):ak w I S φ hp (.data .bool b) (.bool b):=by simp only[ak];exact⟨[_],rfl,rfl⟩
theorem cX (w:World) (I S:Nat->Prop) (φ:Names) (hp:Hp) (k:IntKind) (n:Int):ak w I S φ hp (.data (.int k) n) (.int k n):=by simp only[ak];exact⟨[_],rfl,rfl⟩
theorem uS (w:World) (I S:Nat->Prop) (φ:Names) (hp:Hp) (b:ByteArray):ak w I S φ hp (.data .str b) (.string b):=by simp only[ak];exact⟨[_],rfl,rfl⟩
theorem Jq (h:Sim g N s a w φ) {c x y:Operand} (ho:o.op=.pick c x y) (hop:opW C o s K):cq P g N o a w K:=by
 have hc:=h.eval c
 have hx:=h.eval x
 have hy:=h.eval y
 simp only[opW,ho] at hop
 unfold Kf at hop
 split at hop
 ·rename_i b hb
  rw[hb] at hc
  have hc:=pH hc
  have hrun:∀w',Turn w w' none->(execOp a.eval o).run P w'=.ok (.value (if b then a.eval x else a.eval y)) w':=by intro w' _;simp[execOp,ho,hc,asBool]
  split at hop
  ·rename_i t y1 u y2 e1 e2
   split at hop
   ·rename_i hh _
    cases hh
    rw[e1] at hx
    rw[e2] at hy
    refine cq.same h hrun hop ?_
    cases b
    ·exact hy
    ·exact hx
   ·exact hop.elim
  ·cases b
   ·exact cq.same h hrun hop hy
   ·exact cq.same h hrun hop hx
 ·exact hop.elim
theorem mW (k:IntKind) (n:Int):rG k n=k.wrap n:=by
 cases k<;>simp only[rG]
 ·simp only[IntKind.wrap,IntKind.signed,IntKind.bits,wrap32,Bool.true_and]
  by_cases h:n % 2 ^ 32 ≥ 2 ^ (32-1)
  ·rw[if_pos (by simpa using h)];omega
  ·rw[if_neg (by simpa using h)];omega
 ·simp only[IntKind.wrap,IntKind.signed,IntKind.bits,wrap64,Bool.true_and]
  by_cases h:n % 2 ^ 64 ≥ 2 ^ (64-1)
  ·rw[if_pos (by simpa using h)];omega
  ·rw[if_neg (by simpa using h)];omega
 ·simp only[IntKind.wrap,IntKind.signed,IntKind.bits,Bool.false_and];simp
def Jx (Q:AV->Prop) (m:Sem Value) (P:Program):Prop:=∃v u,(∀w:World,m.run P w=.ok u w)/\Q v/\∀(w:World) I S φ hp,ak w I S φ hp v u
theorem Jt {op:BinOp} {t:TypeId} {k:IntKind} {x y:Int} {ox oy:Operand} {Q:AV->Prop} (hw:Fo op k x y Q) (hop:op≠.shl) (hop2:op≠.shr) :
  Jx Q (do eqGuard op t ox oy (.int k x) (.int k y);binOp op t (.int k x) (.int k y):Sem Value) P:=by
 have hg:eqGuard op t ox oy (.int k x) (.int k y)=pure ():=eqGuard_at_int (op:=op) (t:=t) (x:=ox) (y:=oy) (v:=.int k y) k x
 rw[hg]
 cases op<;>simp only[Fo] at hw
 case add=>exact⟨_,.int k (k.wrap (x+y)),fun w=>by simp[binOp,Op.intArith],hw,fun _ I S φ hp=>by rw[mW];exact cX ..⟩
 case sub=>exact⟨_,.int k (k.wrap (x-y)),fun w=>by simp[binOp,Op.intArith],hw,fun _ I S φ hp=>by rw[mW];exact cX ..⟩
 case mul=>exact⟨_,.int k (k.wrap (x * y)),fun w=>by simp[binOp,Op.intArith],hw,fun _ I S φ hp=>by rw[mW];exact cX ..⟩
 case quo=>exact⟨_,.int k (k.wrap (x.tdiv y)),fun w=>by simp[binOp,Op.intDiv,hw.1],hw.2,fun _ I S φ hp=>by rw[mW];exact cX ..⟩
 case rem=>exact⟨_,.int k (x.tmod y),fun w=>by simp[binOp,Op.intDiv,hw.1],hw.2,fun _ I S φ hp=>cX ..⟩
 case eql=>exact⟨_,.bool (decide (x=y)),fun w=>by simp[binOp,Op.intCmp];rfl,hw,fun _ I S φ hp=>eg ..⟩
 case neq=>exact⟨_,.bool (!decide (x=y)),fun w=>by simp[binOp,Op.intCmp,bne];rfl,hw,fun _ I S φ hp=>eg ..⟩
 case lss=>exact⟨_,.bool (decide (x<y)),fun w=>by simp[binOp,Op.intCmp],hw,fun _ I S φ hp=>eg ..⟩
 case leq=>exact⟨_,.bool (decide (x<=y)),fun w=>by simp[binOp,Op.intCmp],hw,fun _ I S φ hp=>eg ..⟩
 case gtr=>exact⟨_,.bool (decide (y<x)),fun w=>by simp[binOp,Op.intCmp],hw,fun _ I S φ hp=>eg ..⟩
 case geq=>exact⟨_,.bool (decide (y<=x)),fun w=>by simp[binOp,Op.intCmp],hw,fun _ I S φ hp=>eg ..⟩
 case and=>exact⟨_,.int k (nY .and k x y),fun w=>by simp[binOp,Op.intBits,nY],hw,fun _ I S φ hp=>cX ..⟩
 case or=>exact⟨_,.int k (nY .or k x y),fun w=>by simp[binOp,Op.intBits,nY],hw,fun _ I S φ hp=>cX ..⟩
 case xor=>exact⟨_,.int k (nY .xor k x y),fun w=>by simp[binOp,Op.intBits,nY],hw,fun _ I S φ hp=>cX ..⟩
 case andNot=>exact⟨_,.int k (nY .andNot k x y),fun w=>by simp[binOp,Op.intBits,nY],hw,fun _ I S φ hp=>cX ..⟩
 case shl=>exact absurd rfl hop
 case shr=>exact absurd rfl hop2
theorem Bw {op:BinOp} {t:TypeId} {k k':IntKind} {x y:Int} {ox oy:Operand} {Q:AV->Prop} (hw:Fo op k x y Q) (hop:op=.shl\/op=.shr) :
  Jx Q (do eqGuard op t ox oy (.int k x) (.int k' y);binOp op t (.int k x) (.int k' y):Sem Value) P:=by
 have hg:eqGuard op t ox oy (.int k x) (.int k' y)=pure ():=eqGuard_at_int (op:=op) (t:=t) (x:=ox) (y:=oy) (v:=.int k' y) k x
 rw[hg]
 rcases hop with rfl | rfl<;>simp only[Fo] at hw
 ·have:¬y<0:=by omega
  exact⟨_,.int k (k.wrap (x * 2 ^ (min y.toNat k.bits))),fun w=>by simp[binOp,Op.shift,this],hw.2,fun _ I S φ hp=>by rw[mW];exact cX ..⟩
 ·have:¬y<0:=by omega
  exact⟨_,.int k (x.fdiv (2 ^ (min y.toNat k.bits))),fun w=>by simp[binOp,Op.shift,this],hw.2,fun _ I S φ hp=>cX ..⟩
theorem toList_inj {x y:ByteArray}:(x.toList==y.toList)=decide (x=y):=by
 rw[ByteArray.toList_eq,ByteArray.toList_eq]
 rw[Bool.eq_iff_iff,beq_iff_eq,decide_eq_true_eq]
 refine⟨fun h=>?_,fun h=>by rw[h]⟩
 cases x
 cases y
 simp only[ByteArray.mk.injEq]
 exact Array.ext' h
theorem JA {op:BinOp} {t:TypeId} {x y:ByteArray} {ox oy:Operand} {Q:AV->Prop} (hw:KM op x y Q) :
  Jx Q (do eqGuard op t ox oy (.string x) (.string y);binOp op t (.string x) (.string y):Sem Value) P:=by
 have hg:eqGuard op t ox oy (.string x) (.string y)=pure ():=eqGuard_at_string (op:=op) (t:=t) (x:=ox) (y:=oy) (v:=.string y) x
 rw[hg]
 have he:=toList_inj (x:=x) (y:=y)
 cases op<;>simp only[KM] at hw
 case add=>
  have:¬(((x.size+y.size:Nat):Int) > IntKind.i64.max):=by simp[IntKind.max,IntKind.signed,IntKind.bits];omega
  exact⟨_,.string (x++y),fun w=>by simp only[binOp,Op.stringOp];rw[if_neg this];rfl,hw.2,fun _ I S φ hp=>uS ..⟩
 case eql=>exact⟨_,.bool (decide (x=y)),fun w=>by simp only[binOp,Op.stringOp,he];rfl,hw,fun _ I S φ hp=>eg ..⟩
 case neq=>exact⟨_,.bool (!decide (x=y)),fun w=>by simp only[binOp,Op.stringOp,he];rfl,hw,fun _ I S φ hp=>eg ..⟩
 case lss=>exact⟨_,.bool (Op.bytesLess x.toList y.toList),fun w=>by simp only[binOp,Op.stringOp];rfl,hw,fun _ I S φ hp=>eg ..⟩
 case leq=>exact⟨_,.bool (Op.bytesLess x.toList y.toList||decide (x=y)),fun w=>by simp only[binOp,Op.stringOp,he];rfl,hw,fun _ I S φ hp=>eg ..⟩
 case gtr=>exact⟨_,.bool (!(Op.bytesLess x.toList y.toList||decide (x=y))),fun w=>by simp only[binOp,Op.stringOp,he];rfl,hw,fun _ I S φ hp=>eg ..⟩
 case geq=>exact⟨_,.bool (!Op.bytesLess x.toList y.toList),fun w=>by simp only[binOp,Op.stringOp];rfl,hw,fun _ I S φ hp=>eg ..⟩
theorem GU {xt:TypeId} {t:Ty} (h:C.JE xt t=true):C.cmp xt=true/\C.tab.ty xt=some t:=by
 unfold Ctx.JE at h
 obtain⟨h1,h2⟩:=Bool.and_eq_true_iff.1 h
 refine⟨h1,?_⟩
 split at h2
 ·rename_i u hu
  rw[hu]
  unfold Ty.same at h2
  split at h2
  ·rename_i hh _;rw[hh.down]
  ·cases h2
 ·cases h2
theorem IM {S:World->Prop} (hT:TabOk P C) (h:Sim g N s a w φ) {op:BinOp} {xt yt:TypeId} {x y:Operand} (ho:o.op=.binOp op xt x y yt) (hop:opW C o s K):eY S P g N o a w K:=by
 have hx:=h.eval x
 have hy:=h.eval y
 have fin:∀{m:Sem Value},(execOp a.eval o)=(do pure (.value (<-m)):Sem Next)->Jx (fun v=>K v s) m P->eY S P g N o a w K:=by
  rintro m hm ⟨v,u,hr,hk,hv⟩
  refine eY.same h (u:=u) ?_ hk (hv _ _ _ _ _)
  intro w' _
  rw[hm]
  simp[hr w']
 have hexec:execOp a.eval o=(do pure (.value (<-(do eqGuard op xt x y (a.eval x) (a.eval y);binOp op xt (a.eval x) (a.eval y):Sem Value))):Sem Next):=by
  unfold execOp;rw[ho]
 simp only[opW,ho] at hop
 unfold Li at hop
 split at hop
 ·rename_i k m k' n e1 e2
  rw[e1] at hx
  rw[e2] at hy
  have hx:=jh hx
  have hy:=jh hy
  rw[hx,hy] at hexec
  split at hop
  ·exact fin hexec (Bw hop (.inl rfl))
  ·exact fin hexec (Bw hop (.inr rfl))
  ·rename_i h1 h2
   obtain⟨hkk,hop⟩:=rZ hop
   have hkk:=of_decide_eq_true hkk
   subst hkk
   exact fin hexec (Jt hop (fun e=>h1 e) (fun e=>h2 e))
 ·rename_i m n e1 e2
  rw[e1] at hx
  rw[e2] at hy
  have hx:=pP hx
  have hy:=pP hy
  rw[hx,hy] at hexec
  exact fin hexec (JA hop)
 ·rename_i t m u n _ _ e1 e2
  rw[e1] at hx
  rw[e2] at hy
  split at hop
  ·rename_i hh _
   cases hh
   cases hc:C.JE xt t with
   | false=>simp[hc] at hop
   | true=>
    simp only[hc,cond_true] at hop
    obtain⟨hc,hty⟩:=GU hc
    simp only[ak] at hx hy
    obtain⟨cx,rx,ex⟩:=hx
    obtain⟨cy,ry,ey⟩:=hy
    rw[ex,ey] at hexec
    split at hop
    ·have:=fun w'=>hT.eq xt t hc hty _ w w' _ _ cx cy rx ry x y false
     exact fin hexec ⟨_,_,this,hop,fun _ I S φ hp=>eg ..⟩
    ·have:=fun w'=>hT.eq xt t hc hty _ w w' _ _ cx cy rx ry x y true
     exact fin hexec ⟨_,_,this,hop,fun _ I S φ hp=>eg ..⟩
    ·exact hop.elim
  ·exact hop.elim
 ·exact hop.elim
end
end Go.AE
