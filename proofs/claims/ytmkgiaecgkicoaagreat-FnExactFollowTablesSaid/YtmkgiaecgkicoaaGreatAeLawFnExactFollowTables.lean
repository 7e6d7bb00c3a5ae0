/- The law FnExactFollowTables: for every input the call returns true, and each argument reads afterwards as it read before. No condition. -/
import Derived.Test.YtmkgiaecgkicoaaGreatRows
import Derived.Test.YtmkgiaecgkicoaaGreatAeC1
import Derived.WalkKit
import Derived.ProofKit
import Derived.OpenShut
import Derived.ShutString
import Derived.ChangeOld
import Derived.Below
import Derived.SizedLaws
namespace Go.Proofs.YtmkgiaecgkicoaaGreat.fnExactFollowTables
open Go Go.AE Go.ChangeShapes Go.WideShapes Go.ChangeAt Go.RowKit
open Go.ChangeMaps (open_string shut_string)
set_option linter.unusedVariables false
theorem own:ownKnob Tryz.prog.godebug=none:=by kernel_rfl
theorem laidOut:laidOutB Tryz.prog=true:=by kernel_rfl
set_option maxRecDepth 100000 in
theorem lifted (os:Os) (started:os.Started) (H:Type) (enc:TypeId×Value->H) :
    ReturnsInHanded {} Tryz.checked os 6 .any (Rows.fnExactFollowTablesSpec.pre6 enc Tryz.prog Tryz.f6 Rows.fnExactFollowTablesRow.domain false) (Rows.fnExactFollowTablesSpec.post enc Tryz.prog Tryz.f6 false true false false):=by
  refine returnsInHanded_of_change_sized (C:=Tryz.checked) own started (by kernel_rfl) Tryz.func6
    (ChangeSpec.witness6 (enc:=enc) (C:=Tryz.checked) false ⟨#[],#[.slice none 0 0,.slice none 0 0,.agg #[.int .i64 0,.slice none 0 0,.bool false]],[]⟩ 8 (by kernel_rfl) (by kernel_rfl) (by kernel_rfl) (by kernel_rfl)) ?_
  intro W base args ds gs before hval0 hW hcnd hsz0 _
  have hval:∀(j:Nat) t v,Tryz.f6.params[j]? = some t->args[j]? = some v->Value.okWide Tryz.prog W .any base t v:=hval0
  have hW':=hW
  obtain⟨p,q,hA0,hV,rfl,hfz,hnd⟩:=hW
  have hA:DataW.TrodAll enc Tryz.prog W 0 (fun _=>true) true Tryz.f6.params.toList args.toList ds p:=hA0
  rw[Tryz.params6] at hA hval
  obtain⟨v0,vs0,d0,ds0,p0,q0,hargs,rfl,rfl,h0,r0⟩:=trodAll_cons hA
  obtain⟨v1,vs1,d1,ds1,p1,q1,rfl,rfl,rfl,h1,r1⟩:=trodAll_cons r0
  obtain⟨v2,vs2,d2,ds2,p2,q2,rfl,rfl,rfl,h2,r2⟩:=trodAll_cons r1
  obtain⟨rfl,rfl,rfl⟩:=trodAll_nil r2
  obtain rfl:args=#[v0,v1,v2]:=by cases args;simp_all
  obtain⟨rfl,rfl⟩:=trodVars_none hV
  obtain⟨x0,fx0,o0⟩:=open_arg (E:=tab) (shaped_of tab_check) (show Tab.ty tab 22=some (Ty.sl TTable) by kernel_rfl) (hval 0 22 v0 rfl rfl) h0
  have lt0:∀x∈p0,x.block<W.heap.size:=by obtain⟨m,hm⟩:=h0;exact DataW.trod_lt m _ _ _ hm
  obtain⟨x1,fx1,o1⟩:=open_arg (E:=tab) (shaped_of tab_check) (show Tab.ty tab 23=some (Ty.sl TBond) by kernel_rfl) (hval 1 23 v1 rfl rfl) h1
  have lt1:∀x∈p1,x.block<W.heap.size:=by obtain⟨m,hm⟩:=h1;exact DataW.trod_lt m _ _ _ hm
  obtain⟨x2,fx2,o2⟩:=open_arg (E:=tab) (shaped_of tab_check) (show Tab.ty tab 64=some TChange by kernel_rfl) (hval 2 64 v2 rfl rfl) h2
  have lt2:∀x∈p2,x.block<W.heap.size:=by obtain⟨m,hm⟩:=h2;exact DataW.trod_lt m _ _ _ hm
  clear hA0 hval0 hsz0
  refine(law_calls con6_ok.2 (args:=[.data (Ty.sl TTable) x0,.data (Ty.sl TBond) x1,.data TChange x2]) (vals:=[v0,v1,v2]) (W:=W) (args_cons o0 (args_cons o1 (args_cons o2 args_nil))) (show c6.run [.data (Ty.sl TTable) x0,.data (Ty.sl TBond) x1,.data TChange x2] [] (fun r _=>r=.data .bool true) from⟨ln_of_fine fx0,ln_of_fine fx1,ln_of_fine fx2,rfl⟩)).mono fun e W' ⟨he,bel⟩=>?_
  subst he
  exact⟨_,rfl,_,_,_,[],_,[],hW',trodAll_mk1 (shut_bool Tryz.underlying4 _),(trodAll_cons_mk (Below.trod laidOut (by kernel_rfl) (of_decide_eq_true (by kernel_rfl)) h0 bel lt0) (trodAll_cons_mk (Below.trod laidOut (by kernel_rfl) (of_decide_eq_true (by kernel_rfl)) h1 bel lt1) (trodAll_cons_mk (Below.trod laidOut (by kernel_rfl) (of_decide_eq_true (by kernel_rfl)) h2 bel lt2) trodAll_mk0))),rfl,bel.frame _,fun h=>by cases h⟩
theorem over:Rows.fnExactFollowTablesRow.holds Tryz.pinned (OpenSpec.ofChange Rows.fnExactFollowTablesSpec):=
  OpenClaim.holds_of_wide 6 Tryz.f6 rfl rfl rfl rfl rfl rfl rfl ⟨rfl,rfl,rfl,rfl,rfl⟩ rfl rfl rfl rfl rfl (by kernel_rfl) Tryz.func6 (by kernel_rfl)
    (of_decide_eq_true (by kernel_rfl)) (by unfold Func.isWrapper;first | (rw[if_pos (by decide +kernel)];kernel_rfl) | (rw[if_neg (by decide +kernel)];exact⟨rfl,rfl⟩))
    (fun os started H enc _=>lifted os started H enc)
end Go.Proofs.YtmkgiaecgkicoaaGreat.fnExactFollowTables
namespace Go.Proofs.YtmkgiaecgkicoaaGreat
theorem fnExactFollowTables_holds:Rows.FnExactFollowTablesSaid:=fnExactFollowTables.over
#print axioms fnExactFollowTables_holds
end Go.Proofs.YtmkgiaecgkicoaaGreat

