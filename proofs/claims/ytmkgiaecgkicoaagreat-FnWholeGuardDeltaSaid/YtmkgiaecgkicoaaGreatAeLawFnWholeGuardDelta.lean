/- The law FnWholeGuardDelta: for every input the call returns true, and each argument reads afterwards as it read before. No condition. -/
import Derived.Test.YtmkgiaecgkicoaaGreatRows
import Derived.Test.YtmkgiaecgkicoaaGreatAeC1
import Derived.WalkKit
import Derived.ProofKit
import Derived.OpenShut
import Derived.ShutString
import Derived.ChangeOld
import Derived.Below
import Derived.SizedLaws
namespace Go.Proofs.YtmkgiaecgkicoaaGreat.fnWholeGuardDelta
open Go Go.AE Go.ChangeShapes Go.WideShapes Go.ChangeAt Go.RowKit
open Go.ChangeMaps (open_string shut_string)
set_option linter.unusedVariables false
theorem own:ownKnob Tryz.prog.godebug=none:=by kernel_rfl
theorem laidOut:laidOutB Tryz.prog=true:=by kernel_rfl
set_option maxRecDepth 100000 in
theorem lifted (os:Os) (started:os.Started) (H:Type) (enc:TypeId×Value->H) :
    ReturnsInHanded {} Tryz.checked os 8 .any (Rows.fnWholeGuardDeltaSpec.pre6 enc Tryz.prog Tryz.f8 Rows.fnWholeGuardDeltaRow.domain false) (Rows.fnWholeGuardDeltaSpec.post enc Tryz.prog Tryz.f8 false true false false):=by
  refine returnsInHanded_of_change_sized (C:=Tryz.checked) own started (by kernel_rfl) Tryz.func8
    (ChangeSpec.witness6 (enc:=enc) (C:=Tryz.checked) false ⟨#[],#[.slice none 0 0],[]⟩ 8 (by kernel_rfl) (by kernel_rfl) (by kernel_rfl) (by kernel_rfl)) ?_
  intro W base args ds gs before hval0 hW hcnd hsz0 _
  have hval:∀(j:Nat) t v,Tryz.f8.params[j]? = some t->args[j]? = some v->Value.okWide Tryz.prog W .any base t v:=hval0
  have hW':=hW
  obtain⟨p,q,hA0,hV,rfl,hfz,hnd⟩:=hW
  have hA:DataW.TrodAll enc Tryz.prog W 0 (fun _=>true) true Tryz.f8.params.toList args.toList ds p:=hA0
  rw[Tryz.params8] at hA hval
  obtain⟨v0,vs0,d0,ds0,p0,q0,hargs,rfl,rfl,h0,r0⟩:=trodAll_cons hA
  obtain⟨rfl,rfl,rfl⟩:=trodAll_nil r0
  obtain rfl:args=#[v0]:=by cases args;simp_all
  obtain⟨rfl,rfl⟩:=trodVars_none hV
  obtain⟨x0,fx0,o0⟩:=open_arg (E:=tab) (shaped_of tab_check) (show Tab.ty tab 43=some (Ty.sl (Ty.int .u8)) by kernel_rfl) (hval 0 43 v0 rfl rfl) h0
  have lt0:∀x∈p0,x.block<W.heap.size:=by obtain⟨m,hm⟩:=h0;exact DataW.trod_lt m _ _ _ hm
  clear hA0 hval0 hsz0
  refine(law_calls con8_ok.2 (args:=[.data (Ty.sl (Ty.int .u8)) x0]) (vals:=[v0]) (W:=W) (args_cons o0 args_nil) (show c8.run [.data (Ty.sl (Ty.int .u8)) x0] [] (fun r _=>r=.data .bool true) from⟨ln_of_fine fx0,(M.bytes_of_fine fx0),rfl⟩)).mono fun e W' ⟨he,bel⟩=>?_
  subst he
  exact⟨_,rfl,_,_,_,[],_,[],hW',trodAll_mk1 (shut_bool Tryz.underlying4 _),(trodAll_cons_mk (Below.trod laidOut (by kernel_rfl) (of_decide_eq_true (by kernel_rfl)) h0 bel lt0) trodAll_mk0),rfl,bel.frame _,fun h=>by cases h⟩
theorem over:Rows.fnWholeGuardDeltaRow.holds Tryz.pinned (OpenSpec.ofChange Rows.fnWholeGuardDeltaSpec):=
  OpenClaim.holds_of_wide 8 Tryz.f8 rfl rfl rfl rfl rfl rfl rfl ⟨rfl,rfl,rfl,rfl,rfl⟩ rfl rfl rfl rfl rfl (by kernel_rfl) Tryz.func8 (by kernel_rfl)
    (of_decide_eq_true (by kernel_rfl)) (by unfold Func.isWrapper;first | (rw[if_pos (by decide +kernel)];kernel_rfl) | (rw[if_neg (by decide +kernel)];exact⟨rfl,rfl⟩))
    (fun os started H enc _=>lifted os started H enc)
end Go.Proofs.YtmkgiaecgkicoaaGreat.fnWholeGuardDelta
namespace Go.Proofs.YtmkgiaecgkicoaaGreat
theorem fnWholeGuardDelta_holds:Rows.FnWholeGuardDeltaSaid:=fnWholeGuardDelta.over
#print axioms fnWholeGuardDelta_holds
end Go.Proofs.YtmkgiaecgkicoaaGreat

