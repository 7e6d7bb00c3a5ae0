/-
  No cell of these rows narrows 'for every input' (looked for: loops, veiled, ifaces, maps, wideKeys, modest, calm, conditions, laid).
  DERIVED. THE GIVEN ROWS OF THIS SEAT. 6 by the template 'for every input the law returns true; each argument reads behind the call as it read before'; 0 by the template 'total and deterministic' (their statements: YtjakcjmjlfdeoaaGreatTotals.lean).
  GIVEN WITH THE SEED: the statements are not yours to turn. If you find one false, say at which input.
  Laid BY PROGRAM, IN A SANDBOX (cutbox-rows.mjs): the forced cells as the released guide's own fill.sh prints them over the translation 53cc01917f9c220f… (all of the seat's roots in one cut). By AI agents, Wed Nov 11 2026. No macro, syntax, notation, axiom, sorry.
-/
import Derived.Test.YtjakcjmjlfdeoaaGreatChecked
import GoSem.Claim
import GoSem.ClaimJoined
import GoSem.ClaimMapViews
import Derived.JoinedTies
import Derived.KernelRfl
namespace Go.Proofs.YtjakcjmjlfdeoaaGreat
/- THE CELL 'sum', in the pinned program and in every row, IS THE sha256 OF THE DUMP (.gsa) THAT YtjakcjmjlfdeoaaGreatProg.lean LOADS. Nothing in Lean hashes anything: it is a label: what it is worth is what the hold of that sum in a sandbox is worth. -/
noncomputable def Tryz.pinned : Pinned := { name := "ytjakcjmjlfdeoaagreat", sum := "53cc01917f9c220fb7d8e53c5528028e7447b0f8c5116b42876fb9c7639addab", checked := Tryz.checked }
namespace Rows
def none {H : Type} : Left H := { results := [], args := [] }

/-- 'laws.FnWholeOrder': WHATEVER THE INPUT: true; the input reads as it did. -/
def fnWholeOrderSpec : ChangeSpec := { name := "fnWholeOrder", fn := fun _ => fun
  | [d] => { results := [.lit (.bool true)], args := [d] }
  | _ => none }
def fnWholeOrderRow : OpenClaim := { program := "ytjakcjmjlfdeoaagreat", sum := "53cc01917f9c220fb7d8e53c5528028e7447b0f8c5116b42876fb9c7639addab", func := "loop.example/tablehouse/laws.FnWholeOrder", spec := "fnWholeOrder", inPlace := ["slices.overlaps[[]loop.example/tablehouse/impl.Value]"], unfollowed := true, recurses := true, apart := false }
def FnWholeOrderSaid : Prop := fnWholeOrderRow.holds Tryz.pinned (OpenSpec.ofChange fnWholeOrderSpec)

/-- ITS FALSE NEIGHBOUR: 'it returns false'. Refute it at one input. -/
def fnWholeOrderWrong : ChangeSpec := { name := "fnWholeOrder", fn := fun _ => fun
  | [d] => { results := [.lit (.bool false)], args := [d] }
  | _ => none }
def FnWholeOrderWrongFalsely : Prop := fnWholeOrderRow.holds Tryz.pinned (OpenSpec.ofChange fnWholeOrderWrong)

/-- 'laws.FnWholeBestGuard': WHATEVER THE INPUT: true; the input reads as it did. -/
def fnWholeBestGuardSpec : ChangeSpec := { name := "fnWholeBestGuard", fn := fun _ => fun
  | [d] => { results := [.lit (.bool true)], args := [d] }
  | _ => none }
def fnWholeBestGuardRow : OpenClaim := { program := "ytjakcjmjlfdeoaagreat", sum := "53cc01917f9c220fb7d8e53c5528028e7447b0f8c5116b42876fb9c7639addab", func := "loop.example/tablehouse/laws.FnWholeBestGuard", spec := "fnWholeBestGuard", unfollowed := true, recurses := true, apart := false }
def FnWholeBestGuardSaid : Prop := fnWholeBestGuardRow.holds Tryz.pinned (OpenSpec.ofChange fnWholeBestGuardSpec)

/-- ITS FALSE NEIGHBOUR: 'it returns false'. Refute it at one input. -/
def fnWholeBestGuardWrong : ChangeSpec := { name := "fnWholeBestGuard", fn := fun _ => fun
  | [d] => { results := [.lit (.bool false)], args := [d] }
  | _ => none }
def FnWholeBestGuardWrongFalsely : Prop := fnWholeBestGuardRow.holds Tryz.pinned (OpenSpec.ofChange fnWholeBestGuardWrong)

/-- 'laws.FnPlanRows': WHATEVER THE INPUT: true; the input reads as it did. -/
def fnPlanRowsSpec : ChangeSpec := { name := "fnPlanRows", fn := fun _ => fun
  | [d] => { results := [.lit (.bool true)], args := [d] }
  | _ => none }
def fnPlanRowsRow : OpenClaim := { program := "ytjakcjmjlfdeoaagreat", sum := "53cc01917f9c220fb7d8e53c5528028e7447b0f8c5116b42876fb9c7639addab", func := "loop.example/tablehouse/laws.FnPlanRows", spec := "fnPlanRows", unfollowed := true, recurses := true, apart := false }
def FnPlanRowsSaid : Prop := fnPlanRowsRow.holds Tryz.pinned (OpenSpec.ofChange fnPlanRowsSpec)

/-- ITS FALSE NEIGHBOUR: 'it returns false'. Refute it at one input. -/
def fnPlanRowsWrong : ChangeSpec := { name := "fnPlanRows", fn := fun _ => fun
  | [d] => { results := [.lit (.bool false)], args := [d] }
  | _ => none }
def FnPlanRowsWrongFalsely : Prop := fnPlanRowsRow.holds Tryz.pinned (OpenSpec.ofChange fnPlanRowsWrong)

/-- 'laws.FnWholeGuard': WHATEVER THE INPUT: true; the input reads as it did. -/
def fnWholeGuardSpec : ChangeSpec := { name := "fnWholeGuard", fn := fun _ => fun
  | [d] => { results := [.lit (.bool true)], args := [d] }
  | _ => none }
def fnWholeGuardRow : OpenClaim := { program := "ytjakcjmjlfdeoaagreat", sum := "53cc01917f9c220fb7d8e53c5528028e7447b0f8c5116b42876fb9c7639addab", func := "loop.example/tablehouse/laws.FnWholeGuard", spec := "fnWholeGuard", unfollowed := true, recurses := true, apart := false }
def FnWholeGuardSaid : Prop := fnWholeGuardRow.holds Tryz.pinned (OpenSpec.ofChange fnWholeGuardSpec)

/-- ITS FALSE NEIGHBOUR: 'it returns false'. Refute it at one input. -/
def fnWholeGuardWrong : ChangeSpec := { name := "fnWholeGuard", fn := fun _ => fun
  | [d] => { results := [.lit (.bool false)], args := [d] }
  | _ => none }
def FnWholeGuardWrongFalsely : Prop := fnWholeGuardRow.holds Tryz.pinned (OpenSpec.ofChange fnWholeGuardWrong)

/-- 'laws.FnWholeGuardDelta': WHATEVER THE INPUT: true; the input reads as it did. -/
def fnWholeGuardDeltaSpec : ChangeSpec := { name := "fnWholeGuardDelta", fn := fun _ => fun
  | [d] => { results := [.lit (.bool true)], args := [d] }
  | _ => none }
def fnWholeGuardDeltaRow : OpenClaim := { program := "ytjakcjmjlfdeoaagreat", sum := "53cc01917f9c220fb7d8e53c5528028e7447b0f8c5116b42876fb9c7639addab", func := "loop.example/tablehouse/laws.FnWholeGuardDelta", spec := "fnWholeGuardDelta", unfollowed := true, recurses := true, apart := false }
def FnWholeGuardDeltaSaid : Prop := fnWholeGuardDeltaRow.holds Tryz.pinned (OpenSpec.ofChange fnWholeGuardDeltaSpec)

/-- ITS FALSE NEIGHBOUR: 'it returns false'. Refute it at one input. -/
def fnWholeGuardDeltaWrong : ChangeSpec := { name := "fnWholeGuardDelta", fn := fun _ => fun
  | [d] => { results := [.lit (.bool false)], args := [d] }
  | _ => none }
def FnWholeGuardDeltaWrongFalsely : Prop := fnWholeGuardDeltaRow.holds Tryz.pinned (OpenSpec.ofChange fnWholeGuardDeltaWrong)

/-- 'laws.FnSeenRows': WHATEVER THE INPUT: true; the input reads as it did. -/
def fnSeenRowsSpec : ChangeSpec := { name := "fnSeenRows", fn := fun _ => fun
  | [d] => { results := [.lit (.bool true)], args := [d] }
  | _ => none }
def fnSeenRowsRow : OpenClaim := { program := "ytjakcjmjlfdeoaagreat", sum := "53cc01917f9c220fb7d8e53c5528028e7447b0f8c5116b42876fb9c7639addab", func := "loop.example/tablehouse/laws.FnSeenRows", spec := "fnSeenRows", unfollowed := true, recurses := true, apart := false }
def FnSeenRowsSaid : Prop := fnSeenRowsRow.holds Tryz.pinned (OpenSpec.ofChange fnSeenRowsSpec)

/-- ITS FALSE NEIGHBOUR: 'it returns false'. Refute it at one input. -/
def fnSeenRowsWrong : ChangeSpec := { name := "fnSeenRows", fn := fun _ => fun
  | [d] => { results := [.lit (.bool false)], args := [d] }
  | _ => none }
def FnSeenRowsWrongFalsely : Prop := fnSeenRowsRow.holds Tryz.pinned (OpenSpec.ofChange fnSeenRowsWrong)

/- THE SECOND FORM. 'bulk': how many values and letters a reading holds, each counted each time it is reached (what is shared counts as often as it is met; a slice's spare places count too). A statement '..UptoSaid' is the law's where the arguments, and the package variables that the reading takes, are together of bulk at most 1048576: NARROWER than '..Said'. Prove '..Said' where nothing that the law and all that it calls make is longer than what came in: it says more and counts as full. Else prove '..UptoSaid'. A law counts once. -/
mutual
def uptoBulk {H : Type} : DataW H → Nat
  | .lit (.string bytes) => bytes.length + 1
  | .lit _ => 1
  | .nil => 1
  | .ptr d => uptoBulk d + 1
  | .slice elems spare => uptoBulkAll elems + uptoBulkAll spare + 1
  | .agg parts => uptoBulkAll parts + 1
  | .iface _ d => uptoBulk d + 1
  | .map entries => uptoBulkEntries entries + 1
  | .held _ => 1
def uptoBulkAll {H : Type} : List (DataW H) → Nat
  | [] => 0
  | d :: r => uptoBulk d + uptoBulkAll r
def uptoBulkEntries {H : Type} : List (Lit × DataW H) → Nat
  | [] => 0
  | x :: r => uptoBulkEntry x + uptoBulkEntries r
def uptoBulkEntry {H : Type} : Lit × DataW H → Nat
  | (.string bytes, d) => bytes.length + uptoBulk d + 1
  | (_, d) => uptoBulk d + 1
 end
def uptoSmall : (H : Type) → List (DataW H) → Bool := fun _ ds => decide (uptoBulkAll ds ≤ 1048576)
def OpenSpec.upto (s : _root_.Go.ChangeSpec) : _root_.Go.OpenSpec := { _root_.Go.OpenSpec.ofChange s with cond := some uptoSmall }

/-- 'laws.FnWholeOrder', WHERE WHAT IT READS IS OF BULK AT MOST 1048576: true; the input reads as it did. -/
def fnWholeOrderUptoRow : OpenClaim := { program := "ytjakcjmjlfdeoaagreat", sum := "53cc01917f9c220fb7d8e53c5528028e7447b0f8c5116b42876fb9c7639addab", func := "loop.example/tablehouse/laws.FnWholeOrder", spec := "fnWholeOrder", inPlace := ["slices.overlaps[[]loop.example/tablehouse/impl.Value]"], unfollowed := true, recurses := true, apart := false, narrowed := true }
def FnWholeOrderUptoSaid : Prop := fnWholeOrderUptoRow.holds Tryz.pinned (OpenSpec.upto fnWholeOrderSpec)

/-- 'laws.FnWholeBestGuard', WHERE WHAT IT READS IS OF BULK AT MOST 1048576: true; the input reads as it did. -/
def fnWholeBestGuardUptoRow : OpenClaim := { program := "ytjakcjmjlfdeoaagreat", sum := "53cc01917f9c220fb7d8e53c5528028e7447b0f8c5116b42876fb9c7639addab", func := "loop.example/tablehouse/laws.FnWholeBestGuard", spec := "fnWholeBestGuard", unfollowed := true, recurses := true, apart := false, narrowed := true }
def FnWholeBestGuardUptoSaid : Prop := fnWholeBestGuardUptoRow.holds Tryz.pinned (OpenSpec.upto fnWholeBestGuardSpec)

/-- 'laws.FnPlanRows', WHERE WHAT IT READS IS OF BULK AT MOST 1048576: true; the input reads as it did. -/
def fnPlanRowsUptoRow : OpenClaim := { program := "ytjakcjmjlfdeoaagreat", sum := "53cc01917f9c220fb7d8e53c5528028e7447b0f8c5116b42876fb9c7639addab", func := "loop.example/tablehouse/laws.FnPlanRows", spec := "fnPlanRows", unfollowed := true, recurses := true, apart := false, narrowed := true }
def FnPlanRowsUptoSaid : Prop := fnPlanRowsUptoRow.holds Tryz.pinned (OpenSpec.upto fnPlanRowsSpec)

/-- 'laws.FnWholeGuard', WHERE WHAT IT READS IS OF BULK AT MOST 1048576: true; the input reads as it did. -/
def fnWholeGuardUptoRow : OpenClaim := { program := "ytjakcjmjlfdeoaagreat", sum := "53cc01917f9c220fb7d8e53c5528028e7447b0f8c5116b42876fb9c7639addab", func := "loop.example/tablehouse/laws.FnWholeGuard", spec := "fnWholeGuard", unfollowed := true, recurses := true, apart := false, narrowed := true }
def FnWholeGuardUptoSaid : Prop := fnWholeGuardUptoRow.holds Tryz.pinned (OpenSpec.upto fnWholeGuardSpec)

/-- 'laws.FnWholeGuardDelta', WHERE WHAT IT READS IS OF BULK AT MOST 1048576: true; the input reads as it did. -/
def fnWholeGuardDeltaUptoRow : OpenClaim := { program := "ytjakcjmjlfdeoaagreat", sum := "53cc01917f9c220fb7d8e53c5528028e7447b0f8c5116b42876fb9c7639addab", func := "loop.example/tablehouse/laws.FnWholeGuardDelta", spec := "fnWholeGuardDelta", unfollowed := true, recurses := true, apart := false, narrowed := true }
def FnWholeGuardDeltaUptoSaid : Prop := fnWholeGuardDeltaUptoRow.holds Tryz.pinned (OpenSpec.upto fnWholeGuardDeltaSpec)

/-- 'laws.FnSeenRows', WHERE WHAT IT READS IS OF BULK AT MOST 1048576: true; the input reads as it did. -/
def fnSeenRowsUptoRow : OpenClaim := { program := "ytjakcjmjlfdeoaagreat", sum := "53cc01917f9c220fb7d8e53c5528028e7447b0f8c5116b42876fb9c7639addab", func := "loop.example/tablehouse/laws.FnSeenRows", spec := "fnSeenRows", unfollowed := true, recurses := true, apart := false, narrowed := true }
def FnSeenRowsUptoSaid : Prop := fnSeenRowsUptoRow.holds Tryz.pinned (OpenSpec.upto fnSeenRowsSpec)

end Rows
end Go.Proofs.YtjakcjmjlfdeoaaGreat
