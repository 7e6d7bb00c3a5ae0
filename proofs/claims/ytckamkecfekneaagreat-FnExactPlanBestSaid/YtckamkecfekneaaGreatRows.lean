/-
  No cell of these rows narrows 'for every input' (looked for: loops, veiled, ifaces, maps, wideKeys, modest, calm, conditions, laid).
  DERIVED. THE GIVEN ROWS OF THIS SEAT. 4 by the template 'for every input the law returns true; each argument reads behind the call as it read before'; 0 by the template 'total and deterministic' (their statements: YtckamkecfekneaaGreatTotals.lean).
  GIVEN WITH THE SEED: the statements are not yours to turn. If you find one false, say at which input.
  Laid BY PROGRAM, IN A SANDBOX (cutbox-rows.mjs): the forced cells as the released guide's own fill.sh prints them over the translation 087ebc192621a8e4… (all of the seat's roots in one cut). By AI agents, Wed Nov 11 2026. No macro, syntax, notation, axiom, sorry.
-/
import Derived.Test.YtckamkecfekneaaGreatChecked
import GoSem.Claim
import GoSem.ClaimJoined
import GoSem.ClaimMapViews
import Derived.JoinedTies
import Derived.KernelRfl
namespace Go.Proofs.YtckamkecfekneaaGreat
/- THE CELL 'sum', in the pinned program and in every row, IS THE sha256 OF THE DUMP (.gsa) THAT YtckamkecfekneaaGreatProg.lean LOADS. Nothing in Lean hashes anything: it is a label: what it is worth is what the hold of that sum in a sandbox is worth. -/
noncomputable def Tryz.pinned : Pinned := { name := "ytckamkecfekneaagreat", sum := "087ebc192621a8e442edaf559f547f47380bbd169bee80b8ed8bac67302342f2", checked := Tryz.checked }
namespace Rows
def none {H : Type} : Left H := { results := [], args := [] }

/-- 'laws.FnExactPlanRows': WHATEVER THE INPUT: true; the input reads as it did. -/
def fnExactPlanRowsSpec : ChangeSpec := { name := "fnExactPlanRows", fn := fun _ => fun
  | [d1, d2] => { results := [.lit (.bool true)], args := [d1, d2] }
  | _ => none }
def fnExactPlanRowsRow : OpenClaim := { program := "ytckamkecfekneaagreat", sum := "087ebc192621a8e442edaf559f547f47380bbd169bee80b8ed8bac67302342f2", func := "loop.example/tablehouse/laws.FnExactPlanRows", spec := "fnExactPlanRows", unfollowed := true, recurses := true, apart := false }
def FnExactPlanRowsSaid : Prop := fnExactPlanRowsRow.holds Tryz.pinned (OpenSpec.ofChange fnExactPlanRowsSpec)

/-- ITS FALSE NEIGHBOUR: 'it returns false'. Refute it at one input. -/
def fnExactPlanRowsWrong : ChangeSpec := { name := "fnExactPlanRows", fn := fun _ => fun
  | [d1, d2] => { results := [.lit (.bool false)], args := [d1, d2] }
  | _ => none }
def FnExactPlanRowsWrongFalsely : Prop := fnExactPlanRowsRow.holds Tryz.pinned (OpenSpec.ofChange fnExactPlanRowsWrong)

/-- 'laws.FnExactPlanTables': WHATEVER THE INPUT: true; the input reads as it did. -/
def fnExactPlanTablesSpec : ChangeSpec := { name := "fnExactPlanTables", fn := fun _ => fun
  | [d1, d2] => { results := [.lit (.bool true)], args := [d1, d2] }
  | _ => none }
def fnExactPlanTablesRow : OpenClaim := { program := "ytckamkecfekneaagreat", sum := "087ebc192621a8e442edaf559f547f47380bbd169bee80b8ed8bac67302342f2", func := "loop.example/tablehouse/laws.FnExactPlanTables", spec := "fnExactPlanTables", unfollowed := true, recurses := true, apart := false }
def FnExactPlanTablesSaid : Prop := fnExactPlanTablesRow.holds Tryz.pinned (OpenSpec.ofChange fnExactPlanTablesSpec)

/-- ITS FALSE NEIGHBOUR: 'it returns false'. Refute it at one input. -/
def fnExactPlanTablesWrong : ChangeSpec := { name := "fnExactPlanTables", fn := fun _ => fun
  | [d1, d2] => { results := [.lit (.bool false)], args := [d1, d2] }
  | _ => none }
def FnExactPlanTablesWrongFalsely : Prop := fnExactPlanTablesRow.holds Tryz.pinned (OpenSpec.ofChange fnExactPlanTablesWrong)

/-- 'laws.FnExactPlanTurned': WHATEVER THE INPUT: true; the input reads as it did. -/
def fnExactPlanTurnedSpec : ChangeSpec := { name := "fnExactPlanTurned", fn := fun _ => fun
  | [d1, d2, d3, d4] => { results := [.lit (.bool true)], args := [d1, d2, d3, d4] }
  | _ => none }
def fnExactPlanTurnedRow : OpenClaim := { program := "ytckamkecfekneaagreat", sum := "087ebc192621a8e442edaf559f547f47380bbd169bee80b8ed8bac67302342f2", func := "loop.example/tablehouse/laws.FnExactPlanTurned", spec := "fnExactPlanTurned", unfollowed := true, recurses := true, apart := false }
def FnExactPlanTurnedSaid : Prop := fnExactPlanTurnedRow.holds Tryz.pinned (OpenSpec.ofChange fnExactPlanTurnedSpec)

/-- ITS FALSE NEIGHBOUR: 'it returns false'. Refute it at one input. -/
def fnExactPlanTurnedWrong : ChangeSpec := { name := "fnExactPlanTurned", fn := fun _ => fun
  | [d1, d2, d3, d4] => { results := [.lit (.bool false)], args := [d1, d2, d3, d4] }
  | _ => none }
def FnExactPlanTurnedWrongFalsely : Prop := fnExactPlanTurnedRow.holds Tryz.pinned (OpenSpec.ofChange fnExactPlanTurnedWrong)

/-- 'laws.FnExactPlanBest': WHATEVER THE INPUT: true; the input reads as it did. -/
def fnExactPlanBestSpec : ChangeSpec := { name := "fnExactPlanBest", fn := fun _ => fun
  | [d1, d2] => { results := [.lit (.bool true)], args := [d1, d2] }
  | _ => none }
def fnExactPlanBestRow : OpenClaim := { program := "ytckamkecfekneaagreat", sum := "087ebc192621a8e442edaf559f547f47380bbd169bee80b8ed8bac67302342f2", func := "loop.example/tablehouse/laws.FnExactPlanBest", spec := "fnExactPlanBest", unfollowed := true, recurses := true, apart := false }
def FnExactPlanBestSaid : Prop := fnExactPlanBestRow.holds Tryz.pinned (OpenSpec.ofChange fnExactPlanBestSpec)

/-- ITS FALSE NEIGHBOUR: 'it returns false'. Refute it at one input. -/
def fnExactPlanBestWrong : ChangeSpec := { name := "fnExactPlanBest", fn := fun _ => fun
  | [d1, d2] => { results := [.lit (.bool false)], args := [d1, d2] }
  | _ => none }
def FnExactPlanBestWrongFalsely : Prop := fnExactPlanBestRow.holds Tryz.pinned (OpenSpec.ofChange fnExactPlanBestWrong)

/- THE SECOND FORM. 'bulk': how many values and letters a reading holds, each counted each time it is reached (what is shared counts as often as it is met; a slice's spare places count too). A statement '..UptoSaid' is the law's where the arguments, and the package variables that the reading takes, are together of bulk at most 1048576: NARROWER than '..Said'. Prove '..Said' where nothing that the law and all that it calls make is longer than what came in: it says more and counts as full. Else prove '..UptoSaid'. A law counts once. -/
mutual
def uptoBulk {H : Type} : DataW H → Nat
  | .lit (.string bytes) => bytes.length + 1
  | .lit _ => 1
  | .nil => 1
  | .ptr d => uptoBulk d + 1
  | .slice elems spare => uptoBulkAll elems + uptoBulkAll spare + 1
  | .agg parts => uptoBulkAll parts + 1
  | .iface _ d => uptoBulk d + 1
  | .map entries => uptoBulkEntries entries + 1
  | .held _ => 1
def uptoBulkAll {H : Type} : List (DataW H) → Nat
  | [] => 0
  | d :: r => uptoBulk d + uptoBulkAll r
def uptoBulkEntries {H : Type} : List (Lit × DataW H) → Nat
  | [] => 0
  | x :: r => uptoBulkEntry x + uptoBulkEntries r
def uptoBulkEntry {H : Type} : Lit × DataW H → Nat
  | (.string bytes, d) => bytes.length + uptoBulk d + 1
  | (_, d) => uptoBulk d + 1
 end
def uptoSmall : (H : Type) → List (DataW H) → Bool := fun _ ds => decide (uptoBulkAll ds ≤ 1048576)
def OpenSpec.upto (s : _root_.Go.ChangeSpec) : _root_.Go.OpenSpec := { _root_.Go.OpenSpec.ofChange s with cond := some uptoSmall }

/-- 'laws.FnExactPlanRows', WHERE WHAT IT READS IS OF BULK AT MOST 1048576: true; the input reads as it did. -/
def fnExactPlanRowsUptoRow : OpenClaim := { program := "ytckamkecfekneaagreat", sum := "087ebc192621a8e442edaf559f547f47380bbd169bee80b8ed8bac67302342f2", func := "loop.example/tablehouse/laws.FnExactPlanRows", spec := "fnExactPlanRows", unfollowed := true, recurses := true, apart := false, narrowed := true }
def FnExactPlanRowsUptoSaid : Prop := fnExactPlanRowsUptoRow.holds Tryz.pinned (OpenSpec.upto fnExactPlanRowsSpec)

/-- 'laws.FnExactPlanTables', WHERE WHAT IT READS IS OF BULK AT MOST 1048576: true; the input reads as it did. -/
def fnExactPlanTablesUptoRow : OpenClaim := { program := "ytckamkecfekneaagreat", sum := "087ebc192621a8e442edaf559f547f47380bbd169bee80b8ed8bac67302342f2", func := "loop.example/tablehouse/laws.FnExactPlanTables", spec := "fnExactPlanTables", unfollowed := true, recurses := true, apart := false, narrowed := true }
def FnExactPlanTablesUptoSaid : Prop := fnExactPlanTablesUptoRow.holds Tryz.pinned (OpenSpec.upto fnExactPlanTablesSpec)

/-- 'laws.FnExactPlanTurned', WHERE WHAT IT READS IS OF BULK AT MOST 1048576: true; the input reads as it did. -/
def fnExactPlanTurnedUptoRow : OpenClaim := { program := "ytckamkecfekneaagreat", sum := "087ebc192621a8e442edaf559f547f47380bbd169bee80b8ed8bac67302342f2", func := "loop.example/tablehouse/laws.FnExactPlanTurned", spec := "fnExactPlanTurned", unfollowed := true, recurses := true, apart := false, narrowed := true }
def FnExactPlanTurnedUptoSaid : Prop := fnExactPlanTurnedUptoRow.holds Tryz.pinned (OpenSpec.upto fnExactPlanTurnedSpec)

/-- 'laws.FnExactPlanBest', WHERE WHAT IT READS IS OF BULK AT MOST 1048576: true; the input reads as it did. -/
def fnExactPlanBestUptoRow : OpenClaim := { program := "ytckamkecfekneaagreat", sum := "087ebc192621a8e442edaf559f547f47380bbd169bee80b8ed8bac67302342f2", func := "loop.example/tablehouse/laws.FnExactPlanBest", spec := "fnExactPlanBest", unfollowed := true, recurses := true, apart := false, narrowed := true }
def FnExactPlanBestUptoSaid : Prop := fnExactPlanBestUptoRow.holds Tryz.pinned (OpenSpec.upto fnExactPlanBestSpec)

end Rows
end Go.Proofs.YtckamkecfekneaaGreat
