/-
  No cell of these rows narrows 'for every input' (looked for: loops, veiled, ifaces, maps, wideKeys, modest, calm, conditions, laid).
  DERIVED. THE GIVEN ROWS OF THIS SEAT. 6 by the template 'for every input the law returns true; each argument reads behind the call as it read before'; 0 by the template 'total and deterministic' (their statements: YtiplhefglgpdoaaGreatTotals.lean).
  GIVEN WITH THE SEED: the statements are not yours to turn. If you find one false, say at which input.
  Laid BY PROGRAM, IN A SANDBOX (cutbox-rows.mjs): the forced cells as the released guide's own fill.sh prints them over the translation 77ba3f1df798e102… (all of the seat's roots in one cut). By AI agents, Wed Nov 11 2026. No macro, syntax, notation, axiom, sorry.
-/
import Derived.Test.YtiplhefglgpdoaaGreatChecked
import GoSem.Claim
import GoSem.ClaimJoined
import GoSem.ClaimMapViews
import Derived.JoinedTies
import Derived.KernelRfl
namespace Go.Proofs.YtiplhefglgpdoaaGreat
/- THE CELL 'sum', in the pinned program and in every row, IS THE sha256 OF THE DUMP (.gsa) THAT YtiplhefglgpdoaaGreatProg.lean LOADS. Nothing in Lean hashes anything: it is a label: what it is worth is what the hold of that sum in a sandbox is worth. -/
noncomputable def Tryz.pinned : Pinned := { name := "ytiplhefglgpdoaagreat", sum := "77ba3f1df798e102be8395a1f4a8c4a2c6878ae262a16939beec0c4140ed8e35", checked := Tryz.checked }
namespace Rows
def none {H : Type} : Left H := { results := [], args := [] }

/-- 'laws.FnExprFolded': WHATEVER THE INPUT: true; the input reads as it did. -/
def fnExprFoldedSpec : ChangeSpec := { name := "fnExprFolded", fn := fun _ => fun
  | [d] => { results := [.lit (.bool true)], args := [d] }
  | _ => none }
def fnExprFoldedRow : OpenClaim := { program := "ytiplhefglgpdoaagreat", sum := "77ba3f1df798e102be8395a1f4a8c4a2c6878ae262a16939beec0c4140ed8e35", func := "loop.example/tablehouse/laws.FnExprFolded", spec := "fnExprFolded", unfollowed := true, recurses := true, apart := false }
def FnExprFoldedSaid : Prop := fnExprFoldedRow.holds Tryz.pinned (OpenSpec.ofChange fnExprFoldedSpec)

/-- ITS FALSE NEIGHBOUR: 'it returns false'. Refute it at one input. -/
def fnExprFoldedWrong : ChangeSpec := { name := "fnExprFolded", fn := fun _ => fun
  | [d] => { results := [.lit (.bool false)], args := [d] }
  | _ => none }
def FnExprFoldedWrongFalsely : Prop := fnExprFoldedRow.holds Tryz.pinned (OpenSpec.ofChange fnExprFoldedWrong)

/-- 'laws.FnPlanTidy': WHATEVER THE INPUT: true; the input reads as it did. -/
def fnPlanTidySpec : ChangeSpec := { name := "fnPlanTidy", fn := fun _ => fun
  | [d] => { results := [.lit (.bool true)], args := [d] }
  | _ => none }
def fnPlanTidyRow : OpenClaim := { program := "ytiplhefglgpdoaagreat", sum := "77ba3f1df798e102be8395a1f4a8c4a2c6878ae262a16939beec0c4140ed8e35", func := "loop.example/tablehouse/laws.FnPlanTidy", spec := "fnPlanTidy", unfollowed := true, recurses := true, apart := false }
def FnPlanTidySaid : Prop := fnPlanTidyRow.holds Tryz.pinned (OpenSpec.ofChange fnPlanTidySpec)

/-- ITS FALSE NEIGHBOUR: 'it returns false'. Refute it at one input. -/
def fnPlanTidyWrong : ChangeSpec := { name := "fnPlanTidy", fn := fun _ => fun
  | [d] => { results := [.lit (.bool false)], args := [d] }
  | _ => none }
def FnPlanTidyWrongFalsely : Prop := fnPlanTidyRow.holds Tryz.pinned (OpenSpec.ofChange fnPlanTidyWrong)

/-- 'laws.FnPlanTables': WHATEVER THE INPUT: true; the input reads as it did. -/
def fnPlanTablesSpec : ChangeSpec := { name := "fnPlanTables", fn := fun _ => fun
  | [d] => { results := [.lit (.bool true)], args := [d] }
  | _ => none }
def fnPlanTablesRow : OpenClaim := { program := "ytiplhefglgpdoaagreat", sum := "77ba3f1df798e102be8395a1f4a8c4a2c6878ae262a16939beec0c4140ed8e35", func := "loop.example/tablehouse/laws.FnPlanTables", spec := "fnPlanTables", unfollowed := true, recurses := true, apart := false }
def FnPlanTablesSaid : Prop := fnPlanTablesRow.holds Tryz.pinned (OpenSpec.ofChange fnPlanTablesSpec)

/-- ITS FALSE NEIGHBOUR: 'it returns false'. Refute it at one input. -/
def fnPlanTablesWrong : ChangeSpec := { name := "fnPlanTables", fn := fun _ => fun
  | [d] => { results := [.lit (.bool false)], args := [d] }
  | _ => none }
def FnPlanTablesWrongFalsely : Prop := fnPlanTablesRow.holds Tryz.pinned (OpenSpec.ofChange fnPlanTablesWrong)

/-- 'laws.FnPlanTurned': WHATEVER THE INPUT: true; the input reads as it did. -/
def fnPlanTurnedSpec : ChangeSpec := { name := "fnPlanTurned", fn := fun _ => fun
  | [d] => { results := [.lit (.bool true)], args := [d] }
  | _ => none }
def fnPlanTurnedRow : OpenClaim := { program := "ytiplhefglgpdoaagreat", sum := "77ba3f1df798e102be8395a1f4a8c4a2c6878ae262a16939beec0c4140ed8e35", func := "loop.example/tablehouse/laws.FnPlanTurned", spec := "fnPlanTurned", unfollowed := true, recurses := true, apart := false }
def FnPlanTurnedSaid : Prop := fnPlanTurnedRow.holds Tryz.pinned (OpenSpec.ofChange fnPlanTurnedSpec)

/-- ITS FALSE NEIGHBOUR: 'it returns false'. Refute it at one input. -/
def fnPlanTurnedWrong : ChangeSpec := { name := "fnPlanTurned", fn := fun _ => fun
  | [d] => { results := [.lit (.bool false)], args := [d] }
  | _ => none }
def FnPlanTurnedWrongFalsely : Prop := fnPlanTurnedRow.holds Tryz.pinned (OpenSpec.ofChange fnPlanTurnedWrong)

/-- 'laws.FnPlanBest': WHATEVER THE INPUT: true; the input reads as it did. -/
def fnPlanBestSpec : ChangeSpec := { name := "fnPlanBest", fn := fun _ => fun
  | [d] => { results := [.lit (.bool true)], args := [d] }
  | _ => none }
def fnPlanBestRow : OpenClaim := { program := "ytiplhefglgpdoaagreat", sum := "77ba3f1df798e102be8395a1f4a8c4a2c6878ae262a16939beec0c4140ed8e35", func := "loop.example/tablehouse/laws.FnPlanBest", spec := "fnPlanBest", unfollowed := true, recurses := true, apart := false }
def FnPlanBestSaid : Prop := fnPlanBestRow.holds Tryz.pinned (OpenSpec.ofChange fnPlanBestSpec)

/-- ITS FALSE NEIGHBOUR: 'it returns false'. Refute it at one input. -/
def fnPlanBestWrong : ChangeSpec := { name := "fnPlanBest", fn := fun _ => fun
  | [d] => { results := [.lit (.bool false)], args := [d] }
  | _ => none }
def FnPlanBestWrongFalsely : Prop := fnPlanBestRow.holds Tryz.pinned (OpenSpec.ofChange fnPlanBestWrong)

/-- 'laws.FnPlanGuarded': WHATEVER THE INPUT: true; the input reads as it did. -/
def fnPlanGuardedSpec : ChangeSpec := { name := "fnPlanGuarded", fn := fun _ => fun
  | [d] => { results := [.lit (.bool true)], args := [d] }
  | _ => none }
def fnPlanGuardedRow : OpenClaim := { program := "ytiplhefglgpdoaagreat", sum := "77ba3f1df798e102be8395a1f4a8c4a2c6878ae262a16939beec0c4140ed8e35", func := "loop.example/tablehouse/laws.FnPlanGuarded", spec := "fnPlanGuarded", unfollowed := true, recurses := true, apart := false }
def FnPlanGuardedSaid : Prop := fnPlanGuardedRow.holds Tryz.pinned (OpenSpec.ofChange fnPlanGuardedSpec)

/-- ITS FALSE NEIGHBOUR: 'it returns false'. Refute it at one input. -/
def fnPlanGuardedWrong : ChangeSpec := { name := "fnPlanGuarded", fn := fun _ => fun
  | [d] => { results := [.lit (.bool false)], args := [d] }
  | _ => none }
def FnPlanGuardedWrongFalsely : Prop := fnPlanGuardedRow.holds Tryz.pinned (OpenSpec.ofChange fnPlanGuardedWrong)

/- THE SECOND FORM. 'bulk': how many values and letters a reading holds, each counted each time it is reached (what is shared counts as often as it is met; a slice's spare places count too). A statement '..UptoSaid' is the law's where the arguments, and the package variables that the reading takes, are together of bulk at most 1048576: NARROWER than '..Said'. Prove '..Said' where nothing that the law and all that it calls make is longer than what came in: it says more and counts as full. Else prove '..UptoSaid'. A law counts once. -/
mutual
def uptoBulk {H : Type} : DataW H → Nat
  | .lit (.string bytes) => bytes.length + 1
  | .lit _ => 1
  | .nil => 1
  | .ptr d => uptoBulk d + 1
  | .slice elems spare => uptoBulkAll elems + uptoBulkAll spare + 1
  | .agg parts => uptoBulkAll parts + 1
  | .iface _ d => uptoBulk d + 1
  | .map entries => uptoBulkEntries entries + 1
  | .held _ => 1
def uptoBulkAll {H : Type} : List (DataW H) → Nat
  | [] => 0
  | d :: r => uptoBulk d + uptoBulkAll r
def uptoBulkEntries {H : Type} : List (Lit × DataW H) → Nat
  | [] => 0
  | x :: r => uptoBulkEntry x + uptoBulkEntries r
def uptoBulkEntry {H : Type} : Lit × DataW H → Nat
  | (.string bytes, d) => bytes.length + uptoBulk d + 1
  | (_, d) => uptoBulk d + 1
 end
def uptoSmall : (H : Type) → List (DataW H) → Bool := fun _ ds => decide (uptoBulkAll ds ≤ 1048576)
def OpenSpec.upto (s : _root_.Go.ChangeSpec) : _root_.Go.OpenSpec := { _root_.Go.OpenSpec.ofChange s with cond := some uptoSmall }

/-- 'laws.FnExprFolded', WHERE WHAT IT READS IS OF BULK AT MOST 1048576: true; the input reads as it did. -/
def fnExprFoldedUptoRow : OpenClaim := { program := "ytiplhefglgpdoaagreat", sum := "77ba3f1df798e102be8395a1f4a8c4a2c6878ae262a16939beec0c4140ed8e35", func := "loop.example/tablehouse/laws.FnExprFolded", spec := "fnExprFolded", unfollowed := true, recurses := true, apart := false, narrowed := true }
def FnExprFoldedUptoSaid : Prop := fnExprFoldedUptoRow.holds Tryz.pinned (OpenSpec.upto fnExprFoldedSpec)

/-- 'laws.FnPlanTidy', WHERE WHAT IT READS IS OF BULK AT MOST 1048576: true; the input reads as it did. -/
def fnPlanTidyUptoRow : OpenClaim := { program := "ytiplhefglgpdoaagreat", sum := "77ba3f1df798e102be8395a1f4a8c4a2c6878ae262a16939beec0c4140ed8e35", func := "loop.example/tablehouse/laws.FnPlanTidy", spec := "fnPlanTidy", unfollowed := true, recurses := true, apart := false, narrowed := true }
def FnPlanTidyUptoSaid : Prop := fnPlanTidyUptoRow.holds Tryz.pinned (OpenSpec.upto fnPlanTidySpec)

/-- 'laws.FnPlanTables', WHERE WHAT IT READS IS OF BULK AT MOST 1048576: true; the input reads as it did. -/
def fnPlanTablesUptoRow : OpenClaim := { program := "ytiplhefglgpdoaagreat", sum := "77ba3f1df798e102be8395a1f4a8c4a2c6878ae262a16939beec0c4140ed8e35", func := "loop.example/tablehouse/laws.FnPlanTables", spec := "fnPlanTables", unfollowed := true, recurses := true, apart := false, narrowed := true }
def FnPlanTablesUptoSaid : Prop := fnPlanTablesUptoRow.holds Tryz.pinned (OpenSpec.upto fnPlanTablesSpec)

/-- 'laws.FnPlanTurned', WHERE WHAT IT READS IS OF BULK AT MOST 1048576: true; the input reads as it did. -/
def fnPlanTurnedUptoRow : OpenClaim := { program := "ytiplhefglgpdoaagreat", sum := "77ba3f1df798e102be8395a1f4a8c4a2c6878ae262a16939beec0c4140ed8e35", func := "loop.example/tablehouse/laws.FnPlanTurned", spec := "fnPlanTurned", unfollowed := true, recurses := true, apart := false, narrowed := true }
def FnPlanTurnedUptoSaid : Prop := fnPlanTurnedUptoRow.holds Tryz.pinned (OpenSpec.upto fnPlanTurnedSpec)

/-- 'laws.FnPlanBest', WHERE WHAT IT READS IS OF BULK AT MOST 1048576: true; the input reads as it did. -/
def fnPlanBestUptoRow : OpenClaim := { program := "ytiplhefglgpdoaagreat", sum := "77ba3f1df798e102be8395a1f4a8c4a2c6878ae262a16939beec0c4140ed8e35", func := "loop.example/tablehouse/laws.FnPlanBest", spec := "fnPlanBest", unfollowed := true, recurses := true, apart := false, narrowed := true }
def FnPlanBestUptoSaid : Prop := fnPlanBestUptoRow.holds Tryz.pinned (OpenSpec.upto fnPlanBestSpec)

/-- 'laws.FnPlanGuarded', WHERE WHAT IT READS IS OF BULK AT MOST 1048576: true; the input reads as it did. -/
def fnPlanGuardedUptoRow : OpenClaim := { program := "ytiplhefglgpdoaagreat", sum := "77ba3f1df798e102be8395a1f4a8c4a2c6878ae262a16939beec0c4140ed8e35", func := "loop.example/tablehouse/laws.FnPlanGuarded", spec := "fnPlanGuarded", unfollowed := true, recurses := true, apart := false, narrowed := true }
def FnPlanGuardedUptoSaid : Prop := fnPlanGuardedUptoRow.holds Tryz.pinned (OpenSpec.upto fnPlanGuardedSpec)

end Rows
end Go.Proofs.YtiplhefglgpdoaaGreat
