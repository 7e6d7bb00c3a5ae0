/-
  No cell of these rows narrows 'for every input' (looked for: loops, veiled, ifaces, maps, wideKeys, modest, calm, conditions, laid).
  DERIVED. THE GIVEN ROWS OF THIS SEAT. 4 by the template 'for every input the law returns true; each argument reads behind the call as it read before'; 0 by the template 'total and deterministic' (their statements: YtgfcmofoaglfkaaGreatTotals.lean).
  GIVEN WITH THE SEED: the statements are not yours to turn. If you find one false, say at which input.
  Laid BY PROGRAM, IN A SANDBOX (cutbox-rows.mjs): the forced cells as the released guide's own fill.sh prints them over the translation 0f505c1c8a1af613… (all of the seat's roots in one cut). By AI agents, Wed Nov 11 2026. No macro, syntax, notation, axiom, sorry.
-/
import Derived.Test.YtgfcmofoaglfkaaGreatChecked
import GoSem.Claim
import GoSem.ClaimJoined
import GoSem.ClaimMapViews
import Derived.JoinedTies
import Derived.KernelRfl
namespace Go.Proofs.YtgfcmofoaglfkaaGreat
/- THE CELL 'sum', in the pinned program and in every row, IS THE sha256 OF THE DUMP (.gsa) THAT YtgfcmofoaglfkaaGreatProg.lean LOADS. Nothing in Lean hashes anything: it is a label: what it is worth is what the hold of that sum in a sandbox is worth. -/
noncomputable def Tryz.pinned : Pinned := { name := "ytgfcmofoaglfkaagreat", sum := "0f505c1c8a1af6132d39e7606bfa2c66717ac813462c6e364a89ddf53cb94372", checked := Tryz.checked }
namespace Rows
def none {H : Type} : Left H := { results := [], args := [] }

/-- 'laws.FnExactPlanTidy': WHATEVER THE INPUT: true; the input reads as it did. -/
def fnExactPlanTidySpec : ChangeSpec := { name := "fnExactPlanTidy", fn := fun _ => fun
  | [d1, d2] => { results := [.lit (.bool true)], args := [d1, d2] }
  | _ => none }
def fnExactPlanTidyRow : OpenClaim := { program := "ytgfcmofoaglfkaagreat", sum := "0f505c1c8a1af6132d39e7606bfa2c66717ac813462c6e364a89ddf53cb94372", func := "loop.example/tablehouse/laws.FnExactPlanTidy", spec := "fnExactPlanTidy", unfollowed := true, recurses := true, apart := false }
def FnExactPlanTidySaid : Prop := fnExactPlanTidyRow.holds Tryz.pinned (OpenSpec.ofChange fnExactPlanTidySpec)

/-- ITS FALSE NEIGHBOUR: 'it returns false'. Refute it at one input. -/
def fnExactPlanTidyWrong : ChangeSpec := { name := "fnExactPlanTidy", fn := fun _ => fun
  | [d1, d2] => { results := [.lit (.bool false)], args := [d1, d2] }
  | _ => none }
def FnExactPlanTidyWrongFalsely : Prop := fnExactPlanTidyRow.holds Tryz.pinned (OpenSpec.ofChange fnExactPlanTidyWrong)

/-- 'laws.FnExactTablesSeen': WHATEVER THE INPUT: true; the input reads as it did. -/
def fnExactTablesSeenSpec : ChangeSpec := { name := "fnExactTablesSeen", fn := fun _ => fun
  | [d1, d2] => { results := [.lit (.bool true)], args := [d1, d2] }
  | _ => none }
def fnExactTablesSeenRow : OpenClaim := { program := "ytgfcmofoaglfkaagreat", sum := "0f505c1c8a1af6132d39e7606bfa2c66717ac813462c6e364a89ddf53cb94372", func := "loop.example/tablehouse/laws.FnExactTablesSeen", spec := "fnExactTablesSeen", unfollowed := true, recurses := true, apart := false }
def FnExactTablesSeenSaid : Prop := fnExactTablesSeenRow.holds Tryz.pinned (OpenSpec.ofChange fnExactTablesSeenSpec)

/-- ITS FALSE NEIGHBOUR: 'it returns false'. Refute it at one input. -/
def fnExactTablesSeenWrong : ChangeSpec := { name := "fnExactTablesSeen", fn := fun _ => fun
  | [d1, d2] => { results := [.lit (.bool false)], args := [d1, d2] }
  | _ => none }
def FnExactTablesSeenWrongFalsely : Prop := fnExactTablesSeenRow.holds Tryz.pinned (OpenSpec.ofChange fnExactTablesSeenWrong)

/-- 'laws.FnExactBondsHold': WHATEVER THE INPUT: true; the input reads as it did. -/
def fnExactBondsHoldSpec : ChangeSpec := { name := "fnExactBondsHold", fn := fun _ => fun
  | [d1, d2] => { results := [.lit (.bool true)], args := [d1, d2] }
  | _ => none }
def fnExactBondsHoldRow : OpenClaim := { program := "ytgfcmofoaglfkaagreat", sum := "0f505c1c8a1af6132d39e7606bfa2c66717ac813462c6e364a89ddf53cb94372", func := "loop.example/tablehouse/laws.FnExactBondsHold", spec := "fnExactBondsHold", unfollowed := true, recurses := true, apart := false }
def FnExactBondsHoldSaid : Prop := fnExactBondsHoldRow.holds Tryz.pinned (OpenSpec.ofChange fnExactBondsHoldSpec)

/-- ITS FALSE NEIGHBOUR: 'it returns false'. Refute it at one input. -/
def fnExactBondsHoldWrong : ChangeSpec := { name := "fnExactBondsHold", fn := fun _ => fun
  | [d1, d2] => { results := [.lit (.bool false)], args := [d1, d2] }
  | _ => none }
def FnExactBondsHoldWrongFalsely : Prop := fnExactBondsHoldRow.holds Tryz.pinned (OpenSpec.ofChange fnExactBondsHoldWrong)

/-- 'laws.FnExactPlanRows': WHATEVER THE INPUT: true; the input reads as it did. -/
def fnExactPlanRowsSpec : ChangeSpec := { name := "fnExactPlanRows", fn := fun _ => fun
  | [d1, d2] => { results := [.lit (.bool true)], args := [d1, d2] }
  | _ => none }
def fnExactPlanRowsRow : OpenClaim := { program := "ytgfcmofoaglfkaagreat", sum := "0f505c1c8a1af6132d39e7606bfa2c66717ac813462c6e364a89ddf53cb94372", func := "loop.example/tablehouse/laws.FnExactPlanRows", spec := "fnExactPlanRows", unfollowed := true, recurses := true, apart := false }
def FnExactPlanRowsSaid : Prop := fnExactPlanRowsRow.holds Tryz.pinned (OpenSpec.ofChange fnExactPlanRowsSpec)

/-- ITS FALSE NEIGHBOUR: 'it returns false'. Refute it at one input. -/
def fnExactPlanRowsWrong : ChangeSpec := { name := "fnExactPlanRows", fn := fun _ => fun
  | [d1, d2] => { results := [.lit (.bool false)], args := [d1, d2] }
  | _ => none }
def FnExactPlanRowsWrongFalsely : Prop := fnExactPlanRowsRow.holds Tryz.pinned (OpenSpec.ofChange fnExactPlanRowsWrong)

/- THE SECOND FORM. 'bulk': how many values and letters a reading holds, each counted each time it is reached (what is shared counts as often as it is met; a slice's spare places count too). A statement '..UptoSaid' is the law's where the arguments, and the package variables that the reading takes, are together of bulk at most 1048576: NARROWER than '..Said'. Prove '..Said' where nothing that the law and all that it calls make is longer than what came in: it says more and counts as full. Else prove '..UptoSaid'. A law counts once. -/
mutual
def uptoBulk {H : Type} : DataW H → Nat
  | .lit (.string bytes) => bytes.length + 1
  | .lit _ => 1
  | .nil => 1
  | .ptr d => uptoBulk d + 1
  | .slice elems spare => uptoBulkAll elems + uptoBulkAll spare + 1
  | .agg parts => uptoBulkAll parts + 1
  | .iface _ d => uptoBulk d + 1
  | .map entries => uptoBulkEntries entries + 1
  | .held _ => 1
def uptoBulkAll {H : Type} : List (DataW H) → Nat
  | [] => 0
  | d :: r => uptoBulk d + uptoBulkAll r
def uptoBulkEntries {H : Type} : List (Lit × DataW H) → Nat
  | [] => 0
  | x :: r => uptoBulkEntry x + uptoBulkEntries r
def uptoBulkEntry {H : Type} : Lit × DataW H → Nat
  | (.string bytes, d) => bytes.length + uptoBulk d + 1
  | (_, d) => uptoBulk d + 1
 end
def uptoSmall : (H : Type) → List (DataW H) → Bool := fun _ ds => decide (uptoBulkAll ds ≤ 1048576)
def OpenSpec.upto (s : _root_.Go.ChangeSpec) : _root_.Go.OpenSpec := { _root_.Go.OpenSpec.ofChange s with cond := some uptoSmall }

/-- 'laws.FnExactPlanTidy', WHERE WHAT IT READS IS OF BULK AT MOST 1048576: true; the input reads as it did. -/
def fnExactPlanTidyUptoRow : OpenClaim := { program := "ytgfcmofoaglfkaagreat", sum := "0f505c1c8a1af6132d39e7606bfa2c66717ac813462c6e364a89ddf53cb94372", func := "loop.example/tablehouse/laws.FnExactPlanTidy", spec := "fnExactPlanTidy", unfollowed := true, recurses := true, apart := false, narrowed := true }
def FnExactPlanTidyUptoSaid : Prop := fnExactPlanTidyUptoRow.holds Tryz.pinned (OpenSpec.upto fnExactPlanTidySpec)

/-- 'laws.FnExactTablesSeen', WHERE WHAT IT READS IS OF BULK AT MOST 1048576: true; the input reads as it did. -/
def fnExactTablesSeenUptoRow : OpenClaim := { program := "ytgfcmofoaglfkaagreat", sum := "0f505c1c8a1af6132d39e7606bfa2c66717ac813462c6e364a89ddf53cb94372", func := "loop.example/tablehouse/laws.FnExactTablesSeen", spec := "fnExactTablesSeen", unfollowed := true, recurses := true, apart := false, narrowed := true }
def FnExactTablesSeenUptoSaid : Prop := fnExactTablesSeenUptoRow.holds Tryz.pinned (OpenSpec.upto fnExactTablesSeenSpec)

/-- 'laws.FnExactBondsHold', WHERE WHAT IT READS IS OF BULK AT MOST 1048576: true; the input reads as it did. -/
def fnExactBondsHoldUptoRow : OpenClaim := { program := "ytgfcmofoaglfkaagreat", sum := "0f505c1c8a1af6132d39e7606bfa2c66717ac813462c6e364a89ddf53cb94372", func := "loop.example/tablehouse/laws.FnExactBondsHold", spec := "fnExactBondsHold", unfollowed := true, recurses := true, apart := false, narrowed := true }
def FnExactBondsHoldUptoSaid : Prop := fnExactBondsHoldUptoRow.holds Tryz.pinned (OpenSpec.upto fnExactBondsHoldSpec)

/-- 'laws.FnExactPlanRows', WHERE WHAT IT READS IS OF BULK AT MOST 1048576: true; the input reads as it did. -/
def fnExactPlanRowsUptoRow : OpenClaim := { program := "ytgfcmofoaglfkaagreat", sum := "0f505c1c8a1af6132d39e7606bfa2c66717ac813462c6e364a89ddf53cb94372", func := "loop.example/tablehouse/laws.FnExactPlanRows", spec := "fnExactPlanRows", unfollowed := true, recurses := true, apart := false, narrowed := true }
def FnExactPlanRowsUptoSaid : Prop := fnExactPlanRowsUptoRow.holds Tryz.pinned (OpenSpec.upto fnExactPlanRowsSpec)

end Rows
end Go.Proofs.YtgfcmofoaglfkaaGreat
