/-
  No cell of these rows narrows 'for every input' (looked for: loops, veiled, ifaces, maps, wideKeys, modest, calm, conditions, laid).
  DERIVED. THE GIVEN ROWS OF THIS SEAT. 6 by the template 'for every input the law returns true; each argument reads behind the call as it read before'; 0 by the template 'total and deterministic' (their statements: YtmkgiaecgkicoaaGreatTotals.lean).
  GIVEN WITH THE SEED: the statements are not yours to turn. If you find one false, say at which input.
  Laid BY PROGRAM, IN A SANDBOX (cutbox-rows.mjs): the forced cells as the released guide's own fill.sh prints them over the translation 37b77451e04e584c… (all of the seat's roots in one cut). By AI agents, Wed Nov 11 2026. No macro, syntax, notation, axiom, sorry.
-/
import Derived.Test.YtmkgiaecgkicoaaGreatChecked
import GoSem.Claim
import GoSem.ClaimJoined
import GoSem.ClaimMapViews
import Derived.JoinedTies
import Derived.KernelRfl
namespace Go.Proofs.YtmkgiaecgkicoaaGreat
/- THE CELL 'sum', in the pinned program and in every row, IS THE sha256 OF THE DUMP (.gsa) THAT YtmkgiaecgkicoaaGreatProg.lean LOADS. Nothing in Lean hashes anything: it is a label: what it is worth is what the hold of that sum in a sandbox is worth. -/
noncomputable def Tryz.pinned : Pinned := { name := "ytmkgiaecgkicoaagreat", sum := "37b77451e04e584c7503e8243e8d1720f273bb56a919f58f4a9b7d19ee77d2a7", checked := Tryz.checked }
namespace Rows
def none {H : Type} : Left H := { results := [], args := [] }

/-- 'laws.FnExactKeptTables': WHATEVER THE INPUT: true; the input reads as it did. -/
def fnExactKeptTablesSpec : ChangeSpec := { name := "fnExactKeptTables", fn := fun _ => fun
  | [d1, d2, d3] => { results := [.lit (.bool true)], args := [d1, d2, d3] }
  | _ => none }
def fnExactKeptTablesRow : OpenClaim := { program := "ytmkgiaecgkicoaagreat", sum := "37b77451e04e584c7503e8243e8d1720f273bb56a919f58f4a9b7d19ee77d2a7", func := "loop.example/tablehouse/laws.FnExactKeptTables", spec := "fnExactKeptTables", unfollowed := true, recurses := true, apart := false }
def FnExactKeptTablesSaid : Prop := fnExactKeptTablesRow.holds Tryz.pinned (OpenSpec.ofChange fnExactKeptTablesSpec)

/-- ITS FALSE NEIGHBOUR: 'it returns false'. Refute it at one input. -/
def fnExactKeptTablesWrong : ChangeSpec := { name := "fnExactKeptTables", fn := fun _ => fun
  | [d1, d2, d3] => { results := [.lit (.bool false)], args := [d1, d2, d3] }
  | _ => none }
def FnExactKeptTablesWrongFalsely : Prop := fnExactKeptTablesRow.holds Tryz.pinned (OpenSpec.ofChange fnExactKeptTablesWrong)

/-- 'laws.FnKeptTables': WHATEVER THE INPUT: true; the input reads as it did. -/
def fnKeptTablesSpec : ChangeSpec := { name := "fnKeptTables", fn := fun _ => fun
  | [d] => { results := [.lit (.bool true)], args := [d] }
  | _ => none }
def fnKeptTablesRow : OpenClaim := { program := "ytmkgiaecgkicoaagreat", sum := "37b77451e04e584c7503e8243e8d1720f273bb56a919f58f4a9b7d19ee77d2a7", func := "loop.example/tablehouse/laws.FnKeptTables", spec := "fnKeptTables", unfollowed := true, recurses := true, apart := false }
def FnKeptTablesSaid : Prop := fnKeptTablesRow.holds Tryz.pinned (OpenSpec.ofChange fnKeptTablesSpec)

/-- ITS FALSE NEIGHBOUR: 'it returns false'. Refute it at one input. -/
def fnKeptTablesWrong : ChangeSpec := { name := "fnKeptTables", fn := fun _ => fun
  | [d] => { results := [.lit (.bool false)], args := [d] }
  | _ => none }
def FnKeptTablesWrongFalsely : Prop := fnKeptTablesRow.holds Tryz.pinned (OpenSpec.ofChange fnKeptTablesWrong)

/-- 'laws.FnBondsAsked': WHATEVER THE INPUT: true; the input reads as it did. -/
def fnBondsAskedSpec : ChangeSpec := { name := "fnBondsAsked", fn := fun _ => fun
  | [d] => { results := [.lit (.bool true)], args := [d] }
  | _ => none }
def fnBondsAskedRow : OpenClaim := { program := "ytmkgiaecgkicoaagreat", sum := "37b77451e04e584c7503e8243e8d1720f273bb56a919f58f4a9b7d19ee77d2a7", func := "loop.example/tablehouse/laws.FnBondsAsked", spec := "fnBondsAsked", unfollowed := true, recurses := true, apart := false }
def FnBondsAskedSaid : Prop := fnBondsAskedRow.holds Tryz.pinned (OpenSpec.ofChange fnBondsAskedSpec)

/-- ITS FALSE NEIGHBOUR: 'it returns false'. Refute it at one input. -/
def fnBondsAskedWrong : ChangeSpec := { name := "fnBondsAsked", fn := fun _ => fun
  | [d] => { results := [.lit (.bool false)], args := [d] }
  | _ => none }
def FnBondsAskedWrongFalsely : Prop := fnBondsAskedRow.holds Tryz.pinned (OpenSpec.ofChange fnBondsAskedWrong)

/-- 'laws.FnExactFollowTables': WHATEVER THE INPUT: true; the input reads as it did. -/
def fnExactFollowTablesSpec : ChangeSpec := { name := "fnExactFollowTables", fn := fun _ => fun
  | [d1, d2, d3] => { results := [.lit (.bool true)], args := [d1, d2, d3] }
  | _ => none }
def fnExactFollowTablesRow : OpenClaim := { program := "ytmkgiaecgkicoaagreat", sum := "37b77451e04e584c7503e8243e8d1720f273bb56a919f58f4a9b7d19ee77d2a7", func := "loop.example/tablehouse/laws.FnExactFollowTables", spec := "fnExactFollowTables", unfollowed := true, recurses := true, apart := false }
def FnExactFollowTablesSaid : Prop := fnExactFollowTablesRow.holds Tryz.pinned (OpenSpec.ofChange fnExactFollowTablesSpec)

/-- ITS FALSE NEIGHBOUR: 'it returns false'. Refute it at one input. -/
def fnExactFollowTablesWrong : ChangeSpec := { name := "fnExactFollowTables", fn := fun _ => fun
  | [d1, d2, d3] => { results := [.lit (.bool false)], args := [d1, d2, d3] }
  | _ => none }
def FnExactFollowTablesWrongFalsely : Prop := fnExactFollowTablesRow.holds Tryz.pinned (OpenSpec.ofChange fnExactFollowTablesWrong)

/-- 'laws.FnFollowTables': WHATEVER THE INPUT: true; the input reads as it did. -/
def fnFollowTablesSpec : ChangeSpec := { name := "fnFollowTables", fn := fun _ => fun
  | [d] => { results := [.lit (.bool true)], args := [d] }
  | _ => none }
def fnFollowTablesRow : OpenClaim := { program := "ytmkgiaecgkicoaagreat", sum := "37b77451e04e584c7503e8243e8d1720f273bb56a919f58f4a9b7d19ee77d2a7", func := "loop.example/tablehouse/laws.FnFollowTables", spec := "fnFollowTables", unfollowed := true, recurses := true, apart := false }
def FnFollowTablesSaid : Prop := fnFollowTablesRow.holds Tryz.pinned (OpenSpec.ofChange fnFollowTablesSpec)

/-- ITS FALSE NEIGHBOUR: 'it returns false'. Refute it at one input. -/
def fnFollowTablesWrong : ChangeSpec := { name := "fnFollowTables", fn := fun _ => fun
  | [d] => { results := [.lit (.bool false)], args := [d] }
  | _ => none }
def FnFollowTablesWrongFalsely : Prop := fnFollowTablesRow.holds Tryz.pinned (OpenSpec.ofChange fnFollowTablesWrong)

/-- 'laws.FnWholeGuardDelta': WHATEVER THE INPUT: true; the input reads as it did. -/
def fnWholeGuardDeltaSpec : ChangeSpec := { name := "fnWholeGuardDelta", fn := fun _ => fun
  | [d] => { results := [.lit (.bool true)], args := [d] }
  | _ => none }
def fnWholeGuardDeltaRow : OpenClaim := { program := "ytmkgiaecgkicoaagreat", sum := "37b77451e04e584c7503e8243e8d1720f273bb56a919f58f4a9b7d19ee77d2a7", func := "loop.example/tablehouse/laws.FnWholeGuardDelta", spec := "fnWholeGuardDelta", unfollowed := true, recurses := true, apart := false }
def FnWholeGuardDeltaSaid : Prop := fnWholeGuardDeltaRow.holds Tryz.pinned (OpenSpec.ofChange fnWholeGuardDeltaSpec)

/-- ITS FALSE NEIGHBOUR: 'it returns false'. Refute it at one input. -/
def fnWholeGuardDeltaWrong : ChangeSpec := { name := "fnWholeGuardDelta", fn := fun _ => fun
  | [d] => { results := [.lit (.bool false)], args := [d] }
  | _ => none }
def FnWholeGuardDeltaWrongFalsely : Prop := fnWholeGuardDeltaRow.holds Tryz.pinned (OpenSpec.ofChange fnWholeGuardDeltaWrong)

/- THE SECOND FORM. 'bulk': how many values and letters a reading holds, each counted each time it is reached (what is shared counts as often as it is met; a slice's spare places count too). A statement '..UptoSaid' is the law's where the arguments, and the package variables that the reading takes, are together of bulk at most 1048576: NARROWER than '..Said'. Prove '..Said' where nothing that the law and all that it calls make is longer than what came in: it says more and counts as full. Else prove '..UptoSaid'. A law counts once. -/
mutual
def uptoBulk {H : Type} : DataW H → Nat
  | .lit (.string bytes) => bytes.length + 1
  | .lit _ => 1
  | .nil => 1
  | .ptr d => uptoBulk d + 1
  | .slice elems spare => uptoBulkAll elems + uptoBulkAll spare + 1
  | .agg parts => uptoBulkAll parts + 1
  | .iface _ d => uptoBulk d + 1
  | .map entries => uptoBulkEntries entries + 1
  | .held _ => 1
def uptoBulkAll {H : Type} : List (DataW H) → Nat
  | [] => 0
  | d :: r => uptoBulk d + uptoBulkAll r
def uptoBulkEntries {H : Type} : List (Lit × DataW H) → Nat
  | [] => 0
  | x :: r => uptoBulkEntry x + uptoBulkEntries r
def uptoBulkEntry {H : Type} : Lit × DataW H → Nat
  | (.string bytes, d) => bytes.length + uptoBulk d + 1
  | (_, d) => uptoBulk d + 1
 end
def uptoSmall : (H : Type) → List (DataW H) → Bool := fun _ ds => decide (uptoBulkAll ds ≤ 1048576)
def OpenSpec.upto (s : _root_.Go.ChangeSpec) : _root_.Go.OpenSpec := { _root_.Go.OpenSpec.ofChange s with cond := some uptoSmall }

/-- 'laws.FnExactKeptTables', WHERE WHAT IT READS IS OF BULK AT MOST 1048576: true; the input reads as it did. -/
def fnExactKeptTablesUptoRow : OpenClaim := { program := "ytmkgiaecgkicoaagreat", sum := "37b77451e04e584c7503e8243e8d1720f273bb56a919f58f4a9b7d19ee77d2a7", func := "loop.example/tablehouse/laws.FnExactKeptTables", spec := "fnExactKeptTables", unfollowed := true, recurses := true, apart := false, narrowed := true }
def FnExactKeptTablesUptoSaid : Prop := fnExactKeptTablesUptoRow.holds Tryz.pinned (OpenSpec.upto fnExactKeptTablesSpec)

/-- 'laws.FnKeptTables', WHERE WHAT IT READS IS OF BULK AT MOST 1048576: true; the input reads as it did. -/
def fnKeptTablesUptoRow : OpenClaim := { program := "ytmkgiaecgkicoaagreat", sum := "37b77451e04e584c7503e8243e8d1720f273bb56a919f58f4a9b7d19ee77d2a7", func := "loop.example/tablehouse/laws.FnKeptTables", spec := "fnKeptTables", unfollowed := true, recurses := true, apart := false, narrowed := true }
def FnKeptTablesUptoSaid : Prop := fnKeptTablesUptoRow.holds Tryz.pinned (OpenSpec.upto fnKeptTablesSpec)

/-- 'laws.FnBondsAsked', WHERE WHAT IT READS IS OF BULK AT MOST 1048576: true; the input reads as it did. -/
def fnBondsAskedUptoRow : OpenClaim := { program := "ytmkgiaecgkicoaagreat", sum := "37b77451e04e584c7503e8243e8d1720f273bb56a919f58f4a9b7d19ee77d2a7", func := "loop.example/tablehouse/laws.FnBondsAsked", spec := "fnBondsAsked", unfollowed := true, recurses := true, apart := false, narrowed := true }
def FnBondsAskedUptoSaid : Prop := fnBondsAskedUptoRow.holds Tryz.pinned (OpenSpec.upto fnBondsAskedSpec)

/-- 'laws.FnExactFollowTables', WHERE WHAT IT READS IS OF BULK AT MOST 1048576: true; the input reads as it did. -/
def fnExactFollowTablesUptoRow : OpenClaim := { program := "ytmkgiaecgkicoaagreat", sum := "37b77451e04e584c7503e8243e8d1720f273bb56a919f58f4a9b7d19ee77d2a7", func := "loop.example/tablehouse/laws.FnExactFollowTables", spec := "fnExactFollowTables", unfollowed := true, recurses := true, apart := false, narrowed := true }
def FnExactFollowTablesUptoSaid : Prop := fnExactFollowTablesUptoRow.holds Tryz.pinned (OpenSpec.upto fnExactFollowTablesSpec)

/-- 'laws.FnFollowTables', WHERE WHAT IT READS IS OF BULK AT MOST 1048576: true; the input reads as it did. -/
def fnFollowTablesUptoRow : OpenClaim := { program := "ytmkgiaecgkicoaagreat", sum := "37b77451e04e584c7503e8243e8d1720f273bb56a919f58f4a9b7d19ee77d2a7", func := "loop.example/tablehouse/laws.FnFollowTables", spec := "fnFollowTables", unfollowed := true, recurses := true, apart := false, narrowed := true }
def FnFollowTablesUptoSaid : Prop := fnFollowTablesUptoRow.holds Tryz.pinned (OpenSpec.upto fnFollowTablesSpec)

/-- 'laws.FnWholeGuardDelta', WHERE WHAT IT READS IS OF BULK AT MOST 1048576: true; the input reads as it did. -/
def fnWholeGuardDeltaUptoRow : OpenClaim := { program := "ytmkgiaecgkicoaagreat", sum := "37b77451e04e584c7503e8243e8d1720f273bb56a919f58f4a9b7d19ee77d2a7", func := "loop.example/tablehouse/laws.FnWholeGuardDelta", spec := "fnWholeGuardDelta", unfollowed := true, recurses := true, apart := false, narrowed := true }
def FnWholeGuardDeltaUptoSaid : Prop := fnWholeGuardDeltaUptoRow.holds Tryz.pinned (OpenSpec.upto fnWholeGuardDeltaSpec)

end Rows
end Go.Proofs.YtmkgiaecgkicoaaGreat
