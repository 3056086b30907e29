/-
  NARROWER THAN 'FOR EVERY INPUT', by the rows' own cells (each row's printed sentence says how): PlacementMinimal: loops · PlacementBudget: loops · PlacementGrows: loops.
  DERIVED. THE GIVEN ROWS OF THIS SEAT. 3 by the template 'for every input the law returns true; each argument reads behind the call as it read before'; 0 by the template 'total and deterministic' (their statements: YtakgiamhdpgoeaaGreatTotals.lean).
  GIVEN WITH THE SEED: the statements are not yours to turn. If you find one false, say at which input.
  Laid BY PROGRAM, IN A SANDBOX (cutbox-rows.mjs): the forced cells as the released guide's own fill.sh prints them over the translation 0e3c9ab45726b603… (all of the seat's roots in one cut). By AI agents, Wed Nov 11 2026. No macro, syntax, notation, axiom, sorry.
-/
import Derived.Test.YtakgiamhdpgoeaaGreatChecked
import GoSem.Claim
import GoSem.ClaimJoined
import GoSem.ClaimMapViews
import Derived.JoinedTies
import Derived.KernelRfl
namespace Go.Proofs.YtakgiamhdpgoeaaGreat
/- THE CELL 'sum', in the pinned program and in every row, IS THE sha256 OF THE DUMP (.gsa) THAT YtakgiamhdpgoeaaGreatProg.lean LOADS. Nothing in Lean hashes anything: it is a label: what it is worth is what the hold of that sum in a sandbox is worth. -/
noncomputable def Tryz.pinned : Pinned := { name := "ytakgiamhdpgoeaagreat", sum := "0e3c9ab45726b6039f81de0d9ced4c5bf1cd50644603e488d719c7b7157b2ec8", checked := Tryz.checked }
namespace Rows
def none {H : Type} : Left H := { results := [], args := [] }

/-- 'patchbaylaw35.PlacementMinimal': WHATEVER THE INPUT: true; the input reads as it did. -/
def placementMinimalSpec : ChangeSpec := { name := "placementMinimal", fn := fun _ => fun
  | [d1, d2] => { results := [.lit (.bool true)], args := [d1, d2] }
  | _ => none }
def placementMinimalRow : OpenClaim := { program := "ytakgiamhdpgoeaagreat", sum := "0e3c9ab45726b6039f81de0d9ced4c5bf1cd50644603e488d719c7b7157b2ec8", func := "patchbay/patchbaylaw35.PlacementMinimal", spec := "placementMinimal", unfollowed := true, recurses := true, loops := true, apart := false }
def PlacementMinimalSaid : Prop := placementMinimalRow.holds Tryz.pinned (OpenSpec.ofChange placementMinimalSpec)

/-- ITS FALSE NEIGHBOUR: 'it returns false'. Refute it at one input. -/
def placementMinimalWrong : ChangeSpec := { name := "placementMinimal", fn := fun _ => fun
  | [d1, d2] => { results := [.lit (.bool false)], args := [d1, d2] }
  | _ => none }
def PlacementMinimalWrongFalsely : Prop := placementMinimalRow.holds Tryz.pinned (OpenSpec.ofChange placementMinimalWrong)

/-- 'patchbaylaw35.PlacementBudget': WHATEVER THE INPUT: true; the input reads as it did. -/
def placementBudgetSpec : ChangeSpec := { name := "placementBudget", fn := fun _ => fun
  | [d1, d2, d3] => { results := [.lit (.bool true)], args := [d1, d2, d3] }
  | _ => none }
def placementBudgetRow : OpenClaim := { program := "ytakgiamhdpgoeaagreat", sum := "0e3c9ab45726b6039f81de0d9ced4c5bf1cd50644603e488d719c7b7157b2ec8", func := "patchbay/patchbaylaw35.PlacementBudget", spec := "placementBudget", unfollowed := true, recurses := true, loops := true, apart := false }
def PlacementBudgetSaid : Prop := placementBudgetRow.holds Tryz.pinned (OpenSpec.ofChange placementBudgetSpec)

/-- ITS FALSE NEIGHBOUR: 'it returns false'. Refute it at one input. -/
def placementBudgetWrong : ChangeSpec := { name := "placementBudget", fn := fun _ => fun
  | [d1, d2, d3] => { results := [.lit (.bool false)], args := [d1, d2, d3] }
  | _ => none }
def PlacementBudgetWrongFalsely : Prop := placementBudgetRow.holds Tryz.pinned (OpenSpec.ofChange placementBudgetWrong)

/-- 'patchbaylaw35.PlacementGrows': WHATEVER THE INPUT: true; the input reads as it did. -/
def placementGrowsSpec : ChangeSpec := { name := "placementGrows", fn := fun _ => fun
  | [d1, d2, d3] => { results := [.lit (.bool true)], args := [d1, d2, d3] }
  | _ => none }
def placementGrowsRow : OpenClaim := { program := "ytakgiamhdpgoeaagreat", sum := "0e3c9ab45726b6039f81de0d9ced4c5bf1cd50644603e488d719c7b7157b2ec8", func := "patchbay/patchbaylaw35.PlacementGrows", spec := "placementGrows", unfollowed := true, recurses := true, loops := true, apart := false }
def PlacementGrowsSaid : Prop := placementGrowsRow.holds Tryz.pinned (OpenSpec.ofChange placementGrowsSpec)

/-- ITS FALSE NEIGHBOUR: 'it returns false'. Refute it at one input. -/
def placementGrowsWrong : ChangeSpec := { name := "placementGrows", fn := fun _ => fun
  | [d1, d2, d3] => { results := [.lit (.bool false)], args := [d1, d2, d3] }
  | _ => none }
def PlacementGrowsWrongFalsely : Prop := placementGrowsRow.holds Tryz.pinned (OpenSpec.ofChange placementGrowsWrong)

/- THE SECOND FORM. 'bulk': how many values and letters a reading holds, each counted each time it is reached (what is shared counts as often as it is met; a slice's spare places count too). A statement '..UptoSaid' is the law's where the arguments, and the package variables that the reading takes, are together of bulk at most 1048576: NARROWER than '..Said'. Prove '..Said' where nothing that the law and all that it calls make is longer than what came in: it says more and counts as full. Else prove '..UptoSaid'. A law counts once. -/
mutual
def uptoBulk {H : Type} : DataW H → Nat
  | .lit (.string bytes) => bytes.length + 1
  | .lit _ => 1
  | .nil => 1
  | .ptr d => uptoBulk d + 1
  | .slice elems spare => uptoBulkAll elems + uptoBulkAll spare + 1
  | .agg parts => uptoBulkAll parts + 1
  | .iface _ d => uptoBulk d + 1
  | .map entries => uptoBulkEntries entries + 1
  | .held _ => 1
def uptoBulkAll {H : Type} : List (DataW H) → Nat
  | [] => 0
  | d :: r => uptoBulk d + uptoBulkAll r
def uptoBulkEntries {H : Type} : List (Lit × DataW H) → Nat
  | [] => 0
  | x :: r => uptoBulkEntry x + uptoBulkEntries r
def uptoBulkEntry {H : Type} : Lit × DataW H → Nat
  | (.string bytes, d) => bytes.length + uptoBulk d + 1
  | (_, d) => uptoBulk d + 1
 end
def uptoSmall : (H : Type) → List (DataW H) → Bool := fun _ ds => decide (uptoBulkAll ds ≤ 1048576)
def OpenSpec.upto (s : _root_.Go.ChangeSpec) : _root_.Go.OpenSpec := { _root_.Go.OpenSpec.ofChange s with cond := some uptoSmall }

/-- 'patchbaylaw35.PlacementMinimal', WHERE WHAT IT READS IS OF BULK AT MOST 1048576: true; the input reads as it did. -/
def placementMinimalUptoRow : OpenClaim := { program := "ytakgiamhdpgoeaagreat", sum := "0e3c9ab45726b6039f81de0d9ced4c5bf1cd50644603e488d719c7b7157b2ec8", func := "patchbay/patchbaylaw35.PlacementMinimal", spec := "placementMinimal", unfollowed := true, recurses := true, loops := true, apart := false, narrowed := true }
def PlacementMinimalUptoSaid : Prop := placementMinimalUptoRow.holds Tryz.pinned (OpenSpec.upto placementMinimalSpec)

/-- 'patchbaylaw35.PlacementBudget', WHERE WHAT IT READS IS OF BULK AT MOST 1048576: true; the input reads as it did. -/
def placementBudgetUptoRow : OpenClaim := { program := "ytakgiamhdpgoeaagreat", sum := "0e3c9ab45726b6039f81de0d9ced4c5bf1cd50644603e488d719c7b7157b2ec8", func := "patchbay/patchbaylaw35.PlacementBudget", spec := "placementBudget", unfollowed := true, recurses := true, loops := true, apart := false, narrowed := true }
def PlacementBudgetUptoSaid : Prop := placementBudgetUptoRow.holds Tryz.pinned (OpenSpec.upto placementBudgetSpec)

/-- 'patchbaylaw35.PlacementGrows', WHERE WHAT IT READS IS OF BULK AT MOST 1048576: true; the input reads as it did. -/
def placementGrowsUptoRow : OpenClaim := { program := "ytakgiamhdpgoeaagreat", sum := "0e3c9ab45726b6039f81de0d9ced4c5bf1cd50644603e488d719c7b7157b2ec8", func := "patchbay/patchbaylaw35.PlacementGrows", spec := "placementGrows", unfollowed := true, recurses := true, loops := true, apart := false, narrowed := true }
def PlacementGrowsUptoSaid : Prop := placementGrowsUptoRow.holds Tryz.pinned (OpenSpec.upto placementGrowsSpec)

end Rows
end Go.Proofs.YtakgiamhdpgoeaaGreat
