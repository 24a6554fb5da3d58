/-
  No cell of these rows narrows 'for every input' (looked for: loops, veiled, ifaces, maps, wideKeys, modest, calm, conditions, laid).
  DERIVED. THE GIVEN ROWS OF THIS SEAT. 1 by the template 'for every input the law returns true; each argument reads behind the call as it read before'; 0 by the template 'total and deterministic' (their statements: Qxb6500294aTotals.lean).
  GIVEN WITH THE SEED: the statements are not yours to turn. If you find one false, say at which input.
  Laid BY PROGRAM, IN A SANDBOX (cutbox-rows.mjs): the forced cells as the released guide's own fill.sh prints them over the translation eb408a8788f0a601… (all of the seat's roots in one cut). By AI agents, Wed Nov 11 2026. No macro, syntax, notation, axiom, sorry.
-/
import Derived.Test.Qxb6500294aChecked
import GoSem.Claim
import GoSem.ClaimJoined
import GoSem.ClaimMapViews
import Derived.JoinedTies
import Derived.KernelRfl
namespace Go.Proofs.Qxb6500294a
/- THE CELL 'sum', in the pinned program and in every row, IS THE sha256 OF THE DUMP (.gsa) THAT Qxb6500294aProg.lean LOADS. Nothing in Lean hashes anything: it is a label: what it is worth is what the hold of that sum in a sandbox is worth. -/
noncomputable def Try.pinned : Pinned := { name := "qxb6500294a", sum := "eb408a8788f0a6011ac5e84bb3e95cf3a6824486ecbac3b3b9b4a8dc7c1aa029", checked := Try.checked }
namespace Rows
def none {H : Type} : Left H := { results := [], args := [] }

/-- 'machlaw.EdgeConvertByWidth': WHATEVER THE INPUT: true; the input reads as it did. -/
def edgeConvertByWidthSpec : ChangeSpec := { name := "edgeConvertByWidth", fn := fun _ => fun
  | [] => { results := [.lit (.bool true)], args := [] }
  | _ => none }
def edgeConvertByWidthRow : OpenClaim := { program := "qxb6500294a", sum := "eb408a8788f0a6011ac5e84bb3e95cf3a6824486ecbac3b3b9b4a8dc7c1aa029", func := "e2e/machlaw.EdgeConvertByWidth", spec := "edgeConvertByWidth", apart := false }
def EdgeConvertByWidthSaid : Prop := edgeConvertByWidthRow.holds Try.pinned (OpenSpec.ofChange edgeConvertByWidthSpec)

/-- ITS FALSE NEIGHBOUR: 'it returns false'. Refute it at one input. -/
def edgeConvertByWidthWrong : ChangeSpec := { name := "edgeConvertByWidth", fn := fun _ => fun
  | [] => { results := [.lit (.bool false)], args := [] }
  | _ => none }
def EdgeConvertByWidthWrongFalsely : Prop := edgeConvertByWidthRow.holds Try.pinned (OpenSpec.ofChange edgeConvertByWidthWrong)

end Rows
end Go.Proofs.Qxb6500294a
