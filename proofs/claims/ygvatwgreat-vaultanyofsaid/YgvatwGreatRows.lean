/-
  No cell of these rows narrows 'for every input' (looked for: loops, veiled, ifaces, maps, wideKeys, modest, calm, conditions, laid).
  DERIVED. THE GIVEN ROWS OF THIS SEAT. 1 by the template 'for every input the law returns true; each argument reads behind the call as it read before'; 0 by the template 'total and deterministic' (their statements: YgvatwGreatTotals.lean).
  GIVEN WITH THE SEED: the statements are not yours to turn. If you find one false, say at which input.
  Laid BY PROGRAM, IN A SANDBOX (cutbox-rows.mjs): the forced cells as the released guide's own fill.sh prints them over the translation 72464fb002af0e8a… (all of the seat's roots in one cut). By AI agents, Wed Nov 11 2026. No macro, syntax, notation, axiom, sorry.
-/
import Derived.Test.YgvatwGreatChecked
import GoSem.Claim
import GoSem.ClaimJoined
import GoSem.ClaimMapViews
import Derived.JoinedTies
import Derived.KernelRfl
namespace Go.Proofs.YgvatwGreat
/- THE CELL 'sum', in the pinned program and in every row, IS THE sha256 OF THE DUMP (.gsa) THAT YgvatwGreatProg.lean LOADS. Nothing in Lean hashes anything: it is a label: what it is worth is what the hold of that sum in a sandbox is worth. -/
noncomputable def Hvat.pinned : Pinned := { name := "ygvatwgreat", sum := "72464fb002af0e8afb6de07907c2865a7331ba305e81a15082968d8f91dd8aff", checked := Hvat.checked }
namespace Rows
def none {H : Type} : Left H := { results := [], args := [] }

/-- 'law.VaultAnyOf': WHATEVER THE INPUT: true; the input reads as it did. -/
def vaultAnyOfSpec : ChangeSpec := { name := "vaultAnyOf", fn := fun _ => fun
  | [d1, d2, d3] => { results := [.lit (.bool true)], args := [d1, d2, d3] }
  | _ => none }
def vaultAnyOfRow : OpenClaim := { program := "ygvatwgreat", sum := "72464fb002af0e8afb6de07907c2865a7331ba305e81a15082968d8f91dd8aff", func := "yellow/law.VaultAnyOf", spec := "vaultAnyOf", inPlace := ["math/bits.Add64", "math/bits.Sub64"], apart := false }
def VaultAnyOfSaid : Prop := vaultAnyOfRow.holds Hvat.pinned (OpenSpec.ofChange vaultAnyOfSpec)

/-- ITS FALSE NEIGHBOUR: 'it returns false'. Refute it at one input. -/
def vaultAnyOfWrong : ChangeSpec := { name := "vaultAnyOf", fn := fun _ => fun
  | [d1, d2, d3] => { results := [.lit (.bool false)], args := [d1, d2, d3] }
  | _ => none }
def VaultAnyOfWrongFalsely : Prop := vaultAnyOfRow.holds Hvat.pinned (OpenSpec.ofChange vaultAnyOfWrong)

end Rows
end Go.Proofs.YgvatwGreat
