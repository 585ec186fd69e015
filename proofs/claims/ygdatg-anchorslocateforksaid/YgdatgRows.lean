/-
  No cell of these rows narrows 'for every input' (looked for: loops, veiled, ifaces, maps, wideKeys, modest, calm, conditions, laid).
  DERIVED. THE GIVEN ROWS OF THIS SEAT. 1 by the template 'for every input the law returns true; each argument reads behind the call as it read before'; 0 by the template 'total and deterministic' (their statements: YgdatgTotals.lean).
  GIVEN WITH THE SEED: the statements are not yours to turn. If you find one false, say at which input.
  Laid BY PROGRAM, IN A SANDBOX (cutbox-rows.mjs): the forced cells as the released guide's own fill.sh prints them over the translation e1aebe1ddc0a3df7… (all of the seat's roots in one cut). By AI agents, Wed Nov 11 2026. No macro, syntax, notation, axiom, sorry.
-/
import Derived.Test.YgdatgChecked
import GoSem.Claim
import GoSem.ClaimJoined
import GoSem.ClaimMapViews
import Derived.JoinedTies
import Derived.KernelRfl
namespace Go.Proofs.Ygdatg
/- THE CELL 'sum', in the pinned program and in every row, IS THE sha256 OF THE DUMP (.gsa) THAT YgdatgProg.lean LOADS. Nothing in Lean hashes anything: it is a label: what it is worth is what the hold of that sum in a sandbox is worth. -/
noncomputable def Yatd.pinned : Pinned := { name := "ygdatg", sum := "e1aebe1ddc0a3df706ad942da3e763dc5be0fba4d90cfb8bcca12b2674340742", checked := Yatd.checked }
namespace Rows
def none {H : Type} : Left H := { results := [], args := [] }

/-- 'laws.AnchorsLocateFork': WHATEVER THE INPUT: true; the input reads as it did. -/
def anchorsLocateForkSpec : ChangeSpec := { name := "anchorsLocateFork", fn := fun _ => fun
  | [d1, d2, d3] => { results := [.lit (.bool true)], args := [d1, d2, d3] }
  | _ => none }
def anchorsLocateForkRow : OpenClaim := { program := "ygdatg", sum := "e1aebe1ddc0a3df706ad942da3e763dc5be0fba4d90cfb8bcca12b2674340742", func := "setrecon/laws.AnchorsLocateFork", spec := "anchorsLocateFork", recurses := true, apart := false }
def AnchorsLocateForkSaid : Prop := anchorsLocateForkRow.holds Yatd.pinned (OpenSpec.ofChange anchorsLocateForkSpec)

/-- ITS FALSE NEIGHBOUR: 'it returns false'. Refute it at one input. -/
def anchorsLocateForkWrong : ChangeSpec := { name := "anchorsLocateFork", fn := fun _ => fun
  | [d1, d2, d3] => { results := [.lit (.bool false)], args := [d1, d2, d3] }
  | _ => none }
def AnchorsLocateForkWrongFalsely : Prop := anchorsLocateForkRow.holds Yatd.pinned (OpenSpec.ofChange anchorsLocateForkWrong)

end Rows
end Go.Proofs.Ygdatg
