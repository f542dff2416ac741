/-
  No cell of these rows narrows 'for every input' (looked for: loops, veiled, ifaces, maps, wideKeys, modest, calm, conditions, laid).
  DERIVED. THE GIVEN ROWS OF THIS SEAT. 3 by the template 'for every input the law returns true; each argument reads behind the call as it read before'; 0 by the template 'total and deterministic' (their statements: YtjijojnmbjmecaaTotals.lean).
  GIVEN WITH THE SEED: the statements are not yours to turn. If you find one false, say at which input.
  Laid BY PROGRAM, IN A SANDBOX (cutbox-rows.mjs): the forced cells as the released guide's own fill.sh prints them over the translation 07733da5b46b11ca… (all of the seat's roots in one cut). By AI agents, Wed Nov 11 2026. No macro, syntax, notation, axiom, sorry.
-/
import Derived.Test.YtjijojnmbjmecaaChecked
import GoSem.Claim
import GoSem.ClaimJoined
import GoSem.ClaimMapViews
import Derived.JoinedTies
import Derived.KernelRfl
namespace Go.Proofs.Ytjijojnmbjmecaa
/- THE CELL 'sum', in the pinned program and in every row, IS THE sha256 OF THE DUMP (.gsa) THAT YtjijojnmbjmecaaProg.lean LOADS. Nothing in Lean hashes anything: it is a label: what it is worth is what the hold of that sum in a sandbox is worth. -/
noncomputable def Try.pinned : Pinned := { name := "ytjijojnmbjmecaa", sum := "07733da5b46b11caac2b88c8fcf7ff4fe2f983e5f98ca05602e325d0e93a8e42", checked := Try.checked }
namespace Rows
def none {H : Type} : Left H := { results := [], args := [] }

/-- 'laws.FnExactDirectionsOfWidth': WHATEVER THE INPUT: true; the input reads as it did. -/
def fnExactDirectionsOfWidthSpec : ChangeSpec := { name := "fnExactDirectionsOfWidth", fn := fun _ => fun
  | [d] => { results := [.lit (.bool true)], args := [d] }
  | _ => none }
def fnExactDirectionsOfWidthRow : OpenClaim := { program := "ytjijojnmbjmecaa", sum := "07733da5b46b11caac2b88c8fcf7ff4fe2f983e5f98ca05602e325d0e93a8e42", func := "loop.example/g01259/laws.FnExactDirectionsOfWidth", spec := "fnExactDirectionsOfWidth", unfollowed := true, recurses := true, apart := false }
def FnExactDirectionsOfWidthSaid : Prop := fnExactDirectionsOfWidthRow.holds Try.pinned (OpenSpec.ofChange fnExactDirectionsOfWidthSpec)

/-- ITS FALSE NEIGHBOUR: 'it returns false'. Refute it at one input. -/
def fnExactDirectionsOfWidthWrong : ChangeSpec := { name := "fnExactDirectionsOfWidth", fn := fun _ => fun
  | [d] => { results := [.lit (.bool false)], args := [d] }
  | _ => none }
def FnExactDirectionsOfWidthWrongFalsely : Prop := fnExactDirectionsOfWidthRow.holds Try.pinned (OpenSpec.ofChange fnExactDirectionsOfWidthWrong)

/-- 'laws.FnExactFlatMove': WHATEVER THE INPUT: true; the input reads as it did. -/
def fnExactFlatMoveSpec : ChangeSpec := { name := "fnExactFlatMove", fn := fun _ => fun
  | [d] => { results := [.lit (.bool true)], args := [d] }
  | _ => none }
def fnExactFlatMoveRow : OpenClaim := { program := "ytjijojnmbjmecaa", sum := "07733da5b46b11caac2b88c8fcf7ff4fe2f983e5f98ca05602e325d0e93a8e42", func := "loop.example/g01259/laws.FnExactFlatMove", spec := "fnExactFlatMove", unfollowed := true, recurses := true, apart := false }
def FnExactFlatMoveSaid : Prop := fnExactFlatMoveRow.holds Try.pinned (OpenSpec.ofChange fnExactFlatMoveSpec)

/-- ITS FALSE NEIGHBOUR: 'it returns false'. Refute it at one input. -/
def fnExactFlatMoveWrong : ChangeSpec := { name := "fnExactFlatMove", fn := fun _ => fun
  | [d] => { results := [.lit (.bool false)], args := [d] }
  | _ => none }
def FnExactFlatMoveWrongFalsely : Prop := fnExactFlatMoveRow.holds Try.pinned (OpenSpec.ofChange fnExactFlatMoveWrong)

/-- 'laws.FnExactFlatPolygon': WHATEVER THE INPUT: true; the input reads as it did. -/
def fnExactFlatPolygonSpec : ChangeSpec := { name := "fnExactFlatPolygon", fn := fun _ => fun
  | [d] => { results := [.lit (.bool true)], args := [d] }
  | _ => none }
def fnExactFlatPolygonRow : OpenClaim := { program := "ytjijojnmbjmecaa", sum := "07733da5b46b11caac2b88c8fcf7ff4fe2f983e5f98ca05602e325d0e93a8e42", func := "loop.example/g01259/laws.FnExactFlatPolygon", spec := "fnExactFlatPolygon", unfollowed := true, recurses := true, apart := false }
def FnExactFlatPolygonSaid : Prop := fnExactFlatPolygonRow.holds Try.pinned (OpenSpec.ofChange fnExactFlatPolygonSpec)

/-- ITS FALSE NEIGHBOUR: 'it returns false'. Refute it at one input. -/
def fnExactFlatPolygonWrong : ChangeSpec := { name := "fnExactFlatPolygon", fn := fun _ => fun
  | [d] => { results := [.lit (.bool false)], args := [d] }
  | _ => none }
def FnExactFlatPolygonWrongFalsely : Prop := fnExactFlatPolygonRow.holds Try.pinned (OpenSpec.ofChange fnExactFlatPolygonWrong)

/- THE SECOND FORM. 'bulk': how many values and letters a reading holds, each counted each time it is reached (what is shared counts as often as it is met; a slice's spare places count too). A statement '..UptoSaid' is the law's where the arguments, and the package variables that the reading takes, are together of bulk at most 1048576: NARROWER than '..Said'. Prove '..Said' where nothing that the law and all that it calls make is longer than what came in: it says more and counts as full. Else prove '..UptoSaid'. A law counts once. -/
mutual
def uptoBulk {H : Type} : DataW H → Nat
  | .lit (.string bytes) => bytes.length + 1
  | .lit _ => 1
  | .nil => 1
  | .ptr d => uptoBulk d + 1
  | .slice elems spare => uptoBulkAll elems + uptoBulkAll spare + 1
  | .agg parts => uptoBulkAll parts + 1
  | .iface _ d => uptoBulk d + 1
  | .map entries => uptoBulkEntries entries + 1
  | .held _ => 1
def uptoBulkAll {H : Type} : List (DataW H) → Nat
  | [] => 0
  | d :: r => uptoBulk d + uptoBulkAll r
def uptoBulkEntries {H : Type} : List (Lit × DataW H) → Nat
  | [] => 0
  | x :: r => uptoBulkEntry x + uptoBulkEntries r
def uptoBulkEntry {H : Type} : Lit × DataW H → Nat
  | (.string bytes, d) => bytes.length + uptoBulk d + 1
  | (_, d) => uptoBulk d + 1
 end
def uptoSmall : (H : Type) → List (DataW H) → Bool := fun _ ds => decide (uptoBulkAll ds ≤ 1048576)
def OpenSpec.upto (s : _root_.Go.ChangeSpec) : _root_.Go.OpenSpec := { _root_.Go.OpenSpec.ofChange s with cond := some uptoSmall }

/-- 'laws.FnExactDirectionsOfWidth', WHERE WHAT IT READS IS OF BULK AT MOST 1048576: true; the input reads as it did. -/
def fnExactDirectionsOfWidthUptoRow : OpenClaim := { program := "ytjijojnmbjmecaa", sum := "07733da5b46b11caac2b88c8fcf7ff4fe2f983e5f98ca05602e325d0e93a8e42", func := "loop.example/g01259/laws.FnExactDirectionsOfWidth", spec := "fnExactDirectionsOfWidth", unfollowed := true, recurses := true, apart := false, narrowed := true }
def FnExactDirectionsOfWidthUptoSaid : Prop := fnExactDirectionsOfWidthUptoRow.holds Try.pinned (OpenSpec.upto fnExactDirectionsOfWidthSpec)

/-- 'laws.FnExactFlatMove', WHERE WHAT IT READS IS OF BULK AT MOST 1048576: true; the input reads as it did. -/
def fnExactFlatMoveUptoRow : OpenClaim := { program := "ytjijojnmbjmecaa", sum := "07733da5b46b11caac2b88c8fcf7ff4fe2f983e5f98ca05602e325d0e93a8e42", func := "loop.example/g01259/laws.FnExactFlatMove", spec := "fnExactFlatMove", unfollowed := true, recurses := true, apart := false, narrowed := true }
def FnExactFlatMoveUptoSaid : Prop := fnExactFlatMoveUptoRow.holds Try.pinned (OpenSpec.upto fnExactFlatMoveSpec)

/-- 'laws.FnExactFlatPolygon', WHERE WHAT IT READS IS OF BULK AT MOST 1048576: true; the input reads as it did. -/
def fnExactFlatPolygonUptoRow : OpenClaim := { program := "ytjijojnmbjmecaa", sum := "07733da5b46b11caac2b88c8fcf7ff4fe2f983e5f98ca05602e325d0e93a8e42", func := "loop.example/g01259/laws.FnExactFlatPolygon", spec := "fnExactFlatPolygon", unfollowed := true, recurses := true, apart := false, narrowed := true }
def FnExactFlatPolygonUptoSaid : Prop := fnExactFlatPolygonUptoRow.holds Try.pinned (OpenSpec.upto fnExactFlatPolygonSpec)

end Rows
end Go.Proofs.Ytjijojnmbjmecaa
