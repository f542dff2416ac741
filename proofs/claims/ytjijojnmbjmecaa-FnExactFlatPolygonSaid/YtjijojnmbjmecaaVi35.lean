/-
  An interpreter of the functions of a program as plain functions of lists and numbers, part 37: what it computes is what the program does. No condition but those that its theorems name.
-/
import Derived.Test.YtjijojnmbjmecaaVi34
import Derived.Shelf.SlSortCmp.WholeK
set_option linter.unusedVariables false
set_option linter.constructorNameAsVariable false
namespace Go.VI
open Go.Proofs Go.Sort Go.Lib
/-- What slices.SortFunc leaves. -/
noncomputable def sortBy {α : Type} [Inhabited α] (cf : α → α → Int) (l : List α) : List α := (pdq (ltOf cf) l.toArray 0 l.length (Lib.bitLen l.length) true true).toList
end Go.VI
