/-
  An interpreter of the functions of a program as plain functions of lists and numbers, part 35: what it computes is what the program does. No condition but those that its theorems name.
-/
import Derived.Test.YtjijojnmbjmecaaVi32
set_option linter.unusedVariables false
set_option linter.constructorNameAsVariable false
namespace Go.VI
/-! ### words for the printed texts -/
@[reducible] def w64 (n : Int) : Int := IntKind.i64.wrap n
@[reducible] def chk {ρ : Type} (c : Bool) (x : Option ρ) : Option ρ := bif c then x else none
@[reducible] def nchk {ρ : Type} (c : Bool) (x : Option ρ) : Option ρ := bif c then none else x
/-- What has data, before what has none. -/
def lKeep {α : Type} (c : Cod α) (r : CodL Unit) : CodL α := ⟨fun a => c.enc a :: r.enc (), fun | p :: ps => (match r.dec ps with | some _ => c.dec p | none => none) | [] => none, by
  intro p a h; split at h
  · split at h
    · rename_i x hx
      rw [r.ok _ _ hx, c.ok _ _ h]
    · simp at h
  · simp at h, fun a => by
  show (match r.dec (r.enc ()) with | some _ => c.dec (c.enc a) | none => none) = _
  rw [r.back, c.back]⟩
section
variable {P : Program} {ρ : Type}
theorem fs_nil : ∀ c ∈ ([] : List (FnCl ρ)), FnSound P c := fun _ h => nomatch h
theorem fs_cons {c : FnCl ρ} {r : List (FnCl ρ)} (h : FnSound P c) (hr : ∀ c ∈ r, FnSound P c) : ∀ d ∈ c :: r, FnSound P d := fun d hd => by
  rcases List.mem_cons.1 hd with rfl | hd
  · exact h
  · exact hr d hd
def Has (l : List (Nat × Code)) (cs : List Code) : Prop := ∀ c ∈ cs, (firstReg c, c) ∈ l
theorem has_nil {l : List (Nat × Code)} : Has l [] := fun _ h => nomatch h
theorem has_cons {l : List (Nat × Code)} {c : Code} {cs : List Code} (i : Nat) (h : l[i]? = some (firstReg c, c)) (r : Has l cs) : Has l (c :: cs) := fun d hd => by
  rcases List.mem_cons.1 hd with rfl | hd
  · exact List.mem_of_getElem? h
  · exact r d hd
theorem has_of {l : List (Nat × Code)} {b : Code} {cs : List Code} (e : loopsOf b = cs) (h : Has l cs) : ∀ c ∈ loopsOf b, (firstReg c, c) ∈ l := by rw [e]; exact h
end
end Go.VI
