/-
  At every list of pegs the law about polygons laid flat answers true: the program and the reference give the same polygon. No condition.
-/
import Derived.Test.YtjijojnmbjmecaaPrA
import Derived.Test.YtjijojnmbjmecaaRows
set_option linter.unusedVariables false
set_option linter.constructorNameAsVariable false
namespace Go.Proofs.Ytjijojnmbjmecaa
open Go.ChangeShapes Go.WideShapes Go.ChangeAt Go.RowKit Go.VI Go.Proofs.Ga
theorem Try.own : ownKnob Try.prog.godebug = none := by kernel_rfl
theorem Try.laidOut : laidOutB Try.prog = true := by kernel_rfl
theorem calls5 (xs : List (Int × Int)) (h : (Ty.l (.p (.i .i64) (.i .i64))).good xs) {W : World} {v : Value} (hr : RepC W (KW W) (.l (.p (.i .i64) (.i .i64))) 0 xs [v] Nil) :
    Calls Try.prog 5 #[v] W fun e w' => e = .returned (.bool true) ∧ Below W.heap.size W w' :=
  law_calls (as_ := [.sl 0 (.p (.i .i64) (.i .i64)) xs]) (FnSound.at (S_laws_FnExactFlatPolygon (ρ := PV × List PV)) xs () (law_flatPolygon xs h.1 _)) (enters_of Try.func5 (by kernel_rfl) rfl) (ArgsIn.nil.of (arg_one hr rfl))
set_option maxRecDepth 100000 in
theorem f_lifted (os : Os) (started : os.Started) (H : Type) (enc : TypeId × Value → H) :
    ReturnsInHanded {} Try.checked os 5 .any (Rows.fnExactFlatPolygonSpec.pre6 enc Try.prog Try.f5 Rows.fnExactFlatPolygonRow.domain false) (Rows.fnExactFlatPolygonSpec.post enc Try.prog Try.f5 false true false false) := by
  refine returnsInHanded_of_change (C := Try.checked) Try.own started (by kernel_rfl) Try.func5
    (ChangeSpec.witness6 (enc := enc) (C := Try.checked) false ⟨#[], #[.slice none 0 0], []⟩ 8 (by kernel_rfl) (by kernel_rfl) (by kernel_rfl) (by kernel_rfl)) ?_
  intro W base args ds gs before hval0 hW hcnd _
  have hval : ∀ (j : Nat) t v, Try.f5.params[j]? = some t → args[j]? = some v → Value.okWide Try.prog W .any base t v := hval0
  have hW' := hW
  obtain ⟨p, q, hA0, hV, rfl, hfz, hnd⟩ := hW
  have hA : DataW.TrodAll enc Try.prog W 0 (fun _ => true) true Try.f5.params.toList args.toList ds p := hA0
  rw [Try.params5] at hA hval
  obtain ⟨v0, d0, rfl, rfl, h0⟩ := trodAll_one hA
  obtain ⟨rfl, rfl⟩ := trodVars_none hV
  obtain ⟨a0, len, cap, rfl⟩ := okWide_slice Try.underlying22 (hval 0 22 v0 rfl rfl)
  have hlt : ∀ x ∈ p, x.block < W.heap.size := fun x hx => by simpa using hW'.lt x (by simpa using hx)
  have h00 := h0
  obtain ⟨fuel, hf⟩ := h00
  obtain ⟨xs, hr, hg⟩ := trod_rep (P := Try.prog) 6 (t := 22) (ty := .l (.p (.i .i64) (.i .i64))) (by kernel_rfl) hf
  refine (calls5 xs hg hr).mono fun e W' ⟨he, hb⟩ => ?_
  subst he
  exact ⟨_, rfl, law_post hW' hb (trodAll_mk1 (shut_bool Try.underlying4 true)) (trodAll_mk1 (Below.trod Try.laidOut (by kernel_rfl) (by decide +kernel) h0 hb hlt)) rfl⟩
theorem f_holds : Rows.FnExactFlatPolygonSaid :=
  OpenClaim.holds_of_wide 5 Try.f5 rfl rfl rfl rfl rfl rfl rfl ⟨rfl, rfl, rfl, rfl, rfl⟩ rfl rfl rfl rfl rfl (by kernel_rfl) Try.func5 (by kernel_rfl)
    (of_decide_eq_true (by kernel_rfl)) (by unfold Func.isWrapper; rw [if_neg (by decide +kernel)]; exact ⟨rfl, rfl⟩)
    (fun os started H enc _ => f_lifted os started H enc)
end Go.Proofs.Ytjijojnmbjmecaa
