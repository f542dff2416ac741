/-
  An interpreter of the functions of a program as plain functions of lists and numbers, part 33: what it computes is what the program does. No condition but those that its theorems name.
-/
import Derived.Test.YtjijojnmbjmecaaVi30
set_option linter.unusedVariables false
set_option linter.constructorNameAsVariable false
namespace Go.VI
/-! ### a loop by its meaning -/
def outLive (liveIn liveOut : List Loc) : X → List Loc
  | .normal => liveIn
  | _ => liveOut
/-- One round. -/
def roundM (φ : Phi (X × St)) (st : Sta) (liveIn liveOut : List Loc) (b : Code) (s : St) : Option (X × St) := den φ st b (fun e s => some (e, norm (outLive liveIn liveOut e) s)) s
/-- What loops come to, told by themselves. -/
def LoopsOk (P : Program) (st : Sta) (loops : List Code) : LpRel := fun key s e s' => ∀ B, ∀ b ∈ loops, firstReg b = key → CodeOk P st B (.loop b) s e s'
theorem LoopsOk.ok {P : Program} {st : Sta} {loops : List Code} : ∀ B, ∀ b ∈ loops, LoopOk P st B (LoopsOk P st loops) b := fun B b hb s e s' h => h B b hb rfl
theorem round_ok {P : Program} {R : FnRel} {L : LpRel} {st : Sta} {B : Base} {φ : Phi (X × St)} (hS : StOk P st) (hR : FnOk P R) (hφ : PhiOk φ R L) {b : Code} (hL : ∀ B, ∀ c ∈ loopsOf b, LoopOk P st B L c) {liveIn liveOut : List Loc} {s : St} {e : X} {s' : St}
    (h : roundM φ st liveIn liveOut b s = some (e, s')) : CodeOk P st B b s e s' := by
  obtain ⟨e1, s1, h1, h2⟩ := den_ok hS hR hφ b hL _ _ _ h
  simp only [Option.some.injEq, Prod.mk.injEq] at h1
  obtain ⟨rfl, rfl⟩ := h1
  exact fun Q a w hI hQ => h2 B Q a w hI (fun a' w' hI' => hQ a' w' (hI'.norm _))
theorem loop_means {P : Program} {R : FnRel} {L : LpRel} {st : Sta} {B : Base} {φ : Phi (X × St)} (hS : StOk P st) (hR : FnOk P R) (hφ : PhiOk φ R L) {b : Code} (hL : ∀ B, ∀ c ∈ loopsOf b, LoopOk P st B L c) {liveIn liveOut : List Loc}
    {σ : Type} (enc : σ → St) (inv : σ → Prop) (μ : σ → Nat) (F : σ → X × St)
    (step : ∀ v, inv v → (∃ v', inv v' ∧ μ v' < μ v ∧ F v' = F v ∧ roundM φ st liveIn liveOut b (enc v) = some (.normal, enc v')) ∨ ((F v).1 ≠ .normal ∧ roundM φ st liveIn liveOut b (enc v) = some (F v))) :
    ∀ v, inv v → CodeOk P st B (.loop b) (enc v) (F v).1 (F v).2 := by
  intro v hv
  refine loop_ok (W := fun n s e s' => ∃ v, inv v ∧ s = enc v ∧ μ v < n ∧ (e, s') = F v) (fun s e s' ⟨v, _, _, h, _⟩ => by omega) ?_ (μ v + 1) _ _ _ ⟨v, hv, rfl, by omega, rfl⟩
  rintro n s e s' ⟨v, hv, rfl, hlt, hF⟩
  rcases step v hv with ⟨v', h1, h2, h3, h4⟩ | ⟨h1, h2⟩
  · exact ⟨.normal, enc v', round_ok hS hR hφ hL h4, v', h1, rfl, by omega, by rw [h3]; exact hF⟩
  · rw [← hF] at h1 h2
    refine ⟨e, s', round_ok hS hR hφ hL h2, ?_⟩
    cases e with
    | normal => exact (h1 rfl).elim
    | ret => exact ⟨rfl, fun _ _ h => h⟩
    | exit i => exact ⟨rfl, fun _ _ h => h⟩
/-- The same from any state that agrees on what counts. -/
theorem CodeOk.from {P : Program} {st : Sta} {B : Base} {code : Code} {s s1 s' : St} {e : X} {live : List Loc} (hs : Go.VI.norm live s = s1) (h : CodeOk P st B code s1 e s') : CodeOk P st B code s e s' := by
  subst hs
  exact fun Q a w hI hQ => h Q a w (hI.norm live) hQ
end Go.VI
