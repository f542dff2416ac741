/-
  An interpreter of the functions of a program as plain functions of lists and numbers, part 39: what it computes is what the program does. No condition but those that its theorems name.
-/
import Derived.Test.YtjijojnmbjmecaaVi36
set_option linter.unusedVariables false
set_option linter.constructorNameAsVariable false
namespace Go.VI
open Go.RowKit (Below)
/-! ### a whole call -/
/-- The arguments of a call, in a world of which nothing will be turned. -/
structure ArgsIn (w : World) (as_ : List PV) (vs : Array Value) : Prop where
  size : vs.size = as_.length
  rep : ∀ (c : Cx), c.w = w → c.K = KW w → ∀ k, RepV c (as_.getD k .undef) (vs.getD k undef) Nil
theorem arg_one {w : World} {t : Ty} {x : t.D} {v : Value} (h : RepC w (KW w) t 0 x [v] Nil) (hp : isP t = false) : ∀ (c : Cx), c.w = w → c.K = KW w → RepV c (t.toPV 0 x) v Nil := by
  intro c hw hK
  subst hw
  rw [← hK] at h
  cases t with
  | i k => exact ⟨by simpa using h.1, h.2⟩
  | b => exact ⟨by simpa using h.1, h.2⟩
  | s => exact ⟨by simpa using h.1, h.2⟩
  | p x y => simp [isP] at hp
  | l e => exact h
theorem arg_agg {w : World} {x y : Ty} {v : (Ty.p x y).D} {arr : Array Value} (h : RepC w (KW w) (.p x y) 0 v arr.toList Nil) : ∀ (c : Cx), c.w = w → c.K = KW w → RepV c ((Ty.p x y).toPV 0 v) (.agg arr) Nil := by
  intro c hw hK
  subst hw
  rw [← hK] at h
  exact ⟨arr, rfl, RepC.cells h⟩
theorem ArgsIn.nil {w : World} : ArgsIn w [] #[] := ⟨rfl, fun c _ _ k => no_none⟩
theorem ArgsIn.of {w : World} {as_ : List PV} {vs : List Value} (h : ArgsIn w as_ vs.toArray) {p : PV} {v : Value} (hp : ∀ (c : Cx), c.w = w → c.K = KW w → RepV c p v Nil) : ArgsIn w (p :: as_) (v :: vs).toArray := by
  refine ⟨by simpa using h.size, fun c hw hK k => ?_⟩
  cases k with
  | zero => exact hp c hw hK
  | succ k =>
    have := h.rep c hw hK k
    simpa using this
/-- A call that answers one value without memory, and leaves what was there. -/
theorem call_meets {P : Program} {f : FuncId} {as_ : List PV} {r : PV} {w : World} {vs : Array Value} (hm : Meets P f as_ [] r []) (he : ∀ args w, (callFunc f args).run P w = .ok (.enter f args) w) (ha : ArgsIn w as_ vs) :
    Calls P f vs w fun e w' => ∃ v, e = .returned v ∧ (∃ c' Fr, c'.w = w' ∧ RepV c' r v Fr) ∧ Below w.heap.size w w' := by
  let c : Cx := { w := w, K := KW w, S := S0 as_ [], val := fun l => match Nat.beq (l % 2) 0 with | true => vs.getD (l / 2) undef | false => undef, Fq := fun _ => Nil }
  have vT : ∀ k, c.val (T k) = vs.getD k undef := fun k => by simp only [c, T_mod, T_div]
  have hE : Entry c := {
    rep := by
      intro l
      rcases loc_cases l with ⟨k, rfl⟩ | ⟨j, rfl⟩
      · rw [vT]
        show RepV c (S0 as_ [] (T k)).pv _ Nil
        rw [S0_T]
        exact ha.rep c rfl rfl k
      · show RepV c (S0 as_ [] (O j)).pv _ Nil
        rw [S0_O]
        exact no_none
    dis := fun _ _ _ _ h => h.elim
    holds := fun _ _ _ h => h
    kdis := fun _ _ _ _ h => h.elim
    bound := fun _ _ h => h.elim }
  have := hm.2.2 c vs rfl hE ha.size vT
  unfold CallRes at this
  rw [show c.w = w from rfl, he] at this
  refine this.mono ?_
  rintro e w' ⟨v, rfl, c', Fr, rfl, hL⟩
  refine ⟨v, rfl, ⟨c', Fr, rfl, hL.ret⟩, ⟨hL.os, hL.tape, hL.output, hL.size, fun k hk => ?_⟩⟩
  exact hL.frame k hk (fun l h => h)
/-- A law: it answers true, and leaves what was there. -/
theorem law_calls {P : Program} {f : FuncId} {as_ : List PV} {w : World} {vs : Array Value} (hm : Meets P f as_ [] (.bool true) []) (he : ∀ args w, (callFunc f args).run P w = .ok (.enter f args) w) (ha : ArgsIn w as_ vs) :
    Calls P f vs w fun e w' => e = .returned (.bool true) ∧ Below w.heap.size w w' :=
  (call_meets hm he ha).mono fun e w' ⟨v, h1, ⟨c', Fr, _, h2⟩, h3⟩ => ⟨by rw [h1, h2.1], h3⟩
/-- What a clause tells of one call. -/
theorem FnSound.meets {P : Program} {c : FnCl (PV × List PV)} (h : FnSound P c) {as_ os : List PV} {r : PV} {os' : List PV} (hr : c.run as_ os (fun r o => some (r, o)) = some (r, os')) : Meets P c.f as_ os r os' := by
  obtain ⟨r1, o1, h1, h2⟩ := h _ _ _ _ hr
  simp only [Option.some.injEq, Prod.mk.injEq] at h2
  obtain ⟨rfl, rfl⟩ := h2
  exact h1
theorem FnSound.at {P : Program} {α ω ε : Type} {f : FuncId} {ca : CodL α} {co : CodL ω} {encR : ε → PV × List PV} {F : α → ω → (ε → Option (PV × List PV)) → Option (PV × List PV)} (h : FnSound P (fnC f ca co encR F)) (a : α) (o : ω) {r : PV} {os' : List PV}
    (hF : F a o (fun e => some ((encR e).1, (encR e).2)) = some (r, os')) : Meets P f (ca.enc a) (co.enc o) r os' := by
  refine FnSound.meets (c := fnC f ca co encR F) h ?_
  unfold fnC
  dsimp only
  rw [ca.back, co.back]
  exact hF
section
open Go.WideShapes Go.ChangeShapes
variable {H : Type} {enc : TypeId × Value → H} {P : Program}
/-- The row's last step, where the call has left what was there. -/
theorem law_post {f : Func} {s : ChangeSpec} {W W' : World} {args : Array Value} {v : Value} {ds gs : List (DataW H)} {before pa pv : List MemPlace} (hW : DataW.Whole enc P f.params.toList s.vars false W args.toList ds gs before) (hb : Below W.heap.size W W')
    (hres : DataW.TrodAll enc P W' W.heap.size (fun _ => false) false f.resultTypes.toList (v.resultList f.resultTypes.size) (s.fn H (ds ++ gs)).results [])
    (hargs : DataW.TrodAll enc P W' 0 (fun b => decide (b < W.heap.size)) true f.params.toList args.toList (s.fn H (ds ++ gs)).args pa)
    (hvars : DataW.TrodVars enc P W' (fun b => decide (b < W.heap.size)) s.vars (s.fn H (ds ++ gs)).vars pv) : s.post enc P f false true false false W args v W' :=
  ⟨ds, gs, before, [], pa, pv, hW, hres, hargs, hvars, hb.frame _, fun h => by cases h⟩
end
end Go.VI
