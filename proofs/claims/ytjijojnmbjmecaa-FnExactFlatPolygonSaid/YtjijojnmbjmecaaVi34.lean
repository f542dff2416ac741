/-
  An interpreter of the functions of a program as plain functions of lists and numbers, part 36: what it computes is what the program does. No condition but those that its theorems name.
-/
import Derived.Test.YtjijojnmbjmecaaVi33
set_option linter.unusedVariables false
set_option linter.constructorNameAsVariable false
namespace Go.VI
def cNsl (b : Bool) (t : Ty) : Cod (List t.D) := ⟨.nsl b t, fun | .nsl b' t' xs => bif bEq b' b then decL t t' xs else none | _ => none, by
  intro p a h
  split at h
  · rename_i b' t' xs
    cases hb : bEq b' b with
    | true =>
      rw [hb] at h
      obtain ⟨rfl, e⟩ := decL_ok (show decL t t' xs = some a from h)
      rw [bEq_ok hb, e]
    | false => rw [hb] at h; simp at h
  · simp at h, fun a => by
  show (bif bEq b b then decL t t a else none) = _
  have : bEq b b = true := by cases b <;> rfl
  rw [this, decL_self]; rfl⟩
def decT (t t' : Ty) (x : t'.D) : Option t.D := match h : t'.beq t with
  | true => some (Ty.beq_eq h ▸ x)
  | false => none
theorem decT_ok {t t' : Ty} {x : t'.D} {a : t.D} (h : decT t t' x = some a) : ∃ e : t' = t, a = e ▸ x := by
  unfold decT at h
  split at h
  · rename_i hb
    obtain rfl := Ty.beq_eq hb
    exact ⟨rfl, (Option.some.inj h).symm⟩
  · simp at h
theorem decT_self (t : Ty) (x : t.D) : decT t t x = some x := by
  unfold decT
  split
  · rfl
  · rename_i h; rw [Ty.beq_refl] at h; simp at h
/-- What is known for good, at an address. -/
def cKel (t : Ty) (off : Nat) : Cod t.D := ⟨fun x => .kel none 0 0 t x off, fun | .kel none d i t' x off' => bif Nat.beq d 0 && (Nat.beq i 0 && Nat.beq off' off) then decT t t' x else none | _ => none, by
  intro p a h
  split at h
  · rename_i d i t' x off'
    cases hb : (Nat.beq d 0 && (Nat.beq i 0 && Nat.beq off' off)) with
    | true =>
      rw [hb] at h
      simp only [Bool.and_eq_true] at hb
      obtain ⟨rfl, e⟩ := decT_ok (show decT t t' x = some a from h)
      rw [Nat.eq_of_beq_eq_true hb.1, Nat.eq_of_beq_eq_true hb.2.1, Nat.eq_of_beq_eq_true hb.2.2, e]
    | false => rw [hb] at h; simp at h
  · simp at h, fun a => by
  show (bif Nat.beq 0 0 && (Nat.beq 0 0 && Nat.beq off off) then decT t t a else none) = _
  simp only [Nat.beq_refl, decT_self]; rfl⟩
theorem Left.of {c d : Cx} {m : Nat} {os' : List PV} {r : PV} {v : Value} {c' : Cx} {Fr : FP} (h : Left c m os' r v c' Fr) (hw : d.w = c.w) (hK : d.K = c.K) (hv : d.val = c.val) (hF : d.Fq = c.Fq) : Left d m os' r v c' Fr := by
  obtain ⟨w, K, S, val, Fq⟩ := c
  obtain ⟨w2, K2, S2, val2, Fq2⟩ := d
  simp only at hw hK hv hF
  subst hw hK hv hF
  exact { ret := h.ret, out := h.out, rdis := h.rdis, odis := h.odis, holds := h.holds, rk := h.rk, ok := h.ok, rbound := h.rbound, obound := h.obound, os := h.os, tape := h.tape, output := h.output, drawn := h.drawn, size := h.size, frame := h.frame, K := h.K, knew := h.knew }
/-- One list that came in, nil or not. -/
theorem meets_of_nsl {P : Program} {f : FuncId} {t : Ty} {xs : List t.D} {r : PV} {os' : List PV} (h1 : xs = [] → Meets P f [.nsl true t xs] [] r os') (h2 : Meets P f [.nsl false t xs] [] r os') : Meets P f [.sl 0 t xs] [] r os' := by
  refine ⟨h2.1, h2.2.1, fun c vs hS hE hsz hval => ?_⟩
  have h0 := hE.rep (T 0)
  rw [hS, S0_T] at h0
  have h0' : RepC c.w c.K (.l t) 0 xs [c.val (T 0)] (c.Fq (T 0)) := h0
  obtain ⟨ad, cap, e1, e2, e3, e4⟩ := h0'
  have e0 : c.val (T 0) = .slice ad xs.length cap := by simpa using e1
  have go : ∀ b : Bool, ad.isNone = b → Meets P f [.nsl b t xs] [] r os' → CallRes P f vs c.w (fun v w' => ∃ c' Fr, c'.w = w' ∧ Left c ([] : List PV).length os' r v c' Fr) := by
    intro b hb hm
    let d : Cx := { c with S := S0 [.nsl b t xs] [] }
    have hEd : Entry d := {
      rep := by
        intro l
        have hl := hE.rep l
        rw [hS] at hl
        show RepV d (S0 [.nsl b t xs] [] l).pv (c.val l) (c.Fq l)
        rcases loc_cases l with ⟨k, rfl⟩ | ⟨j, rfl⟩
        · rw [S0_T] at hl ⊢
          cases k with
          | zero => exact ⟨h0, ad, _, cap, e0, hb⟩
          | succ k => exact hl
        · rw [S0_O] at hl ⊢
          exact hl
      dis := hE.dis
      holds := hE.holds
      kdis := hE.kdis
      bound := hE.bound }
    have := hm.2.2 d vs rfl hEd hsz hval
    unfold CallRes at this ⊢
    split
    · rename_i v w' e
      rw [show d.w = c.w from rfl, e] at this
      obtain ⟨c', Fr, g1, g2⟩ := this
      exact ⟨c', Fr, g1, g2.of rfl rfl rfl rfl⟩
    · rename_i f' args w' e
      rw [show d.w = c.w from rfl, e] at this
      exact this.mono fun e w'' ⟨v, k1, c', Fr, g1, g2⟩ => ⟨v, k1, c', Fr, g1, g2.of rfl rfl rfl rfl⟩
    · rename_i h1 h2
      rw [show d.w = c.w from rfl] at this
      split at this
      · rename_i v w' e; exact (h1 _ _ e).elim
      · rename_i f' args w' e; exact (h2 _ _ _ e).elim
      · exact this
  cases had : ad with
  | none =>
    have hx : xs = [] := by
      rcases e4 with h | ⟨b, o, cs, h, _⟩
      · exact h
      · rw [had] at h; simp at h
    exact go true (by rw [had]; rfl) (h1 hx)
  | some _ => exact go false (by rw [had]; rfl) h2
theorem clone_sound {P : Program} {f : FuncId} {t : Ty} {ρ : Type}
    (h1 : FnSound P (fnC (ρ := PV × List PV) f (lOne (cNsl true t)) lNil (fun (e : List t.D) => ((.sl 1 t e : PV), ([] : List PV))) (fun a o K => K [])))
    (h2 : FnSound P (fnC (ρ := PV × List PV) f (lOne (cNsl false t)) lNil (fun (e : List t.D) => ((.sl 1 t e : PV), ([] : List PV))) (fun a o K => chk (decide (0 + a.length ≤ LIM)) (K a)))) :
    FnSound P (fnC (ρ := ρ) f (lOne (cSl 0 t)) lNil (fun (e : List t.D) => ((.sl 1 t e : PV), ([] : List PV))) (fun a o K => chk (decide (a.length ≤ LIM)) (K a))) := by
  intro as_ os K x h
  unfold fnC at h
  dsimp only at h
  split at h
  · rename_i a ha
    split at h
    · rename_i o hos
      have ea := (lOne (cSl 0 t)).ok _ _ ha
      have eo := lNil.ok _ _ hos
      subst ea eo
      cases hl : decide (a.length ≤ LIM) with
      | false => unfold chk at h; rw [hl] at h; simp at h
      | true =>
        unfold chk at h
        rw [hl] at h
        refine ⟨.sl 1 t a, [], meets_of_nsl (fun hx => ?_) ?_, h⟩
        · subst hx
          obtain ⟨r, os', k1, k2⟩ := h1 [.nsl true t []] [] (fun r o => some (r, o)) (.sl 1 t [], []) (by
            unfold fnC
            dsimp only
            rw [show (lOne (cNsl true t)).dec [.nsl true t []] = some [] from (cNsl true t).back []]
            rfl)
          simp only [Option.some.injEq, Prod.mk.injEq] at k2
          rw [k2.1, k2.2] at k1
          exact k1
        · obtain ⟨r, os', k1, k2⟩ := h2 [.nsl false t a] [] (fun r o => some (r, o)) (.sl 1 t a, []) (by
            unfold fnC
            dsimp only
            rw [show (lOne (cNsl false t)).dec [.nsl false t a] = some a from (cNsl false t).back a]
            show chk (decide (0 + a.length ≤ LIM)) (some ((.sl 1 t a : PV), ([] : List PV))) = _
            rw [Nat.zero_add, hl]; rfl)
          simp only [Option.some.injEq, Prod.mk.injEq] at k2
          rw [k2.1, k2.2] at k1
          exact k1
    · simp at h
  · simp at h
end Go.VI
