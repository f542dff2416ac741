/-
  An interpreter of the functions of a program as plain functions of lists and numbers, part 10: what it computes is what the program does. No condition but those that its theorems name.
-/
import Derived.Test.YtjijojnmbjmecaaVi9
set_option linter.unusedVariables false
set_option linter.constructorNameAsVariable false
namespace Go.VI
/-! ### lists of elements -/
theorem drop_app {va vb : List Value} {n k : Nat} (hl : va.length = k) : (va ++ vb).drop ((n + 1) * k) = vb.drop (n * k) := by
  subst hl; rw [Nat.succ_mul, Nat.add_comm, ← List.drop_drop, List.drop_left]
theorem drop_app' {va vb : List Value} {n k : Nat} (hl : va.length = k) : (va ++ vb).drop ((n + 1) * k + k) = vb.drop (n * k + k) := by
  subst hl; rw [Nat.succ_mul, show n * va.length + va.length + va.length = va.length + (n * va.length + va.length) by omega, ← List.drop_drop, List.drop_left]
theorem take_app {va vb : List Value} {n k : Nat} (hl : va.length = k) : (va ++ vb).take ((n + 1) * k) = va ++ vb.take (n * k) := by
  subst hl; rw [Nat.succ_mul, Nat.add_comm, List.take_add, List.take_left, List.drop_left]
theorem Elems.get {α : Type} {R : α → List Value → FP → Prop} {k : Nat} (hR : ∀ x vs F, R x vs F → vs.length = k) : ∀ {xs : List α} {vs : List Value} {F : FP} {n : Nat} {x : α},
    Elems R xs vs F → xs[n]? = some x → ∃ Fn, R x ((vs.drop (n * k)).take k) Fn ∧ ∀ b, Fn b → F b
  | [], vs, F, n, x, h, hn => by simp at hn
  | y :: ys, vs, F, n, x, ⟨va, vb, Fa, Fb, h1, h2, h3, h4, h5⟩, hn => by
    have hl := hR _ _ _ h2
    cases n with
    | zero =>
      simp only [List.getElem?_cons_zero, Option.some.injEq] at hn
      subst hn
      refine ⟨Fa, ?_, fun b hb => (h5 b).2 (.inl hb)⟩
      rw [h1, Nat.zero_mul, List.drop_zero, ← hl, List.take_left]; exact h2
    | succ n =>
      obtain ⟨Fn, g1, g2⟩ := Elems.get hR h3 (by simpa using hn)
      refine ⟨Fn, ?_, fun b hb => (h5 b).2 (.inr (g2 b hb))⟩
      rw [h1, drop_app hl]; exact g1
theorem Elems.append {α : Type} {R : α → List Value → FP → Prop} : ∀ {xs ys : List α} {vs us : List Value} {F G : FP}, Elems R xs vs F → Elems R ys us G → F.dis G → Elems R (xs ++ ys) (vs ++ us) (fun b => F b ∨ G b)
  | [], ys, vs, us, F, G, h, h', hd => by
    obtain ⟨rfl, h2⟩ := h
    have : (fun b => F b ∨ G b) = G := FP.ext fun b => ⟨fun h => h.elim (fun h => (h2 b h).elim) id, .inr⟩
    rw [this]; exact h'
  | x :: xs, ys, vs, us, F, G, ⟨va, vb, Fa, Fb, h1, h2, h3, h4, h5⟩, h', hd => by
    refine ⟨va, vb ++ us, Fa, fun b => Fb b ∨ G b, by rw [h1, List.append_assoc], h2, h3.append h' (fun b k1 k2 => hd b ((h5 b).2 (.inr k1)) k2), ?_, ?_⟩
    · rintro b k1 (k2 | k2)
      · exact h4 b k1 k2
      · exact hd b ((h5 b).2 (.inl k1)) k2
    · intro b
      constructor
      · rintro (k | k)
        · exact ((h5 b).1 k).imp id .inl
        · exact .inr (.inr k)
      · rintro (k | k | k)
        · exact .inl ((h5 b).2 (.inl k))
        · exact .inl ((h5 b).2 (.inr k))
        · exact .inr k
theorem Elems.split {α : Type} {R : α → List Value → FP → Prop} {k : Nat} (hR : ∀ x vs F, R x vs F → vs.length = k) : ∀ (n : Nat) {xs : List α} {vs : List Value} {F : FP}, Elems R xs vs F → n ≤ xs.length →
    ∃ Fa Fb, Elems R (xs.take n) (vs.take (n * k)) Fa ∧ Elems R (xs.drop n) (vs.drop (n * k)) Fb ∧ Fa.dis Fb ∧ F.or Fa Fb
  | 0, xs, vs, F, h, _ => ⟨fun _ => False, F, ⟨by simp, no_none⟩, by simpa using h, fun _ h => h.elim, fun _ => by simp⟩
  | n + 1, [], vs, F, h, hn => by simp at hn
  | n + 1, x :: xs, vs, F, ⟨va, vb, Fa, Fb, h1, h2, h3, h4, h5⟩, hn => by
    have hl := hR _ _ _ h2
    obtain ⟨Ga, Gb, g1, g2, g3, g4⟩ := Elems.split hR n h3 (by simpa using hn)
    refine ⟨fun b => Fa b ∨ Ga b, Gb, ⟨va, vb.take (n * k), Fa, Ga, ?_, h2, g1, fun b k1 k2 => h4 b k1 ((g4 b).2 (.inl k2)), fun _ => Iff.rfl⟩, ?_, ?_, ?_⟩
    · rw [h1, take_app hl]
    · rw [h1, drop_app hl]; exact g2
    · rintro b (k1 | k1) k2
      · exact h4 b k1 ((g4 b).2 (.inr k2))
      · exact g3 b k1 k2
    · intro b
      rw [h5 b, g4 b]
      exact or_assoc.symm
theorem Elems.set {α : Type} {R : α → List Value → FP → Prop} {k : Nat} (hR : ∀ x vs F, R x vs F → vs.length = k) {xs : List α} {vs : List Value} {F : FP} (h : Elems R xs vs F) {n : Nat} (hn : n < xs.length) :
    ∃ Fn Fr, R (xs[n]) ((vs.drop (n * k)).take k) Fn ∧ Fn.dis Fr ∧ F.or Fn Fr ∧ ∀ (y : α) (us : List Value) (G : FP), R y us G → G.dis Fr →
      Elems R (xs.set n y) (vs.take (n * k) ++ us ++ vs.drop (n * k + k)) (fun b => G b ∨ Fr b) := by
  induction xs generalizing n vs F with
  | nil => simp at hn
  | cons x xs ih =>
    obtain ⟨va, vb, Fa, Fb, h1, h2, h3, h4, h5⟩ := h
    have hl := hR _ _ _ h2
    subst h1
    cases n with
    | zero =>
      refine ⟨Fa, Fb, ?_, h4, h5, fun y us G hy hd => ⟨us, vb, G, Fb, ?_, hy, h3, hd, fun _ => Iff.rfl⟩⟩
      · rw [Nat.zero_mul, List.drop_zero, ← hl, List.take_left]; exact h2
      · rw [Nat.zero_mul, List.take_zero, Nat.zero_add, ← hl, List.drop_left]; rfl
    | succ n =>
      obtain ⟨Gn, Gr, g1, g2, g3, g4⟩ := ih h3 (by simpa using hn)
      refine ⟨Gn, fun b => Fa b ∨ Gr b, ?_, ?_, ?_, fun y us G hy hd => ?_⟩
      · rw [drop_app hl]; exact g1
      · rintro b k1 (k2 | k2)
        · exact h4 b k2 ((g3 b).2 (.inl k1))
        · exact g2 b k1 k2
      · intro b
        rw [h5 b, g3 b]
        constructor
        · rintro (k | k | k)
          · exact .inr (.inl k)
          · exact .inl k
          · exact .inr (.inr k)
        · rintro (k | k | k)
          · exact .inr (.inl k)
          · exact .inl k
          · exact .inr (.inr k)
      · refine ⟨va, _, Fa, _, ?_, h2, g4 y us G hy (fun b k1 k2 => hd b k1 (.inr k2)), ?_, ?_⟩
        · rw [take_app hl, drop_app' hl]; simp
        · rintro b k1 (k2 | k2)
          · exact hd b k2 (.inl k1)
          · exact h4 b k1 ((g3 b).2 (.inr k2))
        · intro b
          constructor
          · rintro (k | k | k)
            · exact .inr (.inl k)
            · exact .inl k
            · exact .inr (.inr k)
          · rintro (k | k | k)
            · exact .inr (.inl k)
            · exact .inl k
            · exact .inr (.inr k)
theorem RepR.len {K1 K0 : Kn} : ∀ {t : Ty} {d : Nat} {x : t.D} {vs : List Value}, RepR K1 K0 t d x vs → vs.length = t.sz
  | .i _, _, _, _, h => by rw [show _ = _ from h]; rfl
  | .b, _, _, _, h => by rw [show _ = _ from h]; rfl
  | .s, _, _, _, h => by rw [show _ = _ from h]; rfl
  | .p x y, d, v, vs, ⟨va, vb, h1, h2, h3⟩ => by rw [h1, List.length_append, h2.len, h3.len]; rfl
  | .l e, d, xs, vs, ⟨ad, cap, h1, _⟩ => by rw [h1]; rfl
theorem RepR.zero {w : World} {K1 K0 : Kn} : ∀ {t : Ty} {x : t.D} {vs : List Value}, RepR K1 K0 t 0 x vs → RepC w K0 t 0 x vs Nil
  | .i _, _, _, h => ⟨h, no_none⟩
  | .b, _, _, h => ⟨h, no_none⟩
  | .s, _, _, h => ⟨h, no_none⟩
  | .p x y, v, vs, ⟨va, vb, g1, g2, g3⟩ => ⟨va, vb, _, _, g1, g2.zero, g3.zero, fun _ h => h.elim, fun _ => by simp [Nil]⟩
  | .l e, xs, vs, ⟨ad, cap, g1, g2, g3⟩ => ⟨ad, cap, g1, g2, no_none, g3.imp id fun ⟨b, o, cs, k1, k2, k3⟩ => ⟨b, o, cs, k1, k2, k3.mono fun x vs F _ hF h => by
      rw [FP.eq_of_none h.2]; exact h.1.zero⟩⟩
/-- Flat data stand on nothing. -/
theorem RepR.flat {w : World} {K1 K0 K : Kn} : ∀ {t : Ty} {d : Nat} {x : t.D} {vs : List Value}, t.dep = 0 → RepR K1 K0 t d x vs → ∀ d', RepC w K t d' x vs Nil
  | .i _, _, _, _, _, h, _ => ⟨h, no_none⟩
  | .b, _, _, _, _, h, _ => ⟨h, no_none⟩
  | .s, _, _, _, _, h, _ => ⟨h, no_none⟩
  | .p x y, d, v, vs, hd, ⟨va, vb, g1, g2, g3⟩, d' => by
    have h' : max x.dep y.dep = 0 := hd
    exact ⟨va, vb, _, _, g1, g2.flat (by omega) d', g3.flat (by omega) d', fun _ h => h.elim, fun _ => by simp [Nil]⟩
  | .l e, _, _, _, hd, _, _ => by simp [Ty.dep] at hd
theorem Ty.dflt_rep (w : World) (K : Kn) : ∀ (t : Ty) (d : Nat), RepC w K t d t.dflt t.zeroVals Nil
  | .i _, _ => ⟨rfl, no_none⟩
  | .b, _ => ⟨rfl, no_none⟩
  | .s, _ => ⟨rfl, no_none⟩
  | .p x y, d => ⟨_, _, _, _, rfl, Ty.dflt_rep w K x d, Ty.dflt_rep w K y d, fun _ h => h.elim, fun _ => by simp [Nil]⟩
  | .l e, 0 => ⟨none, 0, rfl, Nat.le_refl _, no_none, .inl rfl⟩
  | .l e, d + 1 => ⟨none, 0, rfl, Nat.le_refl _, .inl ⟨rfl, rfl, no_none⟩⟩
/-- What a slice tells of itself. -/
theorem RepC.slice {w : World} {K : Kn} {e : Ty} {d : Nat} {xs : List e.D} {v : Value} {F : FP} (h : RepC w K (.l e) d xs [v] F) : ∃ ad cap, v = .slice ad xs.length cap ∧ xs.length ≤ cap := by
  obtain ⟨ad, cap, h1, h2, _⟩ := h
  simp only [List.cons.injEq, and_true] at h1
  exact ⟨ad, cap, h1, h2⟩
theorem RepR.slice {K1 K0 : Kn} {e : Ty} {d : Nat} {xs : List e.D} {v : Value} (h : RepR K1 K0 (.l e) d xs [v]) : ∃ ad cap, v = .slice ad xs.length cap ∧ xs.length ≤ cap := by
  obtain ⟨ad, cap, h1, h2, _⟩ := h
  simp only [List.cons.injEq, and_true] at h1
  exact ⟨ad, cap, h1, h2⟩
end Go.VI
