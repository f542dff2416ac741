/-
  An interpreter of the functions of a program as plain functions of lists and numbers, part 27: what it computes is what the program does. No condition but those that its theorems name.
-/
import Derived.Test.YtjijojnmbjmecaaVi25
set_option linter.unusedVariables false
set_option linter.constructorNameAsVariable false
namespace Go.VI
theorem Elems.pull {α : Type} {R : α → List Value → FP → Prop} {k : Nat} (hR : ∀ x vs F, R x vs F → vs.length = k) {xs : List α} {vs : List Value} {F : FP} (h : Elems R xs vs F) {n : Nat} (hn : n < xs.length) :
    ∃ Fn Fr, R (xs[n]) ((vs.drop (n * k)).take k) Fn ∧ Fn.dis Fr ∧ F.or Fn Fr ∧ ∀ (R' : α → List Value → FP → Prop), (∀ x vs F, (∀ b, F b → Fr b) → R x vs F → R' x vs F) → ∀ (y : α) (us : List Value) (G : FP), R' y us G → G.dis Fr →
      Elems R' (xs.set n y) (vs.take (n * k) ++ us ++ vs.drop (n * k + k)) (fun b => G b ∨ Fr b) := by
  induction xs generalizing n vs F with
  | nil => simp at hn
  | cons x xs ih =>
    obtain ⟨va, vb, Fa, Fb, h1, h2, h3, h4, h5⟩ := h
    have hl := hR _ _ _ h2
    subst h1
    cases n with
    | zero =>
      refine ⟨Fa, Fb, ?_, h4, h5, fun R' hRR y us G hy hd => ⟨us, vb, G, Fb, ?_, hy, h3.mono (fun x vs F _ hF h => hRR x vs F hF h), hd, fun _ => Iff.rfl⟩⟩
      · rw [Nat.zero_mul, List.drop_zero, ← hl, List.take_left]; exact h2
      · rw [Nat.zero_mul, List.take_zero, Nat.zero_add, ← hl, List.drop_left]; rfl
    | succ n =>
      obtain ⟨Gn, Gr, g1, g2, g3, g4⟩ := ih h3 (by simpa using hn)
      refine ⟨Gn, fun b => Fa b ∨ Gr b, ?_, ?_, ?_, fun R' hRR y us G hy hd => ?_⟩
      · rw [drop_app hl]; exact g1
      · rintro b k1 (k2 | k2)
        · exact h4 b k2 ((g3 b).2 (.inl k1))
        · exact g2 b k1 k2
      · intro b
        rw [h5 b, g3 b]
        constructor
        · rintro (k | k | k)
          · exact .inr (.inl k)
          · exact .inl k
          · exact .inr (.inr k)
        · rintro (k | k | k)
          · exact .inr (.inl k)
          · exact .inl k
          · exact .inr (.inr k)
      · refine ⟨va, _, Fa, _, ?_, hRR _ _ _ (fun b hb => .inl hb) h2, g4 R' (fun x vs F hF h => hRR x vs F (fun b hb => .inr (hF b hb)) h) y us G hy (fun b k1 k2 => hd b k1 (.inr k2)), ?_, ?_⟩
        · rw [take_app hl, drop_app' hl]; simp
        · rintro b k1 (k2 | k2)
          · exact hd b k2 (.inl k1)
          · exact h4 b k1 ((g3 b).2 (.inr k2))
        · intro b
          constructor
          · rintro (k | k | k)
            · exact .inr (.inl k)
            · exact .inl k
            · exact .inr (.inr k)
          · rintro (k | k | k)
            · exact .inr (.inl k)
            · exact .inl k
            · exact .inr (.inr k)
/-- One element of an owned slice, split off. -/
theorem elem_split {w : World} {K : Kn} {e : Ty} {d i : Nat} {xss : List (Ty.l e).D} {v : Value} {F : FP} (h : RepC w K (.l (.l e)) (d + 1) xss [v] F) (hi : i < xss.length) :
    ∃ (Fn Fr : FP) (hdr : Value), F.or Fn Fr ∧ Fn.dis Fr ∧ RepC w K (.l e) d (xss.getD i []) [hdr] Fn ∧
      (∀ b o n cap, v = .slice (some ⟨b, o, none⟩) n cap → w.cell? ⟨b, o + i, none⟩ = some hdr) ∧
      ∀ (w' : World) (K' : Kn) (y : (Ty.l e).D) (G : FP), (∀ b, Fr b → w'.heap[b]? = w.heap[b]?) → (∀ b o v, K b o v → K' b o v) → RepC w' K' (.l e) d y [hdr] G → G.dis Fr →
        RepC w' K' (.l (.l e)) (d + 1) (xss.set i y) [v] (fun b => G b ∨ Fr b) := by
  obtain ⟨ad, cap, h1, h2, h3⟩ := h
  simp only [List.cons.injEq, and_true] at h1
  rcases h3 with ⟨h3, _⟩ | ⟨b, o, arr, ty, F', g1, g2, g3, g4, g5, g6⟩
  · rw [h3] at hi; simp at hi
  · have hR : ∀ x vs F, RepC w K (.l e) d x vs F → vs.length = (Ty.l e).sz := fun x vs F h => h.len
    have hvl := g4.len hR
    have hsz : (Ty.l e).sz = 1 := rfl
    obtain ⟨Fn, Fr, k1, k2, k3, k4⟩ := g4.pull hR hi
    rw [hsz, Nat.mul_one] at hvl k1
    rw [Nat.mul_one] at k1
    have hlt : i < ((arr.toList.drop o).take xss.length).length := by rw [hvl]; exact hi
    obtain ⟨hdr, hh⟩ : ∃ hdr, ((arr.toList.drop o).take xss.length)[i]? = some hdr := ⟨_, List.getElem?_eq_getElem hlt⟩
    have hd1 := one_drop hh
    rw [hd1] at k1
    have hx : xss.getD i [] = xss[i] := by rw [List.getD_eq_getElem?_getD, List.getElem?_eq_getElem hi]; rfl
    refine ⟨Fn, fun c => c = b ∨ Fr c, hdr, ?_, ?_, by rw [hx]; exact k1, ?_, ?_⟩
    · intro c
      rw [g6 c, k3 c]
      constructor
      · rintro (h | h | h)
        · exact .inr (.inl h)
        · exact .inl h
        · exact .inr (.inr h)
      · rintro (h | h | h)
        · exact .inr (.inl h)
        · exact .inl h
        · exact .inr (.inr h)
    · rintro c q1 (q2 | q2)
      · subst q2; exact g5 ((k3 c).2 (.inl q1))
      · exact k2 c q1 q2
    · intro b' o' n' cap' e1
      rw [h1, g1] at e1
      injection e1 with e1 _ _
      injection e1 with e1
      injection e1 with e1 e2 _
      subst e1 e2
      rw [cell_of_heap g2]
      rw [List.getElem?_take, if_pos hi, List.getElem?_drop] at hh
      simpa using hh
    · intro w' K' y G hw hK hy hd
      refine ⟨ad, cap, by rw [List.length_set, h1], by rw [List.length_set]; exact h2, .inr ⟨b, o, arr, ty, fun c => G c ∨ Fr c, g1, (hw b (.inl rfl)).trans g2, g3, ?_, ?_, ?_⟩⟩
      · have := k4 (RepC w' K' (.l e) d) (fun x vs F hF h => h.keep hK (fun b hb => hw b (.inr (hF b hb)))) y [hdr] G hy (fun c q1 q2 => hd c q1 (.inr q2))
        rw [List.length_set]
        have e2 : ((arr.toList.drop o).take (xss.length * (Ty.l e).sz)).take (i * (Ty.l e).sz) ++ [hdr] ++ ((arr.toList.drop o).take (xss.length * (Ty.l e).sz)).drop (i * (Ty.l e).sz + (Ty.l e).sz) = (arr.toList.drop o).take (xss.length * (Ty.l e).sz) := by
          rw [hsz, Nat.mul_one, Nat.mul_one]
          have hg : ((arr.toList.drop o).take xss.length)[i] = hdr := by
            rw [List.getElem?_eq_getElem hlt] at hh; exact Option.some.inj hh
          rw [← hg, List.take_append_getElem hlt, List.take_append_drop]
        rw [e2] at this
        exact this
      · rintro (q | q)
        · exact hd b q (.inl rfl)
        · exact g5 ((k3 b).2 (.inr q))
      · intro c
        constructor
        · rintro (q | q | q)
          · exact .inr (.inl q)
          · exact .inl q
          · exact .inr (.inr q)
        · rintro (q | q | q)
          · exact .inr (.inl q)
          · exact .inl q
          · exact .inr (.inr q)
end Go.VI
