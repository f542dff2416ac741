/-
  An interpreter of the functions of a program as plain functions of lists and numbers, part 4: what it computes is what the program does. No condition but those that its theorems name.
-/
import Derived.Test.YtjijojnmbjmecaaVi3
set_option linter.unusedVariables false
set_option linter.constructorNameAsVariable false
namespace Go.VI
/-! ### what a value in memory stands for -/
abbrev FP := Nat → Prop
abbrev Kn := Nat → Nat → Value → Prop
def FP.dis (A B : FP) : Prop := ∀ b, A b → ¬ B b
def FP.none (A : FP) : Prop := ∀ b, ¬ A b
def FP.or (F A B : FP) : Prop := ∀ b, F b ↔ A b ∨ B b
def Elems {α : Type} (R : α → List Value → FP → Prop) : List α → List Value → FP → Prop
  | [], vs, F => vs = [] ∧ F.none
  | x :: xs, vs, F => ∃ va vb Fa Fb, vs = va ++ vb ∧ R x va Fa ∧ Elems R xs vb Fb ∧ Fa.dis Fb ∧ F.or Fa Fb
def RepC (w : World) (K : Kn) : (t : Ty) → Nat → t.D → List Value → FP → Prop
  | .i k, _, n, vs, F => vs = [.int k n] ∧ F.none
  | .b, _, x, vs, F => vs = [.bool x] ∧ F.none
  | .s, _, x, vs, F => vs = [.string ⟨List.toArray x⟩] ∧ F.none
  | .p x y, d, v, vs, F => ∃ va vb Fa Fb, vs = va ++ vb ∧ RepC w K x d v.1 va Fa ∧ RepC w K y d v.2 vb Fb ∧ Fa.dis Fb ∧ F.or Fa Fb
  | .l e, d, xs, vs, F => ∃ ad cap, vs = [.slice ad xs.length cap] ∧ xs.length ≤ cap ∧ match d with
    | 0 => F.none ∧ (xs = [] ∨ ∃ b o cs, ad = some ⟨b, o, none⟩ ∧ (∀ j v, cs[j]? = some v → K b (o + j) v) ∧ Elems (RepC w K e 0) xs cs (fun _ => False))
    | d + 1 => (xs = [] ∧ cap = 0 ∧ F.none) ∨ ∃ b o arr ty F', ad = some ⟨b, o, none⟩ ∧ w.heap[b]? = some (.cells arr ty (0, 0)) ∧ o + cap * e.sz ≤ arr.size ∧
        Elems (RepC w K e d) xs ((arr.toList.drop o).take (xs.length * e.sz)) F' ∧ ¬ F' b ∧ ∀ c, F c ↔ c = b ∨ F' c
theorem Elems.mono {α : Type} {R R' : α → List Value → FP → Prop} : ∀ {xs : List α} {vs : List Value} {F : FP},
    Elems R xs vs F → (∀ x vs F', x ∈ xs → (∀ b, F' b → F b) → R x vs F' → R' x vs F') → Elems R' xs vs F
  | [], _, _, h, _ => h
  | x :: xs, vs, F, ⟨va, vb, Fa, Fb, h1, h2, h3, h4, h5⟩, hr =>
    ⟨va, vb, Fa, Fb, h1, hr x va Fa (by simp) (fun b hb => (h5 b).2 (.inl hb)) h2, h3.mono (fun y vs F' hy hF => hr y vs F' (by simp [hy]) (fun b hb => (h5 b).2 (.inr (hF b hb)))), h4, h5⟩
theorem Elems.len {α : Type} {R : α → List Value → FP → Prop} {n : Nat} (hR : ∀ x vs F, R x vs F → vs.length = n) : ∀ {xs : List α} {vs : List Value} {F : FP},
    Elems R xs vs F → vs.length = xs.length * n
  | [], _, _, h => by simp [h.1]
  | x :: xs, vs, F, ⟨va, vb, Fa, Fb, h1, h2, h3, h4, h5⟩ => by
    rw [h1, List.length_append, hR _ _ _ h2, h3.len hR, List.length_cons, Nat.succ_mul]; omega
theorem RepC.len {w : World} {K : Kn} : ∀ {t : Ty} {d : Nat} {x : t.D} {vs : List Value} {F : FP}, RepC w K t d x vs F → vs.length = t.sz
  | .i _, _, _, _, _, h => by simp [h.1, Ty.sz]
  | .b, _, _, _, _, h => by simp [h.1, Ty.sz]
  | .s, _, _, _, _, h => by simp [h.1, Ty.sz]
  | .p x y, d, v, vs, F, ⟨va, vb, Fa, Fb, h1, h2, h3, _⟩ => by rw [h1, List.length_append, h2.len, h3.len]; rfl
  | .l e, d, xs, vs, F, ⟨ad, cap, h1, _⟩ => by simp [h1, Ty.sz]
theorem Ty.sz_pos : ∀ t : Ty, 0 < t.sz
  | .i _ => by simp [Ty.sz]
  | .b => by simp [Ty.sz]
  | .s => by simp [Ty.sz]
  | .p x y => by have := x.sz_pos; simp [Ty.sz]; omega
  | .l _ => by simp [Ty.sz]
/-- Nothing that it stands on has turned. -/
theorem RepC.keep {w w' : World} {K K' : Kn} (hK : ∀ b o v, K b o v → K' b o v) : ∀ {t : Ty} {d : Nat} {x : t.D} {vs : List Value} {F : FP},
    RepC w K t d x vs F → (∀ b, F b → w'.heap[b]? = w.heap[b]?) → RepC w' K' t d x vs F
  | .i _, _, _, _, _, h, _ => h
  | .b, _, _, _, _, h, _ => h
  | .s, _, _, _, _, h, _ => h
  | .p x y, d, v, vs, F, ⟨va, vb, Fa, Fb, h1, h2, h3, h4, h5⟩, hw =>
    ⟨va, vb, Fa, Fb, h1, h2.keep hK (fun b hb => hw b ((h5 b).2 (.inl hb))), h3.keep hK (fun b hb => hw b ((h5 b).2 (.inr hb))), h4, h5⟩
  | .l e, 0, xs, vs, F, ⟨ad, cap, h1, h2, h3, h4⟩, hw =>
    ⟨ad, cap, h1, h2, h3, h4.imp id fun ⟨b, o, cs, g1, g2, g3⟩ => ⟨b, o, cs, g1, fun j v h => hK _ _ _ (g2 j v h),
      g3.mono fun x vs F' _ hF h => h.keep hK (fun b hb => (hF b hb).elim)⟩⟩
  | .l e, d + 1, xs, vs, F, ⟨ad, cap, h1, h2, h3⟩, hw =>
    ⟨ad, cap, h1, h2, h3.imp id fun ⟨b, o, arr, ty, F', g1, g2, g3, g4, g5, g6⟩ => ⟨b, o, arr, ty, F', g1, (hw b ((g6 b).2 (.inl rfl))).trans g2, g3,
      g4.mono fun x vs F'' _ hF h => h.keep hK (fun b hb => hw b ((g6 b).2 (.inr (hF b hb)))), g5, g6⟩⟩
/-- What is known of memory when some blocks are known whole. -/
def Kx (w : World) (K : Kn) (F : FP) : Kn := fun b o v => K b o v ∨ (F b ∧ w.cell? ⟨b, o, none⟩ = some v)
theorem cell_of_heap {w : World} {b : Nat} {arr : Array Value} {ty : TypeId} {f : Nat × Nat} (h : w.heap[b]? = some (.cells arr ty f)) (o : Nat) :
    w.cell? ⟨b, o, none⟩ = arr[o]? := by
  unfold World.cell?
  simp [h]
theorem RepC.none0 {w : World} {K : Kn} : ∀ {t : Ty} {x : t.D} {vs : List Value} {F : FP}, RepC w K t 0 x vs F → F.none
  | .i _, _, _, _, h => h.2
  | .b, _, _, _, h => h.2
  | .s, _, _, _, h => h.2
  | .p x y, v, vs, F, ⟨va, vb, Fa, Fb, h1, h2, h3, h4, h5⟩ => fun b hb => ((h5 b).1 hb).elim (h2.none0 b) (h3.none0 b)
  | .l e, xs, vs, F, ⟨ad, cap, h1, h2, h3, h4⟩ => h3
/-- Frozen: with what is known of its blocks it stands on them no more. -/
theorem RepC.freeze {w : World} {K K' : Kn} (hK : ∀ b o v, K b o v → K' b o v) : ∀ {t : Ty} {d : Nat} {x : t.D} {vs : List Value} {F : FP},
    RepC w K t d x vs F → (∀ b o v, F b → w.cell? ⟨b, o, none⟩ = some v → K' b o v) → RepC w K' t 0 x vs (fun _ => False)
  | .i _, _, _, _, _, h, _ => ⟨h.1, fun _ h => h⟩
  | .b, _, _, _, _, h, _ => ⟨h.1, fun _ h => h⟩
  | .s, _, _, _, _, h, _ => ⟨h.1, fun _ h => h⟩
  | .p x y, d, v, vs, F, ⟨va, vb, Fa, Fb, h1, h2, h3, h4, h5⟩, hw =>
    ⟨va, vb, _, _, h1, h2.freeze hK (fun b o v hb => hw b o v ((h5 b).2 (.inl hb))), h3.freeze hK (fun b o v hb => hw b o v ((h5 b).2 (.inr hb))), fun _ h => h.elim, fun _ => by simp⟩
  | .l e, 0, xs, vs, F, ⟨ad, cap, h1, h2, h3, h4⟩, hw =>
    ⟨ad, cap, h1, h2, fun _ h => h, h4.imp id fun ⟨b, o, cs, g1, g2, g3⟩ => ⟨b, o, cs, g1, fun j v h => hK _ _ _ (g2 j v h),
      g3.mono fun x vs F' _ hF h => h.keep hK (fun b hb => rfl)⟩⟩
  | .l e, d + 1, xs, vs, F, ⟨ad, cap, h1, h2, h3⟩, hw => by
    refine ⟨ad, cap, h1, h2, fun _ h => h, ?_⟩
    rcases h3 with ⟨g1, _⟩ | ⟨b, o, arr, ty, F', g1, g2, g3, g4, g5, g6⟩
    · exact .inl g1
    · refine .inr ⟨b, o, (arr.toList.drop o).take (xs.length * e.sz), g1, fun j v h => hw b (o + j) v ((g6 b).2 (.inl rfl)) ?_, ?_⟩
      · rw [cell_of_heap g2]
        rw [List.getElem?_take] at h
        split at h
        · rw [List.getElem?_drop] at h; simpa using h
        · simp at h
      · have : ∀ (xs : List e.D) (cs : List Value) (F'' : FP), (∀ b, F'' b → F' b) → Elems (RepC w K e d) xs cs F'' → Elems (RepC w K' e 0) xs cs (fun _ => False) := by
          intro xs
          induction xs with
          | nil => intro cs F'' _ h; exact ⟨h.1, fun _ h => h⟩
          | cons x xs ih =>
            rintro cs F'' hF ⟨va, vb, Fa, Fb, k1, k2, k3, k4, k5⟩
            exact ⟨va, vb, _, _, k1, k2.freeze hK (fun b o v hb => hw b o v ((g6 b).2 (.inr (hF b ((k5 b).2 (.inl hb)))))), ih vb Fb (fun b hb => hF b ((k5 b).2 (.inr hb))) k3, fun _ h => h.elim, fun _ => by simp⟩
        exact this xs _ F' (fun _ h => h) g4
theorem Elems.lower {e : Ty} {w : World} {K : Kn} {d d' : Nat} (ih : ∀ (x : e.D) (vs : List Value) (F : FP), RepC w K e d x vs F →
    ∃ F' : FP, (∀ b, F' b → F b) ∧ ∀ K' : Kn, (∀ b o v, K b o v → K' b o v) → (∀ b o v, F b → ¬ F' b → w.cell? ⟨b, o, none⟩ = some v → K' b o v) → RepC w K' e d' x vs F') :
    ∀ (xs : List e.D) (cs : List Value) (F : FP), Elems (RepC w K e d) xs cs F →
    ∃ F' : FP, (∀ b, F' b → F b) ∧ ∀ K' : Kn, (∀ b o v, K b o v → K' b o v) → (∀ b o v, F b → ¬ F' b → w.cell? ⟨b, o, none⟩ = some v → K' b o v) → Elems (RepC w K' e d') xs cs F'
  | [], cs, F, h => ⟨F, fun _ h => h, fun _ _ _ => h⟩
  | x :: xs, cs, F, ⟨va, vb, Fa, Fb, k1, k2, k3, k4, k5⟩ => by
    obtain ⟨Fa', ha1, ha2⟩ := ih x va Fa k2
    obtain ⟨Fb', hb1, hb2⟩ := Elems.lower ih xs vb Fb k3
    refine ⟨fun b => Fa' b ∨ Fb' b, fun b hb => (k5 b).2 (hb.imp (ha1 b) (hb1 b)), fun K' hK hw => ⟨va, vb, Fa', Fb', k1, ha2 K' hK ?_, hb2 K' hK ?_, fun b h1 h2 => k4 b (ha1 b h1) (hb1 b h2), fun _ => Iff.rfl⟩⟩
    · exact fun b o v h1 h2 h3 => hw b o v ((k5 b).2 (.inl h1)) (fun h => h.elim h2 (fun h => k4 b h1 (hb1 b h))) h3
    · exact fun b o v h1 h2 h3 => hw b o v ((k5 b).2 (.inr h1)) (fun h => h.elim (fun h => k4 b (ha1 b h) h1) h2) h3
/-- Owned less deep: what is owned no more is known. -/
theorem RepC.lower {w : World} {K : Kn} : ∀ {t : Ty} {d d' : Nat} (_ : d' ≤ d) {x : t.D} {vs : List Value} {F : FP}, RepC w K t d x vs F →
    ∃ F' : FP, (∀ b, F' b → F b) ∧ ∀ K' : Kn, (∀ b o v, K b o v → K' b o v) → (∀ b o v, F b → ¬ F' b → w.cell? ⟨b, o, none⟩ = some v → K' b o v) → RepC w K' t d' x vs F'
  | .i _, _, _, _, _, _, F, h => ⟨F, fun _ h => h, fun _ _ _ => h⟩
  | .b, _, _, _, _, _, F, h => ⟨F, fun _ h => h, fun _ _ _ => h⟩
  | .s, _, _, _, _, _, F, h => ⟨F, fun _ h => h, fun _ _ _ => h⟩
  | .p x y, d, d', hd, v, vs, F, ⟨va, vb, Fa, Fb, h1, h2, h3, h4, h5⟩ => by
    obtain ⟨Fa', ha1, ha2⟩ := RepC.lower hd h2
    obtain ⟨Fb', hb1, hb2⟩ := RepC.lower hd h3
    refine ⟨fun b => Fa' b ∨ Fb' b, fun b hb => (h5 b).2 (hb.imp (ha1 b) (hb1 b)), fun K' hK hw => ⟨va, vb, Fa', Fb', h1, ha2 K' hK ?_, hb2 K' hK ?_, fun b k1 k2 => h4 b (ha1 b k1) (hb1 b k2), fun _ => Iff.rfl⟩⟩
    · exact fun b o v k1 k2 k3 => hw b o v ((h5 b).2 (.inl k1)) (fun h => h.elim k2 (fun h => h4 b k1 (hb1 b h))) k3
    · exact fun b o v k1 k2 k3 => hw b o v ((h5 b).2 (.inr k1)) (fun h => h.elim (fun h => h4 b (ha1 b h) k1) k2) k3
  | .l e, d, 0, _, xs, vs, F, h => ⟨fun _ => False, fun _ h => h.elim, fun K' hK hw => h.freeze hK (fun b o v k1 k3 => hw b o v k1 (fun h => h) k3)⟩
  | .l e, d + 1, d' + 1, hd, xs, vs, F, ⟨ad, cap, h1, h2, h3⟩ => by
    rcases h3 with h3 | ⟨b, o, arr, ty, F', g1, g2, g3, g4, g5, g6⟩
    · exact ⟨F, fun _ h => h, fun K' hK hw => ⟨ad, cap, h1, h2, .inl h3⟩⟩
    · obtain ⟨F'', k1, k2⟩ := Elems.lower (d' := d') (fun x vs F h => RepC.lower (by omega) h) xs _ F' g4
      refine ⟨fun c => c = b ∨ F'' c, fun c hc => (g6 c).2 (hc.imp id (k1 c)), fun K' hK hw => ⟨ad, cap, h1, h2, .inr ⟨b, o, arr, ty, F'', g1, g2, g3, k2 K' hK ?_, fun h => g5 (k1 b h), fun _ => Iff.rfl⟩⟩⟩
      intro c o v q1 q2 q3
      refine hw c o v ((g6 c).2 (.inr q1)) (fun h => h.elim (fun h => ?_) q2) q3
      subst h; exact g5 q1

/-- Data that may be read: owned ones to a depth, by what is known of their blocks (K1); what lies deeper is known for good (K0). -/
def RepR (K1 K0 : Kn) : (t : Ty) → Nat → t.D → List Value → Prop
  | .i k, _, n, vs => vs = [.int k n]
  | .b, _, x, vs => vs = [.bool x]
  | .s, _, x, vs => vs = [.string ⟨List.toArray x⟩]
  | .p x y, d, v, vs => ∃ va vb, vs = va ++ vb ∧ RepR K1 K0 x d v.1 va ∧ RepR K1 K0 y d v.2 vb
  | .l e, d, xs, vs => ∃ ad cap, vs = [.slice ad xs.length cap] ∧ xs.length ≤ cap ∧ (xs = [] ∨ ∃ (b o : Nat) (cs : List Value), ad = some ⟨b, o, none⟩ ∧
      (∀ (j : Nat) (v : Value), cs[j]? = some v → (match d with | 0 => K0 | _ => K1) b (o + j) v) ∧ Elems (fun x vs F => RepR K1 K0 e (d - 1) x vs ∧ F.none) xs cs (fun _ => False))
theorem RepR.mono {K1 K0 K1' K0' : Kn} (h1 : ∀ b o v, K1 b o v → K1' b o v) (h0 : ∀ b o v, K0 b o v → K0' b o v) : ∀ {t : Ty} {d : Nat} {x : t.D} {vs : List Value},
    RepR K1 K0 t d x vs → RepR K1' K0' t d x vs
  | .i _, _, _, _, h => h
  | .b, _, _, _, h => h
  | .s, _, _, _, h => h
  | .p x y, d, v, vs, ⟨va, vb, g1, g2, g3⟩ => ⟨va, vb, g1, g2.mono h1 h0, g3.mono h1 h0⟩
  | .l e, d, xs, vs, ⟨ad, cap, g1, g2, g3⟩ => ⟨ad, cap, g1, g2, g3.imp id fun ⟨b, o, cs, k1, k2, k3⟩ => ⟨b, o, cs, k1, fun j v hv => by
      have := k2 j v hv
      cases d with
      | zero => exact h0 _ _ _ this
      | succ d => exact h1 _ _ _ this, k3.mono fun x vs F _ _ h => ⟨h.1.mono h1 h0, h.2⟩⟩⟩
theorem RepC.toR {w : World} {K : Kn} {K1 : Kn} : ∀ {t : Ty} {d : Nat} {x : t.D} {vs : List Value} {F : FP}, RepC w K t d x vs F →
    (∀ b o v, F b → w.cell? ⟨b, o, none⟩ = some v → K1 b o v) → RepR K1 K t d x vs
  | .i _, _, _, _, _, h, _ => h.1
  | .b, _, _, _, _, h, _ => h.1
  | .s, _, _, _, _, h, _ => h.1
  | .p x y, d, v, vs, F, ⟨va, vb, Fa, Fb, g1, g2, g3, g4, g5⟩, h1 =>
    ⟨va, vb, g1, g2.toR (fun b o v hb => h1 b o v ((g5 b).2 (.inl hb))), g3.toR (fun b o v hb => h1 b o v ((g5 b).2 (.inr hb)))⟩
  | .l e, 0, xs, vs, F, ⟨ad, cap, g1, g2, g3, g4⟩, h1 => ⟨ad, cap, g1, g2, g4.imp id fun ⟨b, o, cs, k1, k2, k3⟩ => ⟨b, o, cs, k1, k2, by
      have : ∀ (xs : List e.D) (cs : List Value) (F : FP), Elems (RepC w K e 0) xs cs F → Elems (fun x vs F => RepR K1 K e 0 x vs ∧ F.none) xs cs F := by
        intro xs
        induction xs with
        | nil => intro cs F h; exact h
        | cons x xs ih =>
          rintro cs F ⟨va, vb, Fa, Fb, q1, q2, q3, q4, q5⟩
          exact ⟨va, vb, Fa, Fb, q1, ⟨q2.toR (fun b o v hb => (q2.none0 b hb).elim), q2.none0⟩, ih vb Fb q3, q4, q5⟩
      exact this xs cs _ k3⟩⟩
  | .l e, d + 1, xs, vs, F, ⟨ad, cap, g1, g2, g3⟩, h1 => by
    refine ⟨ad, cap, g1, g2, ?_⟩
    rcases g3 with ⟨g3, _⟩ | ⟨b, o, arr, ty, F', k1, k2, k3, k4, k5, k6⟩
    · exact .inl g3
    · refine .inr ⟨b, o, (arr.toList.drop o).take (xs.length * e.sz), k1, fun j v h => h1 b (o + j) v ((k6 b).2 (.inl rfl)) ?_, ?_⟩
      · rw [cell_of_heap k2]
        rw [List.getElem?_take] at h
        split at h
        · rw [List.getElem?_drop] at h; simpa using h
        · simp at h
      · have : ∀ (xs : List e.D) (cs : List Value) (F'' : FP), (∀ b, F'' b → F' b) → Elems (RepC w K e d) xs cs F'' → Elems (fun x vs F => RepR K1 K e (d + 1 - 1) x vs ∧ F.none) xs cs (fun _ => False) := by
          intro xs
          induction xs with
          | nil => intro cs F'' _ h; exact ⟨h.1, fun _ h => h⟩
          | cons x xs ih =>
            rintro cs F'' hF ⟨va, vb, Fa, Fb, q1, q2, q3, q4, q5⟩
            exact ⟨va, vb, _, _, q1, ⟨q2.toR (fun b o v hb => h1 b o v ((k6 b).2 (.inr (hF b ((q5 b).2 (.inl hb)))))), fun _ h => h⟩, ih vb Fb (fun b hb => hF b ((q5 b).2 (.inr hb))) q3, fun _ h => h.elim, fun _ => by simp⟩
        exact this xs _ F' (fun _ h => h) k4
/-- What may be read is known, if its blocks are. -/
theorem RepR.toC {w : World} {K1 K0 K : Kn} (h1 : ∀ b o v, K1 b o v → K b o v) (h0 : ∀ b o v, K0 b o v → K b o v) : ∀ {t : Ty} {d : Nat} {x : t.D} {vs : List Value},
    RepR K1 K0 t d x vs → RepC w K t 0 x vs (fun _ => False)
  | .i _, _, _, _, h => ⟨h, fun _ h => h⟩
  | .b, _, _, _, h => ⟨h, fun _ h => h⟩
  | .s, _, _, _, h => ⟨h, fun _ h => h⟩
  | .p x y, d, v, vs, ⟨va, vb, g1, g2, g3⟩ => ⟨va, vb, _, _, g1, g2.toC h1 h0, g3.toC h1 h0, fun _ h => h.elim, fun _ => by simp⟩
  | .l e, d, xs, vs, ⟨ad, cap, g1, g2, g3⟩ => ⟨ad, cap, g1, g2, fun _ h => h, g3.imp id fun ⟨b, o, cs, k1, k2, k3⟩ => ⟨b, o, cs, k1, fun j v hv => by
      have := k2 j v hv
      cases d with
      | zero => exact h0 _ _ _ this
      | succ d => exact h1 _ _ _ this, k3.mono fun x vs F _ hF h => by
        rw [show F = fun _ => False from funext fun b => propext ⟨fun hb => h.2 b hb, fun h => h.elim⟩]
        exact h.1.toC h1 h0⟩⟩
/-! ### what a slot holds -/
structure Cx where
  w : World
  K : Kn
  S : St
  val : Loc → Value
  Fq : Loc → FP
mutual
def RepV (c : Cx) : PV → Value → FP → Prop
  | .undef, _, F => F.none
  | .nov, v, F => v = undef ∧ F.none
  | .bool x, v, F => v = .bool x ∧ F.none
  | .int k n, v, F => v = .int k n ∧ F.none
  | .str s, v, F => v = .string ⟨s.toArray⟩ ∧ F.none
  | .agg cs, v, F => ∃ vs, v = .agg vs ∧ RepVs c cs vs.toList F
  | .tup cs, v, F => ∃ vs, v = .tuple vs ∧ RepVs c cs vs.toList F
  | .sl d t xs, v, F => RepC c.w c.K (.l t) d xs [v] F
  | .cap t xs, v, F => RepC c.w c.K (.l t) 0 xs [v] F ∧ ∃ ad, v = .slice ad xs.length xs.length
  | .bor q path ig cg d wh base t xs, v, F => F.none ∧ ig ≤ (c.S q).ig ∧ cg ≤ (c.S q).cg ∧ ((c.S q).ig = ig →
      (path = [] → (wh = true → v = c.val q) ∧ (xs = [] ∨ ∃ b o n cap cap', c.val q = .slice (some ⟨b, o, none⟩) n cap ∧ v = .slice (some ⟨b, o + base * t.sz, none⟩) xs.length cap')) ∧
      ((c.S q).cg = cg → RepR (Kx c.w c.K (c.Fq q)) c.K (.l t) d xs [v]) ∧
      ((c.S q).cg = cg → wh = true → ∀ i, path = [.elem i] → ∃ b o n cap, c.val q = .slice (some ⟨b, o, none⟩) n cap ∧ Kx c.w c.K (c.Fq q) b (o + i) v))
  | .kel none _ _ t x off, v, F => F.none ∧ ∃ b o cs, v = .pointer (some ⟨b, o + off, none⟩) ∧ RepC c.w c.K t 0 x cs (fun _ => False) ∧ ∀ j u, cs[j]? = some u → c.K b (o + j) u
  | .kel (some (q, path, ig, cg)) d i t x off, v, F => F.none ∧ ig ≤ (c.S q).ig ∧ cg ≤ (c.S q).cg ∧ ((c.S q).ig = ig →
      (path = [] → ∃ b o n cap, c.val q = .slice (some ⟨b, o, none⟩) n cap ∧ v = .pointer (some ⟨b, o + i * t.sz + off, none⟩)) ∧
      ((c.S q).cg = cg → ∃ b o cs, v = .pointer (some ⟨b, o + off, none⟩) ∧ RepR (Kx c.w c.K (c.Fq q)) c.K t (d - 1) x cs ∧ ∀ j u, cs[j]? = some u → Kx c.w c.K (c.Fq q) b (o + j) u))
  | .box cs, v, F => ∃ b arr ty F', v = .pointer (some ⟨b, 0, none⟩) ∧ c.w.heap[b]? = some (.cells arr ty (0, 0)) ∧ RepVs c cs arr.toList F' ∧ ¬ F' b ∧ ∀ a, F a ↔ a = b ∨ F' a
  | .ptr q ig off, v, F => F.none ∧ ig ≤ (c.S q).ig ∧ ((c.S q).ig = ig → ∃ b, c.val q = .pointer (some ⟨b, 0, none⟩) ∧ v = .pointer (some ⟨b, off, none⟩))
  | .als q ig, v, F => F.none ∧ ig ≤ (c.S q).ig ∧ ((c.S q).ig = ig → v = c.val q)
  | .clo f caps, v, F => F.none ∧ ∃ vs, v = .func (.func f) #[] vs ∧ RepVs c caps vs.toList (fun _ => False)
  | .bnd f front, v, F => F.none ∧ ∃ vs, v = .func (.func f) vs #[] ∧ RepVs c front vs.toList (fun _ => False)
  | .nilF, v, F => v = .nilFunc ∧ F.none
  | .nilI, v, F => v = .nilIface ∧ F.none
  | .someI, v, F => (∃ t x, v = .iface t x) ∧ F.none
  | .nsl b t xs, v, F => RepC c.w c.K (.l t) 0 xs [v] F ∧ ∃ ad n cap, v = .slice ad n cap ∧ ad.isNone = b
def RepVs (c : Cx) : List PV → List Value → FP → Prop
  | [], vs, F => vs = [] ∧ F.none
  | p :: ps, vs, F => ∃ v vs' Fa Fb, vs = v :: vs' ∧ RepV c p v Fa ∧ RepVs c ps vs' Fb ∧ Fa.dis Fb ∧ F.or Fa Fb
end
/-- How one state of affairs may turn into another one, for what refers to a place. -/
structure Cx.Le (c c' : Cx) : Prop where
  K : ∀ b o v, c.K b o v → c'.K b o v
  q : ∀ q, ((c.S q).ig ≤ (c'.S q).ig ∧ (c.S q).cg ≤ (c'.S q).cg) ∧ ((c.S q).ig = (c'.S q).ig → c'.val q = c.val q ∧
    ((c.S q).cg = (c'.S q).cg → ∀ b o v, c.Fq q b → c.w.cell? ⟨b, o, none⟩ = some v → Kx c'.w c'.K (c'.Fq q) b o v))
mutual
theorem RepV.turn {c c' : Cx} (h : c.Le c') : ∀ {p : PV} {v : Value} {F : FP}, RepV c p v F → (∀ b, F b → c'.w.heap[b]? = c.w.heap[b]?) → RepV c' p v F
  | .undef, _, _, r, _ => r
  | .nov, _, _, r, _ => r
  | .bool _, _, _, r, _ => r
  | .int _ _, _, _, r, _ => r
  | .str _, _, _, r, _ => r
  | .nilF, _, _, r, _ => r
  | .nilI, _, _, r, _ => r
  | .someI, _, _, r, _ => r
  | .agg cs, _, _, ⟨vs, h1, h2⟩, hw => ⟨vs, h1, h2.turn h hw⟩
  | .tup cs, _, _, ⟨vs, h1, h2⟩, hw => ⟨vs, h1, h2.turn h hw⟩
  | .clo f cs, _, _, ⟨h0, vs, h1, h2⟩, hw => ⟨h0, vs, h1, h2.turn h (fun b hb => hb.elim)⟩
  | .bnd f cs, _, _, ⟨h0, vs, h1, h2⟩, hw => ⟨h0, vs, h1, h2.turn h (fun b hb => hb.elim)⟩
  | .sl d t xs, _, _, r, hw => RepC.keep h.K r hw
  | .cap t xs, _, _, ⟨r, h2⟩, hw => ⟨RepC.keep h.K r hw, h2⟩
  | .nsl _ t xs, _, _, ⟨r, h2⟩, hw => ⟨RepC.keep h.K r hw, h2⟩
  | .bor q path ig cg d wh base t xs, v, F, ⟨h1, h2, h3, h4⟩, hw => by
    obtain ⟨⟨q1, q2⟩, q3⟩ := h.q q
    refine ⟨h1, by omega, by omega, fun hig => ?_⟩
    have e1 : (c.S q).ig = ig := by omega
    obtain ⟨q4, q5⟩ := q3 (by omega)
    obtain ⟨k1, k2, k3⟩ := h4 e1
    have mono : (c'.S q).cg = cg → ∀ b o u, Kx c.w c.K (c.Fq q) b o u → Kx c'.w c'.K (c'.Fq q) b o u := by
      rintro hcg b o u (hk | ⟨hb, hc⟩)
      · exact .inl (h.K _ _ _ hk)
      · exact q5 (by omega) b o u hb hc
    refine ⟨fun hp => by rw [q4]; exact k1 hp, fun hcg => ?_, fun hcg hwh i hp => ?_⟩
    · have e2 : (c.S q).cg = cg := by omega
      exact RepR.mono (mono hcg) h.K (k2 e2)
    · have e2 : (c.S q).cg = cg := by omega
      obtain ⟨b, o, n, cap, m1, m2⟩ := k3 e2 hwh i hp
      exact ⟨b, o, n, cap, by rw [q4]; exact m1, mono hcg _ _ _ m2⟩
  | .kel none d i t x off, v, F, ⟨h1, b, o, cs, h2, h3, h4⟩, hw =>
    ⟨h1, b, o, cs, h2, RepC.keep (F := fun _ => False) (w := c.w) h.K h3 (fun b hb => hb.elim), fun j u hu => h.K _ _ _ (h4 j u hu)⟩
  | .kel (some (q, path, ig, cg)) d i t x off, v, F, ⟨h1, h2, h3, h4⟩, hw => by
    obtain ⟨⟨q1, q2⟩, q3⟩ := h.q q
    refine ⟨h1, by omega, by omega, fun hig => ?_⟩
    have e1 : (c.S q).ig = ig := by omega
    obtain ⟨q4, q5⟩ := q3 (by omega)
    obtain ⟨k1, k2⟩ := h4 e1
    refine ⟨fun hp => by rw [q4]; exact k1 hp, fun hcg => ?_⟩
    have e2 : (c.S q).cg = cg := by omega
    have hkx : ∀ b o u, Kx c.w c.K (c.Fq q) b o u → Kx c'.w c'.K (c'.Fq q) b o u := by
      rintro b o u (hk | ⟨hb, hc⟩)
      · exact .inl (h.K _ _ _ hk)
      · exact q5 (by omega) b o u hb hc
    obtain ⟨b, o, cs, g1, g2, g3⟩ := k2 e2
    exact ⟨b, o, cs, g1, RepR.mono hkx h.K g2, fun j u hu => hkx _ _ _ (g3 j u hu)⟩
  | .box cs, v, F, ⟨b, arr, ty, F', h1, h2, h3, h4, h5⟩, hw =>
    ⟨b, arr, ty, F', h1, (hw b ((h5 b).2 (.inl rfl))).trans h2, h3.turn h (fun a ha => hw a ((h5 a).2 (.inr ha))), h4, h5⟩
  | .ptr q ig off, v, F, ⟨h1, h2, h3⟩, hw => by
    obtain ⟨⟨q1, q2⟩, q3⟩ := h.q q
    refine ⟨h1, by omega, fun hig => ?_⟩
    rw [(q3 (by omega)).1]
    exact h3 (by omega)
  | .als q ig, v, F, ⟨h1, h2, h3⟩, hw => by
    obtain ⟨⟨q1, q2⟩, q3⟩ := h.q q
    refine ⟨h1, by omega, fun hig => ?_⟩
    rw [(q3 (by omega)).1]
    exact h3 (by omega)
theorem RepVs.turn {c c' : Cx} (h : c.Le c') : ∀ {ps : List PV} {vs : List Value} {F : FP}, RepVs c ps vs F → (∀ b, F b → c'.w.heap[b]? = c.w.heap[b]?) → RepVs c' ps vs F
  | [], _, _, r, _ => r
  | p :: ps, _, _, ⟨v, vs', Fa, Fb, h1, h2, h3, h4, h5⟩, hw =>
    ⟨v, vs', Fa, Fb, h1, h2.turn h (fun b hb => hw b ((h5 b).2 (.inl hb))), h3.turn h (fun b hb => hw b ((h5 b).2 (.inr hb))), h4, h5⟩
end
end Go.VI
