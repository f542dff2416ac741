/-
  An interpreter of the functions of a program as plain functions of lists and numbers, part 14: what it computes is what the program does. No condition but those that its theorems name.
-/
import Derived.Test.YtjijojnmbjmecaaVi13
set_option linter.unusedVariables false
set_option linter.constructorNameAsVariable false
namespace Go.VI
theorem castL_rep {c : Cx} {t t' : Ty} (h : t'.beq t = true) {d : Nat} {xs : List t'.D} {v : Value} {F : FP} (hr : RepC c.w c.K (.l t') d xs [v] F) : RepC c.w c.K (.l t) d (castL h xs) [v] F := by
  have e := Ty.beq_eq h
  subst e
  exact hr
theorem ofCells_ok {c : Cx} : ∀ {t : Ty} {cs rest : List PV} {y : t.D} {de : Option Nat} {vs : List Value} {F : FP}, t.ofCells cs = some (y, de, rest) → RepVs c cs vs F →
    ∃ va vb Fa Fb, vs = va ++ vb ∧ (∀ d, de = none ∨ de = some d → RepC c.w c.K t d y va Fa) ∧ RepVs c rest vb Fb ∧ Fa.dis Fb ∧ F.or Fa Fb
  | .i k, [], rest, y, de, vs, F, h, hr => by simp [Ty.ofCells] at h
  | .i k, p :: r, rest, y, de, vs, F, h, ⟨v, vs', Fa, Fb, h1, h2, h3, h4, h5⟩ => by
    cases p with
    | int k' n =>
      simp only [Ty.ofCells] at h
      cases hk : kbeq k k' with
      | false => rw [hk] at h; simp at h
      | true =>
        rw [hk] at h
        simp only [cond_true, Option.some.injEq, Prod.mk.injEq] at h
        obtain ⟨rfl, rfl, rfl⟩ := h
        obtain rfl := kbeq_eq hk
        exact ⟨[v], vs', Fa, Fb, h1, fun d _ => ⟨by rw [h2.1], h2.2⟩, h3, h4, h5⟩
    | _ => simp [Ty.ofCells] at h
  | .b, [], rest, y, de, vs, F, h, hr => by simp [Ty.ofCells] at h
  | .b, p :: r, rest, y, de, vs, F, h, ⟨v, vs', Fa, Fb, h1, h2, h3, h4, h5⟩ => by
    cases p with
    | bool x =>
      simp only [Ty.ofCells, Option.some.injEq, Prod.mk.injEq] at h
      obtain ⟨rfl, rfl, rfl⟩ := h
      exact ⟨[v], vs', Fa, Fb, h1, fun d _ => ⟨by rw [h2.1], h2.2⟩, h3, h4, h5⟩
    | _ => simp [Ty.ofCells] at h
  | .s, [], rest, y, de, vs, F, h, hr => by simp [Ty.ofCells] at h
  | .s, p :: r, rest, y, de, vs, F, h, ⟨v, vs', Fa, Fb, h1, h2, h3, h4, h5⟩ => by
    cases p with
    | str x =>
      simp only [Ty.ofCells, Option.some.injEq, Prod.mk.injEq] at h
      obtain ⟨rfl, rfl, rfl⟩ := h
      exact ⟨[v], vs', Fa, Fb, h1, fun d _ => ⟨by rw [h2.1], h2.2⟩, h3, h4, h5⟩
    | _ => simp [Ty.ofCells] at h
  | .l e, [], rest, y, de, vs, F, h, hr => by simp [Ty.ofCells] at h
  | .l e, p :: r, rest, y, de, vs, F, h, ⟨v, vs', Fa, Fb, h1, h2, h3, h4, h5⟩ => by
    cases p with
    | sl d t' xs =>
      simp only [Ty.ofCells] at h
      split at h
      · rename_i hb
        simp only [Option.some.injEq, Prod.mk.injEq] at h
        obtain ⟨rfl, rfl, rfl⟩ := h
        refine ⟨[v], vs', Fa, Fb, h1, fun d' hd' => ?_, h3, h4, h5⟩
        rcases hd' with hd' | hd'
        · simp at hd'
        · simp only [Option.some.injEq] at hd'
          subst hd'
          exact castL_rep hb h2
      · simp at h
    | _ => simp [Ty.ofCells] at h
  | .p x y, cs, rest, yy, de, vs, F, h, hr => by
    unfold Ty.ofCells at h
    split at h
    · rename_i v d r1 h1
      split at h
      · rename_i u e r2 h2
        split at h
        · rename_i m hm
          simp only [Option.some.injEq, Prod.mk.injEq] at h
          obtain ⟨rfl, rfl, rfl⟩ := h
          obtain ⟨va, vb, Fa, Fb, g1, g2, g3, g4, g5⟩ := ofCells_ok h1 hr
          obtain ⟨vc, vd, Fc, Fd, k1, k2, k3, k4, k5⟩ := ofCells_ok h2 g3
          refine ⟨va ++ vc, vd, fun b => Fa b ∨ Fc b, Fd, by rw [g1, k1, List.append_assoc], fun d' hd' => ⟨va, vc, Fa, Fc, rfl, g2 d' ?_, k2 d' ?_, fun b q1 q2 => g4 b q1 ((k5 b).2 (.inl q2)), fun _ => Iff.rfl⟩, k3, ?_, ?_⟩
          · cases d with
            | none => exact .inl rfl
            | some d => cases e with
              | none =>
                simp only [dcomb, Option.some.injEq] at hm
                subst hm
                rcases hd' with hd' | hd'
                · simp at hd'
                · exact .inr hd'
              | some e =>
                simp only [dcomb] at hm
                cases hb : Nat.beq d e with
                | true =>
                  rw [hb] at hm
                  simp only [cond_true, Option.some.injEq] at hm
                  subst hm
                  rcases hd' with hd' | hd'
                  · simp at hd'
                  · exact .inr hd'
                | false => rw [hb] at hm; simp at hm
          · cases e with
            | none => exact .inl rfl
            | some e => cases d with
              | none =>
                simp only [dcomb, Option.some.injEq] at hm
                subst hm
                rcases hd' with hd' | hd'
                · simp at hd'
                · exact .inr hd'
              | some d =>
                simp only [dcomb] at hm
                cases hb : Nat.beq d e with
                | true =>
                  rw [hb] at hm
                  simp only [cond_true, Option.some.injEq] at hm
                  subst hm
                  have := Nat.eq_of_beq_eq_true hb
                  subst this
                  rcases hd' with hd' | hd'
                  · simp at hd'
                  · exact .inr hd'
                | false => rw [hb] at hm; simp at hm
          · rintro b (q1 | q1) q2
            · exact g4 b q1 ((k5 b).2 (.inr q2))
            · exact k4 b q1 q2
          · intro b
            rw [g5 b, k5 b]
            exact or_assoc.symm
        · simp at h
      · simp at h
    · simp at h
theorem ofPV_ok {c : Cx} {t : Ty} {p : PV} {y : t.D} {de : Option Nat} {vs : List Value} {F : FP} (h : t.ofPV p = some (y, de)) (hr : RepVs c (cellsOf p) vs F) :
    ∀ d, de = none ∨ de = some d → RepC c.w c.K t d y vs F := by
  unfold Ty.ofPV at h
  split at h
  · rename_i x d heq
    simp only [Option.some.injEq, Prod.mk.injEq] at h
    obtain ⟨rfl, rfl⟩ := h
    obtain ⟨va, vb, Fa, Fb, g1, g2, g3, g4, g5⟩ := ofCells_ok heq hr
    obtain ⟨rfl, h3⟩ := g3
    intro d hd
    have e : F = Fa := FP.ext fun b => ⟨fun h => ((g5 b).1 h).elim id (fun h => (h3 b h).elim), fun h => (g5 b).2 (.inl h)⟩
    rw [g1, e, List.append_nil]
    exact g2 d hd
  · simp at h
/-- What is owned and lies in no place may be frozen. -/
theorem InvF.ghost {B : Base} {n : Nat} {c : Cx} {a : Act} {F F' : FP} (hI : InvF B n c a F) (hF : ∀ b, F' b → F b) :
    ∃ c' : Cx, c.Le c' ∧ c'.w = c.w ∧ c'.S = c.S ∧ c'.val = c.val ∧ (∀ b o v, F b → ¬ F' b → c.w.cell? ⟨b, o, none⟩ = some v → c'.K b o v) ∧ InvF B n c' a F' := by
  let c' : Cx := { c with K := fun b o v => c.K b o v ∨ (F b ∧ ¬ F' b ∧ c.w.cell? ⟨b, o, none⟩ = some v) }
  have hle : c.Le c' := ⟨fun _ _ _ h => .inl h, fun q => ⟨⟨Nat.le_refl _, Nat.le_refl _⟩, fun _ => ⟨rfl, fun _ b o v h1 h2 => .inr ⟨h1, h2⟩⟩⟩⟩
  refine ⟨c', hle, rfl, rfl, rfl, fun b o v h1 h2 h3 => .inr ⟨h1, h2, h3⟩, ?_⟩
  refine hI.step (T 0) hle rfl (fun _ _ => rfl) (fun _ _ => rfl) ((hI.rep (T 0)).turn hle (fun _ _ => rfl)) (fun _ _ _ _ => rfl) (Nat.le_refl _) rfl rfl rfl ?_ ?_ ?_ ?_
  · rintro b o v (h | ⟨h1, h2, h3⟩)
    · exact .inl h
    · exact .inr ⟨.inr (.inl h1), h3⟩
  · rintro b (h | h)
    · exact .inl h
    · exact .inr (.inl (hF b h))
  · intro b h1 h2
    exact hI.disF (T 0) b (hF b h2) h1
  · rintro b o v (h | h) (hk | ⟨h1, h2, h3⟩)
    · exact hI.kdis b o v (.inl ⟨T 0, h⟩) hk
    · exact hI.disF (T 0) b h1 h
    · exact hI.kdis b o v (.inr (hF b h)) hk
    · exact h2 h
/-- A row that a place owns is written. -/
theorem InvF.writeRow {B : Base} {n : Nat} {c : Cx} {a : Act} {F : FP} (hI : InvF B n c a F) {q : Loc} {b : Nat} {arr arr' : Array Value} {ty : TypeId} {p' : PV} {F2 : FP}
    (hb : c.Fq q b) (hh : c.w.heap[b]? = some (.cells arr ty (0, 0))) (hsub : ∀ b, F2 b → c.Fq q b ∨ F b)
    (hr : ∀ c' : Cx, c.Le c' → c'.w = World.row c.w b arr' ty → RepV c' p' (c.val q) F2) :
    ∃ c' : Cx, c.Le c' ∧ c'.w = World.row c.w b arr' ty ∧ c'.K = c.K ∧ c'.S = c.S.md q p' ∧ c'.val = c.val ∧ InvF B n c' a Nil := by
  let c' : Cx := { c with w := World.row c.w b arr' ty, S := c.S.md q p', Fq := fun l b => (l = q ∧ F2 b) ∨ (l ≠ q ∧ c.Fq l b) }
  have hle : c.Le c' := by
    refine ⟨fun b o v h => h, fun l => ?_⟩
    by_cases hl : l = q
    · subst hl
      simp only [c', St.md, upd_same]
      exact ⟨⟨by omega, by omega⟩, fun _ => ⟨by trivial, fun e => by omega⟩⟩
    · simp only [c', St.md, upd_ne _ _ hl]
      refine ⟨⟨Nat.le_refl _, Nat.le_refl _⟩, fun _ => ⟨by trivial, fun _ b' o v h1 h2 => .inr ⟨.inr ⟨hl, h1⟩, ?_⟩⟩⟩
      have hne : b' ≠ b := fun e => by subst e; exact hI.dis l q hl b' h1 hb
      rw [cell_heap_eq (row_ne hne)]; exact h2
  have eq1 : c'.Fq q = F2 := FP.ext fun b => ⟨fun h => h.elim (fun h => h.2) (fun h => (h.1 rfl).elim), fun h => .inl ⟨rfl, h⟩⟩
  have hsz : c'.w.heap.size = c.w.heap.size := by simp [c', World.row]
  refine ⟨c', hle, rfl, rfl, rfl, rfl, hI.step q hle rfl (fun l' hl => by simp only [c', St.md, upd_ne _ _ hl]) (fun l' hl => FP.ext fun b => ⟨fun h => h.elim (fun h => (hl h.1).elim) (fun h => h.2), fun h => .inr ⟨hl, h⟩⟩) ?_ ?_ (Nat.le_of_eq hsz.symm) rfl rfl rfl (fun _ _ _ h => .inl h) ?_ ?_ ?_⟩
  · rw [eq1]
    have : (c'.S q).pv = p' := by simp only [c', St.md, upd_same]
    rw [this]
    exact hr c' hle rfl
  · intro b' h1 h2 h3
    have hne : b' ≠ b := fun e => by subst e; exact h2 hb
    exact row_ne hne
  · rw [eq1]
    rintro b (h | h)
    · exact (hsub b h).imp id .inl
    · exact h.elim
  · exact fun b _ h => h.elim
  · rw [eq1]
    rintro b o v (h | h) hk
    · have hk' : c.K b o v := hk
      rcases hsub b h with h | h
      · exact hI.kdis b o v (.inl ⟨q, h⟩) hk'
      · exact hI.kdis b o v (.inr h) hk'
    · exact h.elim
/-- A row that lies in no place is written. -/
theorem InvF.writeFloat {B : Base} {n : Nat} {c : Cx} {a : Act} {F : FP} (hI : InvF B n c a F) {b : Nat} {arr arr' : Array Value} {ty : TypeId}
    (hb : F b) (hh : c.w.heap[b]? = some (.cells arr ty (0, 0))) :
    c.Le { c with w := World.row c.w b arr' ty } ∧ InvF B n { c with w := World.row c.w b arr' ty } a F := by
  let c' : Cx := { c with w := World.row c.w b arr' ty }
  have hne : ∀ l b', c.Fq l b' → b' ≠ b := fun l b' h e => by subst e; exact hI.disF l b' hb h
  have hle : c.Le c' := ⟨fun b o v h => h, fun l => ⟨⟨Nat.le_refl _, Nat.le_refl _⟩, fun _ => ⟨rfl, fun _ b' o v h1 h2 => .inr ⟨h1, by
    show (World.row c.w b arr' ty).cell? _ = _
    rw [cell_heap_eq (row_ne (hne l b' h1))]; exact h2⟩⟩⟩⟩
  have hsz : c'.w.heap.size = c.w.heap.size := by simp [c', World.row]
  refine ⟨hle, hI.step (T 0) hle rfl (fun _ _ => rfl) (fun _ _ => rfl) ((hI.rep (T 0)).turn hle (fun b' h => row_ne (hne _ b' h))) (fun b' h1 h2 h3 => row_ne (fun e => by subst e; exact h3 hb)) (Nat.le_of_eq hsz.symm) rfl rfl rfl (fun _ _ _ h => .inl h) ?_ ?_ ?_⟩
  · rintro b (h | h)
    · exact .inl h
    · exact .inr (.inl h)
  · exact fun b h1 h2 => hI.disF (T 0) b h2 h1
  · rintro b o v (h | h) hk
    · exact hI.kdis b o v (.inl ⟨T 0, h⟩) hk
    · exact hI.kdis b o v (.inr h) hk
theorem storable_one {c : Cx} {p : PV} {v : Value} {F : FP} (hs : storable p = true) (hr : RepV c p v F) : oneCell v = true := by
  cases p <;> simp [storable] at hs
  case bool => rw [hr.1]; rfl
  case int => rw [hr.1]; rfl
  case str => rw [hr.1]; rfl
  case sl d t xs => obtain ⟨ad, cap, h, _⟩ := RepC.slice hr; rw [h]; rfl
  case cap t xs => obtain ⟨_, ad, h⟩ := hr; rw [h]; rfl
  case box => obtain ⟨b, arr, ty, F', h, _⟩ := hr; rw [h]; rfl
  case nilF => rw [hr.1]; rfl
  case nilI => rw [hr.1]; rfl
  case someI => obtain ⟨⟨t, x, h⟩, _⟩ := hr; rw [h]; rfl
theorem storables_one {c : Cx} : ∀ {ps : List PV} {vs : List Value} {F : FP}, ps.all storable = true → RepVs c ps vs F → ∀ v ∈ vs, oneCell v = true
  | [], vs, F, _, h => by rw [h.1]; simp
  | p :: ps, vs, F, hs, ⟨v, vs', Fa, Fb, h1, h2, h3, _⟩ => by
    simp only [List.all_cons, Bool.and_eq_true] at hs
    rw [h1]
    intro u hu
    rcases List.mem_cons.1 hu with h | h
    · rw [h]; exact storable_one hs.1 h2
    · exact storables_one hs.2 h3 u h
end Go.VI
