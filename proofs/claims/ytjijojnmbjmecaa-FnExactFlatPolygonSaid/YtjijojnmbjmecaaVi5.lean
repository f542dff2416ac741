/-
  An interpreter of the functions of a program as plain functions of lists and numbers, part 5: what it computes is what the program does. No condition but those that its theorems name.
-/
import Derived.Test.YtjijojnmbjmecaaVi4
set_option linter.unusedVariables false
set_option linter.constructorNameAsVariable false
namespace Go.VI
theorem FP.eq_of_none {F : FP} (h : F.none) : F = fun _ => False := funext fun b => propext ⟨fun hb => h b hb, fun h => h.elim⟩
theorem FP.ext {F F' : FP} (h : ∀ b, F b ↔ F' b) : F = F' := funext fun b => propext (h b)
theorem no_none : FP.none (fun _ => False) := fun _ h => h
structure Base where
  w0 : World
  A : FP
  K0 : Kn
  vo : Nat → Value
def Owned (c : Cx) (F : FP) (b : Nat) : Prop := (∃ l, c.Fq l b) ∨ F b
structure InvF (B : Base) (n : Nat) (c : Cx) (a : Act) (F : FP) : Prop where
  sz : a.tmps.size = n
  val_t : ∀ k, c.val (T k) = a.tmps.getD k undef
  val_o : ∀ j, c.val (O j) = B.vo j
  rep : ∀ l, RepV c (c.S l).pv (c.val l) (c.Fq l)
  dis : ∀ l l', l ≠ l' → (c.Fq l).dis (c.Fq l')
  disF : ∀ l, F.dis (c.Fq l)
  holds : ∀ b o v, c.K b o v → c.w.cell? ⟨b, o, none⟩ = some v
  kdis : ∀ b o v, Owned c F b → ¬ c.K b o v
  bound : ∀ b, Owned c F b → b < c.w.heap.size
  allowed : ∀ b, Owned c F b → b < B.w0.heap.size → B.A b
  os : c.w.os = B.w0.os
  tape : c.w.tape = B.w0.tape
  output : c.w.output = B.w0.output
  drawn : B.w0.drawn ≤ c.w.drawn
  size : B.w0.heap.size ≤ c.w.heap.size
  frame : ∀ b, b < B.w0.heap.size → ¬ B.A b → c.w.heap[b]? = B.w0.heap[b]?
  K0 : ∀ b o v, B.K0 b o v → c.K b o v
  knew : ∀ b o v, c.K b o v → B.K0 b o v ∨ B.A b ∨ B.w0.heap.size ≤ b
  defers : a.defers = []
/-- How things stand. -/
def Inv (B : Base) (n : Nat) (S : St) (a : Act) (w : World) : Prop := ∃ c : Cx, c.S = S ∧ c.w = w ∧ InvF B n c a (fun _ => False)
theorem Cx.Le.refl (c : Cx) : c.Le c := ⟨fun _ _ _ h => h, fun q => ⟨⟨Nat.le_refl _, Nat.le_refl _⟩, fun _ => ⟨rfl, fun _ b o v h1 h2 => .inr ⟨h1, h2⟩⟩⟩⟩
theorem Cx.Le.trans {a b c : Cx} (h : a.Le b) (k : b.Le c) : a.Le c := by
  refine ⟨fun b o v hh => k.K _ _ _ (h.K _ _ _ hh), fun q => ?_⟩
  obtain ⟨⟨h1, h2⟩, h3⟩ := h.q q
  obtain ⟨⟨k1, k2⟩, k3⟩ := k.q q
  refine ⟨⟨by omega, by omega⟩, fun e => ?_⟩
  obtain ⟨h4, h5⟩ := h3 (by omega)
  obtain ⟨k4, k5⟩ := k3 (by omega)
  refine ⟨k4.trans h4, fun e2 b o v hb hc => ?_⟩
  rcases h5 (by omega) b o v hb hc with hk | ⟨hb', hc'⟩
  · exact .inl (k.K _ _ _ hk)
  · exact k5 (by omega) b o v hb' hc'
theorem RepV.noF {c : Cx} {p : PV} {v : Value} {F : FP} (h : RepV c p v F) (hF : F.none) : RepV c p v (fun _ => False) := by
  rw [FP.eq_of_none hF] at h; exact h
theorem Kx_mono {w : World} {K : Kn} {F F' : FP} (h : ∀ b, F b → F' b) : ∀ b o v, Kx w K F b o v → Kx w K F' b o v
  | b, o, v, .inl hk => .inl hk
  | b, o, v, .inr ⟨h1, h2⟩ => .inr ⟨h b h1, h2⟩
theorem bw_rep {c : Cx} {l : Loc} {path : List Step} {p : PV} {v : Value} {F : FP} (h : RepV c p v F) (hF : ∀ b, F b → c.Fq l b) (hv : path = [] → v = c.val l) (hpe : ∀ i, path ≠ [.elem i]) :
    RepV c (bw l path (c.S l).ig (c.S l).cg p) v (fun _ => False) := by
  cases p with
  | sl d t xs =>
    cases d with
    | zero => exact h.noF (RepC.none0 (t := .l t) h)
    | succ d =>
      refine ⟨no_none, Nat.le_refl _, Nat.le_refl _, fun _ => ⟨fun hp => ⟨fun _ => hv hp, ?_⟩, fun _ => ?_, fun _ _ i hp => (hpe i hp).elim⟩⟩
      · obtain ⟨ad, cap, h1, h2, h3⟩ := h
        rcases h3 with ⟨h3, _⟩ | ⟨b, o, arr, ty, F', g1, _⟩
        · exact .inl h3
        · simp only [List.cons.injEq, and_true] at h1
          refine .inr ⟨b, o, xs.length, cap, cap, by rw [← hv hp, h1, g1], by rw [h1, g1]; simp⟩
      · exact RepC.toR (t := .l t) (show RepC c.w c.K (.l t) (d + 1) xs [v] F from h) (fun b o v hb hc => .inr ⟨hF b hb, hc⟩)
  | box cs =>
    cases path with
    | nil =>
      obtain ⟨b, arr, ty, F', h1, _⟩ := h
      exact ⟨no_none, Nat.le_refl _, fun _ => ⟨b, by rw [← hv rfl, h1], h1⟩⟩
    | cons s r => exact no_none
  | agg cs => exact no_none
  | tup cs => exact no_none
  | cap t xs => exact h.noF (RepC.none0 (t := .l t) h.1)
  | nsl _ t xs => exact h.noF (RepC.none0 (t := .l t) h.1)
  | undef => exact h.noF h
  | nov => exact h.noF h.2
  | bool _ => exact h.noF h.2
  | int _ _ => exact h.noF h.2
  | str _ => exact h.noF h.2
  | bor q' path' ig' cg' d' wh' base' t' xs' => exact h.noF h.1
  | kel fr d i t x off =>
    cases fr with
    | none => exact h.noF h.1
    | some q => obtain ⟨q, path, ig, cg⟩ := q; exact h.noF h.1
  | ptr _ _ _ => exact h.noF h.1
  | als _ _ => exact h.noF h.1
  | clo _ _ => exact h.noF h.1
  | bnd _ _ => exact h.noF h.1
  | nilF => exact h.noF h.2
  | nilI => exact h.noF h.2
  | someI => exact h.noF h.2
theorem RepVs.nil_iff {c : Cx} {vs : List Value} {F : FP} : RepVs c [] vs F ↔ vs = [] ∧ F.none := by rw [RepVs]
theorem bwCells_rep {c : Cx} {l : Loc} : ∀ {cs : List PV} {vs : List Value} {F : FP} (i : Nat), RepVs c cs vs F → (∀ b, F b → c.Fq l b) → RepVs c (bwCells l (c.S l).ig (c.S l).cg i cs) vs (fun _ => False)
  | [], vs, F, i, h, _ => ⟨h.1, no_none⟩
  | p :: ps, _, F, i, ⟨v, vs', Fa, Fb, h1, h2, h3, h4, h5⟩, hF =>
    ⟨v, vs', _, _, h1, bw_rep h2 (fun b hb => hF b ((h5 b).2 (.inl hb))) (fun h => by simp at h) (fun i h => by simp at h), bwCells_rep (i + 1) h3 (fun b hb => hF b ((h5 b).2 (.inr hb))), fun _ h => h.elim, fun _ => by simp⟩
theorem borrow_rep {c : Cx} {l : Loc} (h : RepV c (c.S l).pv (c.val l) (c.Fq l)) : RepV c (borrow l (c.S l)) (c.val l) (fun _ => False) := by
  unfold borrow
  generalize hp : (c.S l).pv = p at h ⊢
  cases p with
  | agg cs =>
    obtain ⟨vs, h1, h2⟩ := h
    exact ⟨vs, h1, bwCells_rep 0 h2 (fun _ h => h)⟩
  | tup _ => exact no_none
  | _ => exact bw_rep h (fun _ h => h) (fun _ => rfl) (fun i h => by simp at h)
theorem const_rep (c : Cx) (t : Option TI) (v : Value) : RepV c (constPV t v) v (fun _ => False) := by
  cases v with
  | bool b => exact ⟨rfl, no_none⟩
  | int k n => exact ⟨rfl, no_none⟩
  | string s => exact ⟨by simp, no_none⟩
  | nilFunc => exact ⟨rfl, no_none⟩
  | nilIface => exact ⟨rfl, no_none⟩
  | slice ad n cap =>
    cases ad with
    | some x => exact no_none
    | none => cases n with
      | succ n => exact no_none
      | zero => cases cap with
        | succ n => exact no_none
        | zero => cases t with
          | none => exact no_none
          | some ti => cases ti with
            | mk k sz ty ag by_ => cases ty with
              | l e => exact ⟨none, 0, rfl, Nat.le_refl _, .inl ⟨rfl, rfl, no_none⟩⟩
              | _ => exact no_none
  | _ => exact no_none
mutual
theorem RepV.noown {c : Cx} : ∀ {p : PV} {v : Value} {F : FP}, owning p = false → RepV c p v F → F.none
  | .sl 0 t xs, v, F, _, h => RepC.none0 (t := .l t) h
  | .sl (d + 1) t xs, v, F, ho, h => by simp [owning] at ho
  | .box cs, v, F, ho, h => by simp [owning] at ho
  | .agg cs, v, F, ho, ⟨vs, _, h⟩ => RepVs.noown (by simpa [owning] using ho) h
  | .tup cs, v, F, ho, ⟨vs, _, h⟩ => RepVs.noown (by simpa [owning] using ho) h
  | .cap t xs, _, _, _, h => RepC.none0 (t := .l t) h.1
  | .nsl _ t xs, _, _, _, h => RepC.none0 (t := .l t) h.1
  | .undef, _, _, _, h => h
  | .nov, _, _, _, h => h.2
  | .bool _, _, _, _, h => h.2
  | .int _ _, _, _, _, h => h.2
  | .str _, _, _, _, h => h.2
  | .bor _ _ _ _ _ _ _ _ _, _, _, _, h => h.1
  | .kel none _ _ _ _ _, _, _, _, h => h.1
  | .kel (some (_, _, _, _)) _ _ _ _ _, _, _, _, h => h.1
  | .ptr _ _ _, _, _, _, h => h.1
  | .als _ _, _, _, _, h => h.1
  | .clo _ _, _, _, _, h => h.1
  | .bnd _ _, _, _, _, h => h.1
  | .nilF, _, _, _, h => h.2
  | .nilI, _, _, _, h => h.2
  | .someI, _, _, _, h => h.2
theorem RepVs.noown {c : Cx} : ∀ {ps : List PV} {vs : List Value} {F : FP}, ownings ps = false → RepVs c ps vs F → F.none
  | [], vs, F, _, h => h.2
  | p :: ps, vs, F, ho, ⟨v, vs', Fa, Fb, h1, h2, h3, h4, h5⟩ => by
    simp only [ownings, Bool.or_eq_false_iff] at ho
    exact fun b hb => ((h5 b).1 hb).elim (RepV.noown ho.1 h2 b) (RepVs.noown ho.2 h3 b)
end
theorem guardM_ex {R : FnRel} {α : Type} {b : Bool} {m : M α} {s : St} {x : α} {s' : St} {t : Tr} (h : (guardM b m).Ex R s x s' t) : b = true ∧ m.Ex R s x s' t := by
  cases b with
  | true => exact ⟨rfl, h⟩
  | false => exact h.elim
theorem rb_ex {B : Base} {n : Nat} {c : Cx} {a : Act} {F : FP} (hI : InvF B n c a F) {R : FnRel} {α : Type} {τ : List (TypeId × TI)} {ty : TypeId} {x : Operand} {k : PV → M α}
    {y : α} {s' : St} {t : Tr} (h : (rb τ ty x k).Ex R c.S y s' t) : ∃ p t', (k p).Ex R c.S y s' t' ∧ RepV c p (a.eval x) (fun _ => False) := by
  cases x with
  | const v => exact ⟨_, t, h, const_rep c _ v⟩
  | func f => exact ⟨.clo f [], t, h, no_none, #[], rfl, (RepVs.nil_iff).2 ⟨rfl, no_none⟩⟩
  | global g => exact h.elim
  | tmp m =>
    obtain ⟨t', rfl, h⟩ := h
    have hv : a.eval (.tmp m) = c.val (T m) := (hI.val_t m).symm
    have hr := hI.rep (T m)
    rw [hv]
    dsimp only at h
    split at h
    · rename_i q ig i2 c2 heq
      obtain ⟨t2, rfl, h⟩ := h
      obtain ⟨hg, h⟩ := guardM_ex h
      rw [heq] at hr
      have hv2 := hr.2.2 (Nat.eq_of_beq_eq_true hg).symm
      refine ⟨_, t2, h, ?_⟩
      rw [hv2]
      exact borrow_rep (hI.rep q)
    · exact ⟨_, t', h, borrow_rep hr⟩
/-- What is owned and lies in no place, taken from a slot. -/
def Cx.drop (c : Cx) (l : Loc) (v : PV) : Cx := { c with S := c.S.wr l v, Fq := fun l' b => l' ≠ l ∧ c.Fq l' b }
theorem Cx.drop_le (c : Cx) (l : Loc) (v : PV) : c.Le (c.drop l v) := by
  refine ⟨fun _ _ _ h => h, fun q => ?_⟩
  by_cases hq : q = l
  · subst hq
    simp only [Cx.drop, St.wr, upd_same]
    exact ⟨⟨by omega, by omega⟩, fun h => by omega⟩
  · simp only [Cx.drop, St.wr, upd_ne _ _ hq]
    exact ⟨⟨Nat.le_refl _, Nat.le_refl _⟩, fun _ => ⟨by trivial, fun _ b o v h1 h2 => .inr ⟨⟨hq, h1⟩, h2⟩⟩⟩
theorem InvF.drop {B : Base} {n : Nat} {c : Cx} {a : Act} {F : FP} (hI : InvF B n c a F) (l : Loc) : InvF B n (c.drop l .undef) a (fun b => F b ∨ c.Fq l b) := by
  have ho : ∀ b, Owned (c.drop l .undef) (fun b => F b ∨ c.Fq l b) b → Owned c F b := by
    rintro b (⟨l', _, h⟩ | h | h)
    · exact .inl ⟨l', h⟩
    · exact .inr h
    · exact .inl ⟨l, h⟩
  refine { hI with rep := fun l' => ?_, dis := fun l1 l2 hne b h1 h2 => hI.dis l1 l2 hne b h1.2 h2.2, disF := fun l' b h1 h2 => ?_, kdis := fun b o v hb => hI.kdis b o v (ho b hb), bound := fun b hb => hI.bound b (ho b hb), allowed := fun b hb => hI.allowed b (ho b hb) }
  · by_cases hl : l' = l
    · subst hl
      simp only [Cx.drop, St.wr, upd_same]
      exact fun b hb => hb.1 rfl
    · have := (hI.rep l').turn (c.drop_le l .undef) (fun _ _ => rfl)
      have e : (c.drop l .undef).Fq l' = c.Fq l' := FP.ext fun b => ⟨fun h => h.2, fun h => ⟨hl, h⟩⟩
      rw [e]
      simpa only [Cx.drop, St.wr, upd_ne _ _ hl] using this
  · rcases h1 with h1 | h1
    · exact hI.disF l' b h1 h2.2
    · exact hI.dis l l' (fun e => h2.1 e.symm) b h1 h2.2
theorem ro_ex {B : Base} {n : Nat} {c : Cx} {a : Act} {F : FP} (hI : InvF B n c a F) {R : FnRel} {α : Type} {τ : List (TypeId × TI)} {ty : TypeId} {x : Operand} {k : PV → M α}
    {y : α} {s' : St} {t : Tr} (h : (ro τ ty x k).Ex R c.S y s' t) : ∃ p t' c' F1, (k p).Ex R c'.S y s' t' ∧ c.Le c' ∧ c'.w = c.w ∧ c'.K = c.K ∧ RepV c' p (a.eval x) F1 ∧ F.dis F1 ∧ InvF B n c' a (fun b => F b ∨ F1 b) := by
  have plain : ∀ p t', (k p).Ex R c.S y s' t' → RepV c p (a.eval x) (fun _ => False) → ∃ p t' c' F1, (k p).Ex R c'.S y s' t' ∧ c.Le c' ∧ c'.w = c.w ∧ c'.K = c.K ∧ RepV c' p (a.eval x) F1 ∧ F.dis F1 ∧ InvF B n c' a (fun b => F b ∨ F1 b) := by
    intro p t' h1 h2
    refine ⟨p, t', c, _, h1, .refl c, rfl, rfl, h2, fun _ _ h => h, ?_⟩
    have e : (fun b => F b ∨ False) = F := FP.ext fun b => by simp
    rw [e]; exact hI
  cases x with
  | const v => exact plain _ t h (const_rep c _ v)
  | func f => exact plain (.clo f []) t h ⟨no_none, #[], rfl, (RepVs.nil_iff).2 ⟨rfl, no_none⟩⟩
  | global g => exact h.elim
  | tmp m =>
    obtain ⟨t', rfl, h⟩ := h
    have hv : a.eval (.tmp m) = c.val (T m) := (hI.val_t m).symm
    have hr := hI.rep (T m)
    rw [hv] at plain ⊢
    dsimp only at h
    split at h
    · rename_i q ig i2 c2 heq
      obtain ⟨t2, rfl, h⟩ := h
      obtain ⟨hg, h⟩ := guardM_ex h
      rw [heq] at hr
      have hv2 := hr.2.2 (Nat.eq_of_beq_eq_true hg).symm
      refine plain _ t2 h ?_
      rw [hv2]
      exact borrow_rep (hI.rep q)
    · rename_i p i2 c2 hne heq
      split at h
      · obtain ⟨t2, rfl, h⟩ := h
        rw [heq] at hr
        refine ⟨p, t2, c.drop (T m) .undef, c.Fq (T m), h, c.drop_le _ _, rfl, rfl, hr.turn (c.drop_le _ _) (fun _ _ => rfl), fun b h1 h2 => hI.disF _ b h1 h2, hI.drop (T m)⟩
      · rename_i hown
        rw [heq] at hr
        exact plain p t' h (hr.noF (hr.noown hown))
end Go.VI
