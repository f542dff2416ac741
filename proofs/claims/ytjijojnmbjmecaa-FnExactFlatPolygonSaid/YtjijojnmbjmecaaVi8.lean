/-
  An interpreter of the functions of a program as plain functions of lists and numbers, part 8: what it computes is what the program does. No condition but those that its theorems name.
-/
import Derived.Test.YtjijojnmbjmecaaVi7
set_option linter.unusedVariables false
set_option linter.constructorNameAsVariable false
namespace Go.VI
theorem cell_heap_eq {w w' : World} {b : Nat} (h : w'.heap[b]? = w.heap[b]?) (o : Nat) : w'.cell? ⟨b, o, none⟩ = w.cell? ⟨b, o, none⟩ := by
  unfold World.cell?; simp [h]
theorem cell_lt {w : World} {b o : Nat} {v : Value} (h : w.cell? ⟨b, o, none⟩ = some v) : b < w.heap.size := by
  rcases Nat.lt_or_ge b w.heap.size with h' | h'
  · exact h'
  · unfold World.cell? at h; simp [Array.getElem?_eq_none h'] at h
/-- One place, and what lies in no place, may turn. -/
theorem InvF.step {B : Base} {n : Nat} {c c' : Cx} {a : Act} {F F' : FP} (hI : InvF B n c a F) (l : Loc) (hle : c.Le c') (hval : c'.val = c.val)
    (hS : ∀ l', l' ≠ l → (c'.S l').pv = (c.S l').pv) (hFq : ∀ l', l' ≠ l → c'.Fq l' = c.Fq l') (hrep : RepV c' (c'.S l).pv (c.val l) (c'.Fq l))
    (hw : ∀ b, b < c.w.heap.size → ¬ c.Fq l b → ¬ F b → c'.w.heap[b]? = c.w.heap[b]?) (hsz : c.w.heap.size ≤ c'.w.heap.size) (hos : c'.w.os = c.w.os) (htape : c'.w.tape = c.w.tape)
    (hout : c'.w.output = c.w.output) (hK : ∀ b o v, c'.K b o v → c.K b o v ∨ ((c.Fq l b ∨ F b ∨ c.w.heap.size ≤ b) ∧ c'.w.cell? ⟨b, o, none⟩ = some v))
    (hown : ∀ b, c'.Fq l b ∨ F' b → c.Fq l b ∨ F b ∨ (c.w.heap.size ≤ b ∧ b < c'.w.heap.size)) (hd : (c'.Fq l).dis F') (hkd : ∀ b o v, c'.Fq l b ∨ F' b → ¬ c'.K b o v) (hdr : c.w.drawn ≤ c'.w.drawn := by exact Nat.le_refl _) : InvF B n c' a F' := by
  have hoth : ∀ l' b, l' ≠ l → c.Fq l' b → b < c.w.heap.size ∧ ¬ c.Fq l b ∧ ¬ F b := fun l' b hne h =>
    ⟨hI.bound b (.inl ⟨l', h⟩), fun h2 => hI.dis l' l hne b h h2, fun h2 => hI.disF l' b h2 h⟩
  have ho : ∀ b, Owned c' F' b → Owned c F b ∨ (c.w.heap.size ≤ b ∧ b < c'.w.heap.size) := by
    rintro b (⟨l', h⟩ | h)
    · by_cases hl : l' = l
      · subst hl
        rcases hown b (.inl h) with h | h | h
        · exact .inl (.inl ⟨_, h⟩)
        · exact .inl (.inr h)
        · exact .inr h
      · rw [hFq l' hl] at h; exact .inl (.inl ⟨l', h⟩)
    · rcases hown b (.inr h) with h | h | h
      · exact .inl (.inl ⟨_, h⟩)
      · exact .inl (.inr h)
      · exact .inr h
  have hlf : ∀ l' b, l' ≠ l → c.Fq l' b → ¬ (c'.Fq l b ∨ F' b) := by
    intro l' b hne h h2
    obtain ⟨g1, g2, g3⟩ := hoth l' b hne h
    rcases hown b h2 with h | h | h
    · exact g2 h
    · exact g3 h
    · omega
  refine { sz := hI.sz, val_t := fun k => by rw [hval]; exact hI.val_t k, val_o := fun k => by rw [hval]; exact hI.val_o k, rep := fun l' => ?_, dis := fun l1 l2 hne b h1 h2 => ?_, disF := fun l' b h1 h2 => ?_, holds := fun b o v hk => ?_, kdis := fun b o v hb hk => ?_, bound := fun b hb => ?_, allowed := fun b hb hlt => ?_, os := hos.trans hI.os, tape := htape.trans hI.tape, output := hout.trans hI.output, drawn := Nat.le_trans hI.drawn hdr, size := Nat.le_trans hI.size hsz, frame := fun b hb hA => ?_, K0 := fun b o v h => hle.K _ _ _ (hI.K0 b o v h), knew := fun b o v hk => ?_, defers := hI.defers }
  · by_cases hl : l' = l
    · subst hl; rw [hval]; exact hrep
    · rw [hval, hS l' hl, hFq l' hl]
      exact (hI.rep l').turn hle (fun b hb => by obtain ⟨g1, g2, g3⟩ := hoth l' b hl hb; exact hw b g1 g2 g3)
  · by_cases e1 : l1 = l
    · subst e1
      rw [hFq l2 (fun e => hne e.symm)] at h2
      exact hlf l2 b (fun e => hne e.symm) h2 (.inl h1)
    · by_cases e2 : l2 = l
      · subst e2
        rw [hFq l1 e1] at h1
        exact hlf l1 b e1 h1 (.inl h2)
      · rw [hFq l1 e1] at h1; rw [hFq l2 e2] at h2
        exact hI.dis l1 l2 hne b h1 h2
  · by_cases hl : l' = l
    · subst hl; exact hd b h2 h1
    · rw [hFq l' hl] at h2; exact hlf l' b hl h2 (.inr h1)
  · rcases hK b o v hk with hk' | ⟨_, hc⟩
    · have hc := hI.holds b o v hk'
      rw [cell_heap_eq (hw b (cell_lt hc) (fun h => hI.kdis b o v (.inl ⟨l, h⟩) hk') (fun h => hI.kdis b o v (.inr h) hk'))]
      exact hc
    · exact hc
  · rcases hb with ⟨l', h⟩ | h
    · by_cases hl : l' = l
      · subst hl; exact hkd b o v (.inl h) hk
      · rw [hFq l' hl] at h
        rcases hK b o v hk with hk' | ⟨hx, hc⟩
        · exact hI.kdis b o v (.inl ⟨l', h⟩) hk'
        · obtain ⟨g1, g2, g3⟩ := hoth l' b hl h
          rcases hx with hx | hx | hx
          · exact g2 hx
          · exact g3 hx
          · omega
    · exact hkd b o v (.inr h) hk
  · rcases ho b hb with h | h
    · exact Nat.lt_of_lt_of_le (hI.bound b h) hsz
    · exact h.2
  · rcases ho b hb with h | h
    · exact hI.allowed b h hlt
    · have := hI.size; omega
  · have h1 : ¬ c.Fq l b := fun h => hA (hI.allowed b (.inl ⟨l, h⟩) hb)
    have h2 : ¬ F b := fun h => hA (hI.allowed b (.inr h) hb)
    rw [hw b (Nat.lt_of_lt_of_le hb hI.size) h1 h2]
    exact hI.frame b hb hA
  · rcases hK b o v hk with hk' | ⟨hx, hc⟩
    · exact hI.knew b o v hk'
    · rcases hx with hx | hx | hx
      · by_cases hb : b < B.w0.heap.size
        · exact .inr (.inl (hI.allowed b (.inl ⟨l, hx⟩) hb))
        · exact .inr (.inr (by omega))
      · by_cases hb : b < B.w0.heap.size
        · exact .inr (.inl (hI.allowed b (.inr hx) hb))
        · exact .inr (.inr (by omega))
      · have := hI.size
        exact .inr (.inr (by omega))
/-- A world that has only grown. -/
theorem Cx.Le.grow {c : Cx} {w' : World} (hw : ∀ b, b < c.w.heap.size → w'.heap[b]? = c.w.heap[b]?) : c.Le { c with w := w' } :=
  ⟨fun _ _ _ h => h, fun q => ⟨⟨Nat.le_refl _, Nat.le_refl _⟩, fun _ => ⟨rfl, fun _ b o v h1 h2 => .inr ⟨h1, by
    show w'.cell? _ = _
    rw [cell_heap_eq (hw b (cell_lt h2))]; exact h2⟩⟩⟩⟩
theorem InvF.grow {B : Base} {n : Nat} {c : Cx} {a : Act} {F F' : FP} (hI : InvF B n c a F) {w' : World} (hw : ∀ b, b < c.w.heap.size → w'.heap[b]? = c.w.heap[b]?) (hsz : c.w.heap.size ≤ w'.heap.size)
    (hos : w'.os = c.w.os) (htape : w'.tape = c.w.tape) (hout : w'.output = c.w.output) (hF : ∀ b, F' b → F b ∨ (c.w.heap.size ≤ b ∧ b < w'.heap.size)) (hdr : c.w.drawn ≤ w'.drawn := by exact Nat.le_refl _) : InvF B n { c with w := w' } a F' := by
  refine hI.step (hdr := hdr) (T 0) (c' := { c with w := w' }) (.grow hw) rfl (fun _ _ => rfl) (fun _ _ => rfl) ?_ (fun b hb _ _ => hw b hb) hsz hos htape hout (fun b o v h => .inl h) ?_ ?_ ?_
  · exact (hI.rep (T 0)).turn (.grow hw) (fun b hb => hw b (hI.bound b (.inl ⟨_, hb⟩)))
  · rintro b (h | h)
    · exact .inl h
    · exact .inr (hF b h)
  · intro b h1 h2
    rcases hF b h2 with h | h
    · exact hI.disF _ b h h1
    · have := hI.bound b (.inl ⟨_, h1⟩); omega
  · rintro b o v (h | h) hk
    · exact hI.kdis b o v (.inl ⟨_, h⟩) hk
    · rcases hF b h with h | h
      · exact hI.kdis b o v (.inr h) hk
      · have := cell_lt (hI.holds b o v hk); omega
/-- A new row of cells. -/
def World.newRow (w : World) (arr : Array Value) (ty : TypeId) : World := { w with heap := w.heap.push (.cells arr ty (0, 0)) }
theorem newRow_get {w : World} {arr : Array Value} {ty : TypeId} : (World.newRow w arr ty).heap[w.heap.size]? = some (.cells arr ty (0, 0)) := by
  show (w.heap.push _)[w.heap.size]? = _
  rw [Array.getElem?_push, if_pos rfl]
theorem newRow_old {w : World} {arr : Array Value} {ty : TypeId} {b : Nat} (h : b < w.heap.size) : (World.newRow w arr ty).heap[b]? = w.heap[b]? := by
  simp only [World.newRow]; rw [Array.getElem?_push, if_neg (by omega)]
theorem newRow_size {w : World} {arr : Array Value} {ty : TypeId} : (World.newRow w arr ty).heap.size = w.heap.size + 1 := by simp [World.newRow]
section
variable {P : Program}
theorem run_newRow (w : World) (ty : TypeId) (arr : Array Value) : (Go.newRow ty arr).run P w = .ok ⟨w.heap.size, 0, none⟩ (World.newRow w arr ty) := rfl
theorem InvF.alloc {B : Base} {n : Nat} {c : Cx} {a : Act} {F : FP} (hI : InvF B n c a F) (arr : Array Value) (ty : TypeId) :
    InvF B n { c with w := World.newRow c.w arr ty } a (fun b => F b ∨ b = c.w.heap.size) := by
  refine hI.grow (fun b hb => newRow_old hb) (by rw [newRow_size]; omega) rfl rfl rfl ?_
  rintro b (h | h)
  · exact .inl h
  · exact .inr (by rw [newRow_size]; omega)
/-- A box made of cells. -/
theorem box_ok {B : Base} {n : Nat} {c : Cx} {a : Act} {F F1 : FP} (hI : InvF B n c a F) {cs : List PV} {vs : List Value} (hr : RepVs c cs vs F1) (hF : ∀ b, F1 b → F b) (ty : TypeId) :
    RepV { c with w := World.newRow c.w vs.toArray ty } (.box cs) (.pointer (some ⟨c.w.heap.size, 0, none⟩)) (fun b => b = c.w.heap.size ∨ F1 b) := by
  refine ⟨c.w.heap.size, vs.toArray, ty, F1, rfl, newRow_get, ?_, ?_, fun _ => Iff.rfl⟩
  · exact hr.turn (.grow (fun b hb => newRow_old hb)) (fun b hb => newRow_old (hI.bound b (.inr (hF b hb))))
  · intro h
    have := hI.bound _ (.inr (hF _ h)); omega
end
end Go.VI
