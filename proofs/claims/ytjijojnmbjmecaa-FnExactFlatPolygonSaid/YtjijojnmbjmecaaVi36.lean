/-
  An interpreter of the functions of a program as plain functions of lists and numbers, part 38: what it computes is what the program does. No condition but those that its theorems name.
-/
import Derived.Test.YtjijojnmbjmecaaVi35
import Derived.ProofKit
import Derived.Carry
set_option linter.unusedVariables false
set_option linter.constructorNameAsVariable false
namespace Go.VI
open Go.ChangeShapes Go.WideShapes Go.RowKit
/-! ### what came in -/
/-- Data that a call may get. -/
def Ty.good : (t : Ty) → t.D → Prop
  | .i k, n => k.min ≤ n ∧ n ≤ k.max
  | .b, _ => True
  | .s, x => x.length ≤ maxLen
  | .p x y, v => x.good v.1 ∧ y.good v.2
  | .l e, xs => xs.length ≤ maxLen ∧ ∀ x ∈ xs, e.good x
mutual
/-- A type of the program reads as this type of data. -/
def shapeB (P : Program) : Nat → TypeId → Ty → Bool
  | 0, _, _ => false
  | n + 1, t, ty => match P.underlying t with
    | some (.int k) => ty.beq (.i k)
    | some .bool => ty.beq .b
    | some .string => ty.beq .s
    | some (.slice e) => (match ty with
      | .l x => shapeB P n e x && Nat.beq (P.cellsOf e) x.sz
      | _ => false)
    | some (.struct fs) => Nat.beq (P.cellsOf t) ty.sz && fieldsB P n fs.toList 0 ty
    | _ => false
def fieldsB (P : Program) : Nat → List Field → Nat → Ty → Bool
  | 0, _, _, _ => false
  | _ + 1, [], _, _ => false
  | n + 1, f :: r, off, ty => match r with
    | [] => Nat.beq f.offset off && (shapeB P n f.type ty && Nat.beq (P.cellsOf f.type) ty.sz)
    | _ :: _ => (match ty with
      | .p x y => Nat.beq f.offset off && (shapeB P n f.type x && (Nat.beq (P.cellsOf f.type) x.sz && fieldsB P n r (off + x.sz) y))
      | _ => false)
end
/-- What is known of memory when nothing will turn. -/
def KW (w : World) : Kn := fun b o v => w.cell? ⟨b, o, none⟩ = some v
section
variable {H : Type} {enc : TypeId × Value → H} {P : Program} {w : World} {base : Nat} {spare : Nat → Bool} {held : Bool}
theorem elems_read {e : Ty} {b o : Nat} {R : List Value → Prop} {len : Nat} {sz : Nat} (hsz : sz = e.sz) (h : ∀ i, i < len → ∃ cs, cs.length = sz ∧ (∀ j, j < sz → w.cell? ⟨b, o + i * sz + j, none⟩ = cs[j]?) ∧ ∃ v, RepC w (KW w) e 0 v cs Nil ∧ e.good v) :
    ∀ m, m ≤ len → ∃ (xs : List e.D) (cs : List Value), xs.length = m ∧ cs.length = m * sz ∧ (∀ (j : Nat) u, cs[j]? = some u → w.cell? ⟨b, o + j, none⟩ = some u) ∧ Elems (RepC w (KW w) e 0) xs cs (fun _ => False) ∧ ∀ x ∈ xs, e.good x
  | 0, _ => ⟨[], [], rfl, by simp, by simp, ⟨rfl, no_none⟩, by simp⟩
  | m + 1, hm => by
    obtain ⟨xs, cs, h1, h2, h3, h4, h5⟩ := elems_read (R := R) hsz h m (by omega)
    obtain ⟨cs', g1, g2, v, g3, g4⟩ := h m (by omega)
    refine ⟨xs ++ [v], cs ++ cs', by simp [h1], by rw [List.length_append, h2, g1, Nat.succ_mul], ?_, ?_, ?_⟩
    · intro j u hu
      rw [List.getElem?_append] at hu
      split at hu
      · exact h3 j u hu
      · rename_i hj
        rw [h2] at hu hj
        have hlt : j - m * sz < sz := by
          rcases Nat.lt_or_ge (j - m * sz) cs'.length with hh | hh
          · omega
          · rw [List.getElem?_eq_none hh] at hu; simp at hu
        have := g2 (j - m * sz) hlt
        rw [hu] at this
        rw [← this]
        congr 2; omega
    · have := h4.append (ys := [v]) (us := cs') (G := fun _ => False) ⟨cs', [], Nil, fun _ => False, by simp, g3, ⟨rfl, no_none⟩, fun _ h => h.elim, fun _ => by simp [Nil]⟩ (fun _ h => h.elim)
      have e1 : (fun b : Nat => False ∨ False) = fun _ => False := by funext b; simp
      rw [e1] at this
      exact this
    · intro x hx
      rw [List.mem_append, List.mem_singleton] at hx
      rcases hx with hx | rfl
      · exact h5 x hx
      · exact g4
mutual
theorem trod_rep : ∀ (n : Nat) {t : TypeId} {ty : Ty} {fuel : Nat} {cs : List Value} {x : DataW H × List MemPlace}, shapeB P n t ty = true → DataW.trod enc P w base spare held fuel t cs = some x →
    ∃ v : ty.D, RepC w (KW w) ty 0 v cs Nil ∧ ty.good v
  | 0, t, ty, fuel, cs, x, hs, h => by simp [shapeB] at hs
  | n + 1, t, ty, fuel, cs, x, hs, h => by
    unfold shapeB at hs
    split at hs
    · rename_i k hu
      obtain rfl := Ty.beq_eq hs
      obtain ⟨m, rfl, rfl, hw⟩ := DataW.trod_int hu h
      simp only [Lit.wf, Bool.and_eq_true, decide_eq_true_eq] at hw
      exact ⟨m, ⟨rfl, no_none⟩, hw⟩
    · rename_i hu
      obtain rfl := Ty.beq_eq hs
      obtain ⟨b, rfl, rfl⟩ := DataW.trod_bool hu h
      exact ⟨b, ⟨rfl, no_none⟩, trivial⟩
    · rename_i hu
      obtain rfl := Ty.beq_eq hs
      obtain ⟨s, rfl, rfl, hm⟩ := DataW.trod_string hu h
      exact ⟨s.data.toList, ⟨by simp, no_none⟩, by simpa [Ty.good] using hm⟩
    · rename_i e hu
      split at hs
      · rename_i ex
        rw [Bool.and_eq_true] at hs
        have hsz := Nat.eq_of_beq_eq_true hs.2
        rcases DataW.trod_slice hu h with ⟨rfl, rfl⟩ | ⟨a, len, cap, elems, rest, m, _, rfl, rfl, hb, hl, hm, hlen, hel, _⟩
        · exact ⟨[], ⟨none, 0, rfl, Nat.le_refl _, no_none, .inl rfl⟩, by simp [Ty.good]⟩
        · have hpos := Ty.sz_pos ex
          have one : ∀ i, i < len → ∃ cs, w.cells? base (a.add (i * P.cellsOf e)) (P.cellsOf e) = some cs ∧ ∃ y, DataW.trod enc P w base spare held m e cs = some y := by
            intro i hi
            have := hel i hi
            rw [List.getElem?_eq_getElem (by omega)] at this
            obtain ⟨cs, h1, h2⟩ := Option.bind_eq_some_iff.1 this
            exact ⟨cs, h1, _, h2⟩
          by_cases h0 : len = 0
          · subst h0
            exact ⟨[], ⟨some a, cap, rfl, Nat.zero_le _, no_none, .inl rfl⟩, by simp [Ty.good]⟩
          · have hsp : a.spot = none := by
              obtain ⟨cs, h1, _⟩ := one 0 (by omega)
              obtain ⟨_, hl', hc'⟩ := World.cells?_some h1
              have := hc' 0 (by omega)
              rw [Nat.zero_mul] at this
              cases hh : a.spot with
              | none => rfl
              | some s =>
                have e1 : (a.add 0).add 0 = a := by simp [Addr.add]
                rw [e1] at this
                unfold World.cell? at this
                have hcs : ∃ c, cs[0]? = some c := ⟨_, List.getElem?_eq_getElem (by omega)⟩
                obtain ⟨c, hc⟩ := hcs
                rw [hc] at this
                split at this
                · rw [hh] at this; simp at this
                · simp at this
            obtain ⟨b, o, sp⟩ := a
            simp only at hsp
            subst hsp
            obtain ⟨xs, cs, k1, k2, k3, k4, k5⟩ := elems_read (w := w) (e := ex) (b := b) (o := o) (R := fun _ => True) (len := len) (sz := P.cellsOf e) hsz (by
              intro i hi
              obtain ⟨cs, h1, y, h2⟩ := one i hi
              obtain ⟨_, hl', hc'⟩ := World.cells?_some h1
              obtain ⟨v, g1, g2⟩ := trod_rep n hs.1 h2
              refine ⟨cs, hl', fun j hj => ?_, v, g1, g2⟩
              have := hc' j hj
              rw [add_addr, add_addr] at this
              exact this) len (Nat.le_refl _)
            refine ⟨xs, ⟨some ⟨b, o, none⟩, cap, by rw [k1], by omega, no_none, .inr ⟨b, o, cs, rfl, k3, k4⟩⟩, ?_, k5⟩
            have : len ≤ maxLen := Nat.le_trans hl hm
            omega
      · simp at hs
    · rename_i fs hu
      rw [Bool.and_eq_true] at hs
      obtain ⟨xs, m, _, rfl, hl, hlen, hf⟩ := DataW.trod_struct hu h
      have hcs := Nat.eq_of_beq_eq_true hs.1
      obtain ⟨v, g1, g2⟩ := fields_rep n (off := 0) (cs := cs) (m := m) hs.2 (by rw [hl, hcs]; omega) (by
        intro i f hi
        have := hf i f (by simpa using hi)
        have hlt : i < xs.length := by
          rw [hlen]
          have : i < fs.toList.length := by
            rcases Nat.lt_or_ge i fs.toList.length with hh | hh
            · exact hh
            · rw [List.getElem?_eq_none hh] at hi; simp at hi
          simpa using this
        rw [List.getElem?_eq_getElem hlt] at this
        exact ⟨_, this⟩)
      rw [List.drop_zero] at g1
      exact ⟨v, g1, g2⟩
    · simp at hs
theorem fields_rep : ∀ (n : Nat) {l : List Field} {off : Nat} {ty : Ty} {cs : List Value} {m : Nat}, fieldsB P n l off ty = true → cs.length = off + ty.sz →
    (∀ (i : Nat) (f : Field), l[i]? = some f → ∃ x : DataW H × List MemPlace, DataW.trod enc P w base spare held m f.type ((cs.drop f.offset).take (P.cellsOf f.type)) = some x) →
    ∃ v : ty.D, RepC w (KW w) ty 0 v (cs.drop off) Nil ∧ ty.good v
  | 0, l, off, ty, cs, m, hs, hl, h => by simp [fieldsB] at hs
  | n + 1, [], off, ty, cs, m, hs, hl, h => by simp [fieldsB] at hs
  | n + 1, f :: r, off, ty, cs, m, hs, hl, h => by
    unfold fieldsB at hs
    split at hs
    · simp only [Bool.and_eq_true] at hs
      obtain ⟨s1, s2, s3⟩ := hs
      obtain ⟨x, hx⟩ := h 0 f rfl
      rw [Nat.eq_of_beq_eq_true s1, Nat.eq_of_beq_eq_true s3, List.take_of_length_le (by simp; omega)] at hx
      exact trod_rep n s2 hx
    · rename_i f2 r2
      split at hs
      · rename_i tx tyy
        simp only [Bool.and_eq_true] at hs
        obtain ⟨s1, s2, s3, s4⟩ := hs
        obtain ⟨x, hx⟩ := h 0 f rfl
        rw [Nat.eq_of_beq_eq_true s1, Nat.eq_of_beq_eq_true s3] at hx
        obtain ⟨v1, g1, g2⟩ := trod_rep n s2 hx
        have hsz : (Ty.p tx tyy).sz = tx.sz + tyy.sz := rfl
        obtain ⟨v2, k1, k2⟩ := fields_rep n (l := f2 :: r2) (off := off + tx.sz) (cs := cs) (m := m) s4 (by rw [hl, hsz]; omega) (fun i f' hi => h (i + 1) f' (by simpa using hi))
        refine ⟨(v1, v2), ⟨_, _, Nil, Nil, ?_, g1, k1, fun _ h => False.elim h, fun _ => by simp [Nil]⟩, g2, k2⟩
        rw [← List.drop_drop, List.take_append_drop]
      · simp at hs
end
end
end Go.VI
