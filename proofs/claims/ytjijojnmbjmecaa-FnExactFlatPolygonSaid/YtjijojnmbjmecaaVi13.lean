/-
  An interpreter of the functions of a program as plain functions of lists and numbers, part 13: what it computes is what the program does. No condition but those that its theorems name.
-/
import Derived.Test.YtjijojnmbjmecaaVi12
set_option linter.unusedVariables false
set_option linter.constructorNameAsVariable false
namespace Go.VI
section
variable {P : Program} {R : FnRel} {st : Sta} {reg idx : Nat} {Q : Exit → Act → World → Prop} {B : Base} {K : Act → World → Prop} {c : Cx} {a : Act} {s' : St} {t : Tr} {o : Oper}
theorem one_ok (hS : StOk P st) {ty : TypeId} {ti : TI} (ht : lookT st.τ ty = some ti) (hag : ti.agg = false) : ti.sz = 1 := by
  have h := hS.tau _ _ ht
  obtain ⟨d, h1, h2, h3⟩ := h.desc
  rw [hag] at h2
  rcases h.size with ⟨n, e, hk⟩ | h'
  · rw [hk] at h3
    rw [h3.1] at h2
    simp at h2
  · rw [h']
    cases hk : ti.kind <;> rw [hk] at h3
    case int k => rw [h3.2]; rfl
    case bool => rw [h3.2]; rfl
    case str => rw [h3.2]; rfl
    case slice e => obtain ⟨_, te, _, h5, _⟩ := h3; rw [h5]; rfl
    case struct fs => obtain ⟨fields, h5, _⟩ := h3; rw [h5] at h2; simp at h2
    case array n e => rw [h3.1] at h2; simp at h2
    case other => exact h3.elim
theorem cell_of_arr {w : World} {b : Nat} {arr : Array Value} {ty : TypeId} {f : Nat × Nat} (h : w.heap[b]? = some (.cells arr ty f)) {off n : Nat} :
    ∀ j v, ((arr.toList.drop off).take n)[j]? = some v → w.cell? ⟨b, off + j, none⟩ = some v := by
  intro j v hv
  rw [cell_of_heap h]
  rw [List.getElem?_take] at hv
  split at hv
  · rw [List.getElem?_drop] at hv; simpa using hv
  · simp at hv
theorem one_drop {vs : List Value} {i : Nat} {v : Value} (h : vs[i]? = some v) : (vs.drop i).take 1 = [v] := by
  have hlt : i < vs.length := by
    rcases Nat.lt_or_ge i vs.length with h' | h'
    · exact h'
    · rw [List.getElem?_eq_none h'] at h; simp at h
  rw [List.getElem?_eq_getElem hlt] at h
  rw [List.drop_eq_getElem_cons hlt]
  simp only [List.take_succ_cons, List.take_zero]
  rw [Option.some.inj h]
theorem List.set_getElem_self_of_getElem? {vs : List Value} {i : Nat} {v : Value} (h : vs[i]? = some v) : vs.set i v = vs := by
  apply List.ext_getElem?
  intro j
  rw [List.getElem?_set]
  split
  · next e =>
    subst e
    split
    · exact h.symm
    · next hh => rw [List.getElem?_eq_none (by omega)]
  · rfl
theorem op_load (hS : StOk P st) {ty : TypeId} {x : Operand} (ho : o.op = .load ty x) (hI : InvF B st.n c a Nil) (hK : ∀ a' w', Inv B st.n s' a' w' → K a' w')
    (h : (opM st reg idx o (putM st o.dst)).Ex R c.S () s' t) : o.wp P a c.w K Q := by
  unfold opM at h
  rw [ho] at h
  dsimp only at h
  obtain ⟨p, t1, h1, hr⟩ := rb_ex hI h
  unfold loadM at h1
  split at h1
  · exact h1.elim
  · rename_i ti ht
    have hs1 := sz_pos_ok hS ht
    have hone := one_ok hS ht
    split at h1
    · rename_i q ig off
      obtain ⟨t2, rfl, h2⟩ := h1
      dsimp only at h2
      split at h2
      · rename_i c1 cs ig' cg' heq
        obtain ⟨hg, h3⟩ := guardM_ex h2
        rw [Bool.and_eq_true] at hg
        have hig := Nat.eq_of_beq_eq_true hg.1
        have hfit := Nat.le_of_ble_eq_true hg.2
        obtain ⟨g1, g2, g3⟩ := hr
        obtain ⟨b, g4, g5⟩ := g3 (by rw [heq]; exact hig.symm)
        have hq := hI.rep q
        rw [heq] at hq
        obtain ⟨b', arr, ty', F', k1, k2, k3, k4, k5⟩ := hq
        have hb : b' = b := by rw [g4] at k1; injection k1 with k1; injection k1 with k1; injection k1 with k1; exact k1.symm
        subst hb
        have eig : (c.S q).ig = ig' := by rw [heq]
        have ecg : (c.S q).cg = cg' := by rw [heq]
        have hlen := k3.len
        have hvl : ((arr.toList.drop off).take ti.sz).length = ti.sz := by simp at hlen ⊢; omega
        have hrun := load_done (hI := hI) (hK := hK) (hS := hS) (ht := ht) ho g5 hvl (cell_of_arr k2) (.inl hs1)
        obtain ⟨F1, F2, m1, m2, m3, m4⟩ := k3.part hfit
        split at h3
        · rename_i hag _
          rw [hag] at hrun
          refine val_done hK hI (F1 := Nil) (p := .agg (bwCells q ig' cg' off (takeCells cs off ti.sz))) ⟨_, rfl, ?_⟩ (fun _ h => h) h3 hrun
          rw [← eig, ← ecg]
          exact bwCells_rep off (by simpa using m1) (fun b hb => (k5 b).2 (.inr ((m3 b).2 (.inl hb))))
        · rename_i hag _
          rw [hag] at hrun
          obtain ⟨t3, rfl, h4⟩ := h3
          have hF2 : (c.Fq q).or F1 (fun b => b = b' ∨ F2 b) := by
            intro b
            rw [k5 b, m3 b]
            constructor
            · rintro (h | h | h)
              · exact .inr (.inl h)
              · exact .inl h
              · exact .inr (.inr h)
            · rintro (h | h | h)
              · exact .inr (.inl h)
              · exact .inl h
              · exact .inr (.inr h)
          obtain ⟨c', l1, l2, l3, l4, l5, l6⟩ := hI.recell (q := q) (p' := .box (splice cs off (List.replicate ti.sz .undef))) (F1 := F1) (F2 := fun b => b = b' ∨ F2 b) (by
            intro c' hle hw
            rw [k1]
            refine ⟨b', arr, ty', F2, rfl, by rw [hw]; exact k2, ?_, fun h => k4 ((m3 _).2 (.inr h)), fun _ => Iff.rfl⟩
            have hund : ∀ (n : Nat) (us : List Value), us.length = n → RepVs c' (List.replicate n .undef) us Nil := by
              intro n
              induction n with
              | zero => intro us hu; exact ⟨List.length_eq_zero_iff.1 hu, no_none⟩
              | succ n ih =>
                intro us hu
                cases us with
                | nil => simp at hu
                | cons u us => exact ⟨u, us, Nil, Nil, rfl, no_none, ih us (by simpa using hu), fun _ h => h.elim, fun _ => by simp [Nil]⟩
            have := m4 c' (List.replicate ti.sz .undef) ((arr.toList.drop off).take ti.sz) Nil hle (fun _ _ => by rw [hw]) (hund _ _ hvl) (fun _ h => h.elim) (by simp)
            rw [splice_eq _ _ _ (by simpa using hfit), List.length_replicate]
            rw [nil_or] at this
            have e : arr.toList.take off ++ (arr.toList.drop off).take ti.sz ++ arr.toList.drop (off + ti.sz) = arr.toList := by
              conv => rhs; rw [← List.take_append_drop off arr.toList]
              rw [List.append_assoc]; congr 1
              conv => rhs; rw [← List.take_append_drop ti.sz (arr.toList.drop off)]
              rw [List.drop_drop]
            rw [e] at this
            exact this) hF2 (by
              rintro b h1 (h2 | h2)
              · subst h2; exact k4 ((m3 _).2 (.inl h1))
              · exact m2 b h1 h2)
          rw [nil_or] at l6
          refine val_done hK l6 (F1 := F1) (p := .agg (takeCells cs off ti.sz)) ⟨_, rfl, by simpa using m1.turn l1 (fun _ _ => by rw [l2])⟩ (fun _ h => h) (by rw [l4]; exact h4) (by rw [l2]; exact hrun)
        · rename_i hag _
          have h1s := hone hag
          rw [hag] at hrun
          obtain ⟨v, Fa, Fb, n1, n2, n3, n4, n5⟩ := k3.focus (i := off) (by omega)
          have hd := one_drop n1
          rw [h1s, hd] at hrun
          refine val_done hK hI (F1 := Nil) (p := bw q [.cell off] ig' cg' (cs.getD off .undef)) ?_ (fun _ h => h) h3 hrun
          rw [← eig, ← ecg]
          exact bw_rep n2 (fun b hb => (k5 b).2 (.inr ((n4 b).2 (.inl hb)))) (fun h => by simp at h) (fun i h => by simp at h)
        · rename_i hag _
          have h1s := hone hag
          rw [hag] at hrun
          obtain ⟨v, Fa, Fb, n1, n2, n3, n4, n5⟩ := k3.focus (i := off) (by omega)
          have hd := one_drop n1
          rw [h1s, hd] at hrun
          split at h3
          · obtain ⟨t3, rfl, h4⟩ := h3
            have hF2 : (c.Fq q).or Fa (fun b => b = b' ∨ Fb b) := by
              intro b
              rw [k5 b, n4 b]
              constructor
              · rintro (h | h | h)
                · exact .inr (.inl h)
                · exact .inl h
                · exact .inr (.inr h)
              · rintro (h | h | h)
                · exact .inr (.inl h)
                · exact .inl h
                · exact .inr (.inr h)
            obtain ⟨c', l1, l2, l3, l4, l5, l6⟩ := hI.recell (q := q) (p' := .box (cs.set off .undef)) (F1 := Fa) (F2 := fun b => b = b' ∨ Fb b) (by
              intro c' hle hw
              rw [k1]
              refine ⟨b', arr, ty', Fb, rfl, by rw [hw]; exact k2, ?_, fun h => k4 ((n4 _).2 (.inr h)), fun _ => Iff.rfl⟩
              have := (n5 .undef v Nil no_none (fun _ h => h.elim)).turn hle (fun _ _ => by rw [hw])
              rw [nil_or, List.set_getElem_self_of_getElem? n1] at this
              exact this) hF2 (by
                rintro b h1 (h2 | h2)
                · subst h2; exact k4 ((n4 _).2 (.inl h1))
                · exact n3 b h1 h2)
            rw [nil_or] at l6
            exact val_done hK l6 (F1 := Fa) (p := cs.getD off .undef) (n2.turn l1 (fun _ _ => by rw [l2])) (fun _ h => h) (by rw [l4]; exact h4) (by rw [l2]; exact hrun)
          · rename_i hown
            exact val_done hK hI (F1 := Nil) (p := cs.getD off .undef) (n2.noF (n2.noown (by simpa using hown))) (fun _ h => h) h3 hrun
        · exact h3.elim
      · exact h2.elim
    · rename_i fr d i e z off
      split at h1
      · obtain ⟨g1, b, o', cs, g2, g3, g4⟩ := hr
        obtain ⟨q, t2, h2, k1, k2⟩ := kelCells_ok h1 g3 hs1 hone
        have hvl : ((cs.drop off).take ti.sz).length = ti.sz := by have := g3.len; simp; omega
        refine val_done hK hI (F1 := Nil) k2 (fun _ h => h) h2 (load_done (hI := hI) (hK := hK) (hS := hS) (ht := ht) ho g2 hvl (fun j v hv => ?_) (.inl hs1))
        rw [List.getElem?_take] at hv
        split at hv
        · rw [List.getElem?_drop] at hv
          have := hI.holds _ _ _ (g4 _ _ hv)
          rwa [← Nat.add_assoc] at this
        · simp at hv
      · rename_i q path ig cg
        obtain ⟨v1, v2, t2, h2⟩ := valid_ex h1
        obtain ⟨g1, g2, g3, g4⟩ := hr
        obtain ⟨b, o', cs, k1, k2, k3⟩ := (g4 v1).2 v2
        have hcell : ∀ j u, cs[j]? = some u → c.w.cell? ⟨b, o' + j, none⟩ = some u := by
          intro j u hu
          rcases k3 j u hu with hk | ⟨_, hk⟩
          · exact hI.holds _ _ _ hk
          · exact hk
        have hcell2 : ∀ j v, ((cs.drop off).take ti.sz)[j]? = some v → c.w.cell? ⟨b, o' + off + j, none⟩ = some v := by
          intro j v hv
          rw [List.getElem?_take] at hv
          split at hv
          · rw [List.getElem?_drop] at hv
            have := hcell _ _ hv
            rwa [← Nat.add_assoc] at this
          · simp at hv
        cases hcond : (Nat.ble d 1 || Nat.beq e.dep 0) with
        | true =>
          rw [hcond] at h2
          have hrep : RepC c.w c.K e 0 z cs Nil := by
            rw [Bool.or_eq_true] at hcond
            rcases hcond with hc | hc
            · have : d - 1 = 0 := by have := Nat.le_of_ble_eq_true hc; omega
              rw [this] at k2
              exact k2.zero
            · exact k2.flat (Nat.eq_of_beq_eq_true hc) 0
          obtain ⟨q', t3, h3, m1, m2⟩ := kelCells_ok h2 hrep hs1 hone
          have hvl : ((cs.drop off).take ti.sz).length = ti.sz := by have := hrep.len; simp; omega
          exact val_done hK hI (F1 := Nil) m2 (fun _ h => h) h3 (load_done (hI := hI) (hK := hK) (hS := hS) (ht := ht) ho k1 hvl hcell2 (.inl hs1))
        | false =>
          rw [hcond] at h2
          cases e with
          | l e =>
            obtain ⟨hg, h3⟩ := guardM_ex (show M.Ex R (guardM (Nat.beq off 0 && !ti.agg) (putM st o.dst (.bor q (path ++ [.elem i]) ig cg (d - 1) true 0 e z))) c.S () s' t2 from h2)
            rw [Bool.and_eq_true] at hg
            have hoff := Nat.eq_of_beq_eq_true hg.1
            have hag : ti.agg = false := by simpa using hg.2
            have h1s := hone hag
            subst hoff
            have hl := k2.len
            have hvl : ((cs.drop 0).take ti.sz).length = ti.sz := by rw [h1s]; simp [hl, Ty.sz]
            have hrun := load_done (hI := hI) (hK := hK) (hS := hS) (ht := ht) ho k1 hvl hcell2 (.inl hs1)
            rw [hag, h1s] at hrun
            cases cs with
            | nil => simp [Ty.sz] at hl
            | cons v r =>
              cases r with
              | cons _ _ => simp [Ty.sz] at hl
              | nil => exact val_done hK hI (F1 := Nil) (p := .bor q (path ++ [.elem i]) ig cg (d - 1) true 0 e z) (v := v) ⟨no_none, g2, g3, fun _ => ⟨fun h => by simp at h, fun _ => k2, fun _ _ i' hp => by
                have hpath : path = [] ∧ i = i' := by
                  cases path with
                  | nil => simpa using hp
                  | cons y ys => simp at hp
                obtain ⟨hp0, rfl⟩ := hpath
                obtain ⟨b1, o1, n1, cap1, m1, m2⟩ := (g4 v1).1 hp0
                rw [m2] at k1
                simp only [Ty.sz, Nat.mul_one, Nat.add_zero] at k1
                injection k1 with k1; injection k1 with k1; injection k1 with j1 j2
                refine ⟨b1, o1, n1, cap1, m1, ?_⟩
                have := k3 0 v rfl
                rw [Nat.add_zero, ← j1, ← j2] at this
                exact this⟩⟩ (fun _ h => h) h3 hrun
          | _ => exact h2.elim
    · exact h1.elim
end
end Go.VI
