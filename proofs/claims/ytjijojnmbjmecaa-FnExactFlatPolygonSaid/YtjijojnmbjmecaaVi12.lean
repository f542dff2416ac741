/-
  An interpreter of the functions of a program as plain functions of lists and numbers, part 12: what it computes is what the program does. No condition but those that its theorems name.
-/
import Derived.Test.YtjijojnmbjmecaaVi11
set_option linter.unusedVariables false
set_option linter.constructorNameAsVariable false
namespace Go.VI
theorem splice_eq : ∀ (ps cs : List PV) (off : Nat), off + ps.length ≤ cs.length → splice cs off ps = cs.take off ++ ps ++ cs.drop (off + ps.length)
  | [], cs, off, h => by simp [splice]
  | p :: ps, cs, off, h => by
    simp only [List.length_cons] at h
    rw [splice, splice_eq ps (cs.set off p) (off + 1) (by simpa using by omega)]
    have h1 : (cs.set off p).take (off + 1) = cs.take off ++ [p] := by
      rw [List.take_succ_eq_append_getElem (by simpa using by omega), List.take_set]
      simp only [List.getElem_set_self, List.append_cancel_right_eq]
      exact List.set_eq_of_length_le (by simp; omega)
    have h2 : (cs.set off p).drop (off + 1 + ps.length) = cs.drop (off + (p :: ps).length) := by
      rw [List.drop_set, if_pos (by omega)]; simp only [List.length_cons]; congr 1; omega
    rw [h1, h2]; simp
theorem putCells_list : ∀ (vs : List Value) (arr : Array Value) (off : Nat), off + vs.length ≤ arr.size → (putCells arr off vs).toList = arr.toList.take off ++ vs ++ arr.toList.drop (off + vs.length)
  | [], arr, off, h => by simp [putCells]
  | v :: vs, arr, off, h => by
    simp only [List.length_cons] at h
    rw [putCells, putCells_list vs (arr.setIfInBounds off v) (off + 1) (by simpa using by omega)]
    rw [Array.toList_setIfInBounds]
    have h1 : (arr.toList.set off v).take (off + 1) = arr.toList.take off ++ [v] := by
      rw [List.take_succ_eq_append_getElem (by simpa using by omega), List.take_set]
      simp only [List.getElem_set_self, List.append_cancel_right_eq]
      exact List.set_eq_of_length_le (by simp; omega)
    have h2 : (arr.toList.set off v).drop (off + 1 + vs.length) = arr.toList.drop (off + (v :: vs).length) := by
      rw [List.drop_set, if_pos (by omega)]; simp only [List.length_cons]; congr 1; omega
    rw [h1, h2]; simp
/-- A stretch of cells, and the list with another one in its place. -/
theorem RepVs.part {c : Cx} {cs : List PV} {vs : List Value} {F : FP} (h : RepVs c cs vs F) {off n : Nat} (hn : off + n ≤ cs.length) :
    ∃ F1 F2, RepVs c (takeCells cs off n) ((vs.drop off).take n) F1 ∧ F1.dis F2 ∧ F.or F1 F2 ∧ ∀ (c' : Cx) (ps : List PV) (us : List Value) (G : FP), c.Le c' → (∀ b, F2 b → c'.w.heap[b]? = c.w.heap[b]?) → RepVs c' ps us G → G.dis F2 → ps.length = n →
      RepVs c' (cs.take off ++ ps ++ cs.drop (off + n)) (vs.take off ++ us ++ vs.drop (off + n)) (fun b => G b ∨ F2 b) := by
  have hlen := h.len
  have e1 : cs = cs.take off ++ ((cs.drop off).take n ++ cs.drop (off + n)) := by
    conv => lhs; rw [← List.take_append_drop off cs]
    congr 1
    conv => lhs; rw [← List.take_append_drop n (cs.drop off)]
    rw [List.drop_drop]
  rw [e1] at h
  obtain ⟨va, vr, Fa, Fr, g1, g2, g3, g4, g5⟩ := h.split
  obtain ⟨vb, vc, Fb, Fc, k1, k2, k3, k4, k5⟩ := g3.split
  have la : va.length = off := by rw [g2.len]; simp; omega
  have lb : vb.length = n := by rw [k2.len]; simp; omega
  have d1 : vs.take off = va := by rw [g1, ← la, List.take_left]
  have d2 : vs.drop off = vr := by rw [g1, ← la, List.drop_left]
  have d3 : (vs.drop off).take n = vb := by rw [d2, k1, ← lb, List.take_left]
  have d4 : vs.drop (off + n) = vc := by rw [← List.drop_drop, d2, k1, ← lb, List.drop_left]
  refine ⟨Fb, fun b => Fa b ∨ Fc b, by rw [d3]; exact k2, ?_, ?_, fun c' ps us G hle hw hr hd hl => ?_⟩
  · rintro b q1 (q2 | q2)
    · exact g4 b q2 ((k5 b).2 (.inl q1))
    · exact k4 b q1 q2
  · intro b
    rw [g5 b, k5 b]
    constructor
    · rintro (q | q | q)
      · exact .inr (.inl q)
      · exact .inl q
      · exact .inr (.inr q)
    · rintro (q | q | q)
      · exact .inr (.inl q)
      · exact .inl q
      · exact .inr (.inr q)
  · rw [d1, d4]
    have t1 := g2.turn hle (fun b hb => hw b (.inl hb))
    have t2 := k3.turn hle (fun b hb => hw b (.inr hb))
    have := (t1.append hr (fun b q1 q2 => hd b q2 (.inl q1))).append t2 (by
      rintro b (q1 | q1) q2
      · exact g4 b q1 ((k5 b).2 (.inr q2))
      · exact hd b q1 (.inr q2))
    have e : (fun b => (Fa b ∨ G b) ∨ Fc b) = (fun b => G b ∨ Fa b ∨ Fc b) := FP.ext fun b => by
      constructor
      · rintro ((q | q) | q)
        · exact .inr (.inl q)
        · exact .inl q
        · exact .inr (.inr q)
      · rintro (q | q | q)
        · exact .inl (.inr q)
        · exact .inl (.inl q)
        · exact .inr q
    rw [e] at this
    exact this
section
variable {P : Program} {R : FnRel} {st : Sta} {reg idx : Nat} {Q : Exit → Act → World → Prop} {B : Base} {K : Act → World → Prop} {c : Cx} {a : Act} {s' : St} {t : Tr} {o : Oper}
/-- A place whose content turns, memory staying as it is: what it no longer owns lies in no place. -/
theorem InvF.recell {n : Nat} {F : FP} (hI : InvF B n c a F) {q : Loc} {p' : PV} {F1 F2 : FP} (hr : ∀ c' : Cx, c.Le c' → c'.w = c.w → RepV c' p' (c.val q) F2) (hor : (c.Fq q).or F1 F2) (hd : F1.dis F2) :
    ∃ c' : Cx, c.Le c' ∧ c'.w = c.w ∧ c'.K = c.K ∧ c'.S = c.S.md q p' ∧ c'.val = c.val ∧ InvF B n c' a (fun b => F b ∨ F1 b) := by
  let c' : Cx := { c with S := c.S.md q p', Fq := fun l b => (l = q ∧ F2 b) ∨ (l ≠ q ∧ c.Fq l b) }
  have hle : c.Le c' := by
    refine ⟨fun b o v h => h, fun l => ?_⟩
    by_cases hl : l = q
    · subst hl
      simp only [c', St.md, upd_same]
      exact ⟨⟨by omega, by omega⟩, fun _ => ⟨by trivial, fun e => by omega⟩⟩
    · simp only [c', St.md, upd_ne _ _ hl]
      exact ⟨⟨Nat.le_refl _, Nat.le_refl _⟩, fun _ => ⟨by trivial, fun _ b o v h1 h2 => .inr ⟨.inr ⟨hl, h1⟩, h2⟩⟩⟩
  have eq1 : c'.Fq q = F2 := FP.ext fun b => ⟨fun h => h.elim (fun h => h.2) (fun h => (h.1 rfl).elim), fun h => .inl ⟨rfl, h⟩⟩
  refine ⟨c', hle, rfl, rfl, rfl, rfl, hI.step q hle rfl (fun l' hl => by simp only [c', St.md, upd_ne _ _ hl]) (fun l' hl => FP.ext fun b => ⟨fun h => h.elim (fun h => (hl h.1).elim) (fun h => h.2), fun h => .inr ⟨hl, h⟩⟩) ?_ (fun _ _ _ _ => rfl) (Nat.le_refl _) rfl rfl rfl (fun _ _ _ h => .inl h) ?_ ?_ ?_⟩
  · rw [eq1]
    have : (c'.S q).pv = p' := by simp only [c', St.md, upd_same]
    rw [this]
    exact hr c' hle rfl
  · rw [eq1]
    rintro b (h | h | h)
    · exact .inl ((hor b).2 (.inr h))
    · exact .inr (.inl h)
    · exact .inl ((hor b).2 (.inl h))
  · rw [eq1]
    rintro b h (h2 | h2)
    · exact hI.disF q b h2 ((hor b).2 (.inr h))
    · exact hd b h2 h
  · rw [eq1]
    rintro b o v h hk
    have hk' : c.K b o v := hk
    rcases h with h | h | h
    · exact hI.kdis b o v (.inl ⟨q, (hor b).2 (.inr h)⟩) hk'
    · exact hI.kdis b o v (.inr h) hk'
    · exact hI.kdis b o v (.inl ⟨q, (hor b).2 (.inl h)⟩) hk'
theorem load_done {ty : TypeId} {x : Operand} (ho : o.op = .load ty x) (hI : InvF B st.n c a Nil) (hK : ∀ a' w', Inv B st.n s' a' w' → K a' w') {ti : TI} (hS : StOk P st) (ht : lookT st.τ ty = some ti)
    {b off : Nat} {vs : List Value} (hv : a.eval x = .pointer (some ⟨b, off, none⟩)) (hl : vs.length = ti.sz) (hc : ∀ j v, vs[j]? = some v → c.w.cell? ⟨b, off + j, none⟩ = some v) (hs : 1 ≤ ti.sz ∨ ti.agg = true) :
    (execOp a.eval o).run P c.w = .ok (.value (match ti.agg with | true => .agg vs.toArray | false => vs.headD undef)) c.w := by
  have hrun : (Instr.loadAt ty (a.eval x)).run P c.w = .ok (match ti.agg with | true => .agg vs.toArray | false => vs.headD undef) c.w := by
    rw [hv]
    unfold Instr.loadAt
    simp only [Instr.sureAddr, Sem.run_bind, Sem.run_pure, Result.andThen_ok]
    rw [loadVar_ok (hS.tau _ _ ht) vs hl hc]
    cases hag : ti.agg with
    | true => rfl
    | false =>
      cases vs with
      | nil =>
        rw [hag] at hs
        simp at hl hs
        omega
      | cons v r => rfl
  unfold execOp
  rw [ho]
  exact run_v hrun
theorem sz_pos_ok (hS : StOk P st) {ty : TypeId} {ti : TI} (ht : lookT st.τ ty = some ti) : 1 ≤ ti.sz := by
  have h := hS.tau _ _ ht
  rcases h.size with ⟨n, e, hk⟩ | h'
  · obtain ⟨d, h1, h2, h3⟩ := h.desc
    rw [hk] at h3
    obtain ⟨_, h4, te, h5, h6, h7, h8⟩ := h3
    rw [h7]
    exact Nat.le_trans h8 (Nat.le_mul_of_pos_left _ (by omega))
  · rw [h']; exact ti.ty.sz_pos
theorem kelCells_ok {ti : TI} {e : Ty} {x : e.D} {off : Nat} {k : PV → M Unit} {s : St} {cs : List Value} (h : (kelCells ti e x off k).Ex R s () s' t) (hr : RepC c.w c.K e 0 x cs Nil) (hs : 1 ≤ ti.sz)
    (hone : ti.agg = false → ti.sz = 1) : ∃ p t', (k p).Ex R s () s' t' ∧ off + ti.sz ≤ e.sz ∧ RepV c p (match ti.agg with | true => .agg ((cs.drop off).take ti.sz).toArray | false => ((cs.drop off).take ti.sz).headD undef) Nil := by
  have hcells := hr.cells
  have hlen : (e.cells 0 x).length = e.sz := by rw [← hcells.len, hr.len]
  unfold kelCells at h
  split at h
  · rename_i hag
    obtain ⟨hg, h1⟩ := guardM_ex h
    have hle := Nat.le_of_ble_eq_true hg
    obtain ⟨F1, F2, g1, g2, g3, _⟩ := hcells.part (off := off) (n := ti.sz) (by rw [hlen]; exact hle)
    have : F1 = Nil := FP.eq_of_none (fun b hb => (g3 b).2 (.inl hb))
    subst this
    exact ⟨_, t, h1, hle, by rw [hag]; exact ⟨_, rfl, by simpa using g1⟩⟩
  · rename_i hag
    obtain ⟨hg, h1⟩ := guardM_ex h
    have hle := Nat.le_of_ble_eq_true hg
    have h1s := hone hag
    obtain ⟨v, Fa, Fb, g1, g2, g3, g4, _⟩ := hcells.focus (i := off) (by rw [hlen]; omega)
    have : Fa = Nil := FP.eq_of_none (fun b hb => (g4 b).2 (.inl hb))
    subst this
    refine ⟨_, t, h1, by omega, ?_⟩
    rw [hag, h1s]
    have hdrop : (cs.drop off).take 1 = [v] := by
      have hlt : off < cs.length := by rw [hr.len]; omega
      rw [List.getElem?_eq_getElem hlt] at g1
      rw [List.drop_eq_getElem_cons hlt]
      simp only [List.take_succ_cons, List.take_zero]
      rw [Option.some.inj g1]
    rw [hdrop]
    exact g2
end
end Go.VI
