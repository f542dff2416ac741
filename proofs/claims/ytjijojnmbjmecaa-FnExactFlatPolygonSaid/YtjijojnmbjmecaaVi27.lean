/-
  An interpreter of the functions of a program as plain functions of lists and numbers, part 29: what it computes is what the program does. No condition but those that its theorems name.
-/
import Derived.Test.YtjijojnmbjmecaaVi26
set_option linter.unusedVariables false
set_option linter.constructorNameAsVariable false
namespace Go.VI
section
variable {P : Program} {R : FnRel} {st : Sta} {reg idx : Nat} {Q : Exit → Act → World → Prop} {B : Base} {K : Act → World → Prop} {c : Cx} {a : Act} {s' : St} {t : Tr} {o : Oper}
theorem op_ok (hS : StOk P st) (hR : FnOk P R) (hI : InvF B st.n c a Nil) (hK : ∀ a' w', Inv B st.n s' a' w' → K a' w')
    (h : (opM st reg idx o (putM st o.dst)).Ex R c.S () s' t) : o.wp P a c.w K Q := by
  have h0 := h
  unfold opM at h
  split at h
  · exact op_move (by assumption) hI hK h0
  · exact op_assign (by assumption) hI hK h0
  · exact op_pick (by assumption) hI hK h0
  · exact op_box hS (by assumption) hI hK h0
  · exact op_alloc hS (by assumption) hI hK h0
  · exact op_build hS (by assumption) hI hK h0
  · exact op_buildSlice hS (by assumption) hI hK h0
  · exact op_load hS (by assumption) hI hK h0
  · exact op_store hS (by assumption) hI hK h0
  · exact op_nilCheck (by assumption) hI hK h0
  · exact op_bin hS (by assumption) hI hK h0
  · exact op_un (by assumption) hI hK h0
  · exact op_convert hS (by assumption) hI hK h0
  · exact op_makeFunc (by assumption) hI hK h0
  · exact op_makeSlice hS (by assumption) hI hK h0
  · exact op_slice hS (by assumption) hI hK h0
  · exact op_fieldAddr hS (by assumption) hI hK h0
  · exact op_field hS (by assumption) hI hK h0
  · exact op_indexAddr hS (by assumption) hI hK h0
  · exact op_index hS (by assumption) hI hK h0
  · exact op_extract (by assumption) hI hK h0
  · rename_i cl ho
    obtain ⟨hsz, h1⟩ := guardM_ex h
    have hsz := Nat.eq_of_beq_eq_true hsz
    split at h1
    · rename_i b hc
      generalize hz : cl.args.toList.zip cl.argTypes.toList = l at h1
      have h2 := h1
      unfold builtinM at h1
      split at h1
      · exact op_len hS ho hc hz hI hK h2
      · exact op_append hS ho hc hz hsz hI hK h2
      · exact op_clear hS ho hc hz hI hK h2
      · exact op_minmax false ho hc hsz hz hI hK h2
      · exact op_minmax true ho hc hsz hz hI hK h2
      · exact h1.elim
    · rename_i f hc
      exact op_call hR ho hc hsz hI hK (by rw [hc]; exact h1)
    · rename_i x hne hc
      refine op_call (t := t) hR ho hc hsz hI hK ?_
      rw [hc]
      cases x with
      | func f => exact (hne f rfl).elim
      | tmp n => exact h1
      | const v => exact h1
      | global g => exact h1
    · exact h1.elim
  · exact h.elim
theorem OpOk.inv (hS : StOk P st) (hR : FnOk P R) {opsA : Array Oper} : OpOk P R st reg opsA Q (Inv B st.n) := by
  intro i o s s' t a w K ho h hI hK
  obtain ⟨c, rfl, rfl, hI⟩ := hI
  have ho' : opsA[i]? = some o := by simpa using ho
  unfold wpOp
  rw [ho']
  dsimp only
  have skip : ∀ {c' : Cx} {t' : Tr}, InvF B st.n c' a Nil → c'.w = c.w → (putM st o.dst .nov).Ex R c'.S () s' t' → K (a.put o.dst undef) c.w := by
    intro c' t' hI' hw h'
    rw [← hw]
    exact put_done (p := .nov) hK hI' (F1 := Nil) ⟨rfl, no_none⟩ (fun _ h => h) h'
  unfold stepM at h
  split at h
  · rename_i hg
    have : Region.wanted o (yielded opsA a.tmps) = true := by unfold Region.wanted; rw [hg]
    rw [this, if_pos rfl]
    exact .inl (op_ok hS hR hI hK h)
  · rename_i g want hg
    split at h
    · exact h.elim
    · rename_i d hd
      have hd' : (opsA[g]?).bind (·.dst) = some d := by simpa using hd
      have hv : c.val (T d) = a.tmps.getD d undef := hI.val_t d
      have hrep := hI.rep (T d)
      have hget : ∀ b, c.val (T d) = .bool b → yielded opsA a.tmps g = some b := by
        intro b hb
        rw [hb, Array.getD_eq_getD_getElem?] at hv
        unfold yielded
        rw [hd']
        show (match (a.tmps[d]? : Option Value) with | some (.bool b) => some b | _ => none) = _
        cases hx : a.tmps[d]? with
        | none => rw [hx] at hv; simp [undef] at hv
        | some v => rw [hx] at hv; simp only [Option.getD_some] at hv; rw [← hv]
      have hw : ∀ b, (c.S (T d)).pv = .bool b → Region.wanted o (yielded opsA a.tmps) = (b == want) := by
        intro b hb
        have hy := hget b (by rw [hb] at hrep; exact hrep.1)
        unfold Region.wanted; rw [hg]; dsimp only; rw [hy]; cases b <;> cases want <;> rfl
      have hn : (c.S (T d)).pv = .nov → Region.wanted o (yielded opsA a.tmps) = false := by
        intro hb
        rw [hb] at hrep
        have hu : c.val (T d) = undef := hrep.1
        have hy : yielded opsA a.tmps g = none := by
          rw [hu, Array.getD_eq_getD_getElem?] at hv
          unfold yielded
          rw [hd']
          show (match (a.tmps[d]? : Option Value) with | some (.bool b) => some b | _ => none) = _
          cases hx : a.tmps[d]? with
          | none => rfl
          | some v => rw [hx] at hv; simp only [Option.getD_some] at hv; rw [← hv]; rfl
        unfold Region.wanted; rw [hg]; dsimp only; rw [hy]; rfl
      split at h
      · obtain ⟨t1, rfl, ⟨e, h2⟩ | ⟨e, h2⟩ | ⟨e, h2⟩⟩ := h
        · rw [hw _ e, if_pos (by decide)]
          exact .inl (op_ok hS hR hI hK h2)
        · rw [hw _ e, if_neg (by decide)]
          exact skip hI rfl h2
        · rw [hn e, if_neg (by simp)]
          exact skip hI rfl h2
      · obtain ⟨t1, rfl, ⟨e, h2⟩ | ⟨e, h2⟩ | ⟨e, h2⟩⟩ := h
        · rw [hw _ e, if_neg (by decide)]
          exact skip hI rfl h2
        · rw [hw _ e, if_pos (by decide)]
          exact .inl (op_ok hS hR hI hK h2)
        · rw [hn e, if_neg (by simp)]
          exact skip hI rfl h2
theorem Inv.drew {S : St} {w : World} (h : Inv B st.n S a w) : Inv B st.n S a { w with drawn := w.drawn + 1 } := by
  obtain ⟨c, rfl, rfl, hI⟩ := h
  exact ⟨{ c with w := { c.w with drawn := c.w.drawn + 1 } }, rfl, rfl, hI.grow (hdr := Nat.le_succ _) (w' := { c.w with drawn := c.w.drawn + 1 }) (fun b _ => rfl) (Nat.le_refl _) rfl rfl rfl (fun b h => .inl h)⟩
end
end Go.VI
