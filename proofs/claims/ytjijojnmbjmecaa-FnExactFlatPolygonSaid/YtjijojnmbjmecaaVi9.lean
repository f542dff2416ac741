/-
  An interpreter of the functions of a program as plain functions of lists and numbers, part 9: what it computes is what the program does. No condition but those that its theorems name.
-/
import Derived.Test.YtjijojnmbjmecaaVi8
import Derived.Laws.Cover3
import Derived.Lib.SliceRun
set_option linter.unusedVariables false
set_option linter.constructorNameAsVariable false
namespace Go.VI
section
variable {P : Program} {R : FnRel} {st : Sta} {reg idx : Nat} {Q : Exit → Act → World → Prop} {B : Base} {K : Act → World → Prop} {c : Cx} {a : Act} {s' : St} {t : Tr} {o : Oper}
theorem run_v {m : Sem Value} {w w' : World} {v : Value} (h : m.run P w = .ok v w') : (do pure (.value (← m)) : Sem Next).run P w = .ok (.value v) w' := by
  rw [Sem.run_bind, h]; rfl
theorem run_u {m : Sem Unit} {w w' : World} (h : m.run P w = .ok () w') : (do m; pure .skip : Sem Next).run P w = .ok .skip w' := by
  rw [Sem.run_bind, h]; rfl
abbrev Nil : FP := fun _ => False
theorem or_nil (F : FP) : (fun b => F b ∨ Nil b) = F := FP.ext fun b => by simp [Nil]
theorem nil_or (F : FP) : (fun b => Nil b ∨ F b) = F := FP.ext fun b => by simp [Nil]
theorem valid_ex {α : Type} {q : Loc} {ig cg : Nat} {m : M α} {s : St} {x : α} {s' : St} {t : Tr} (h : (valid q ig cg m).Ex R s x s' t) :
    (s q).ig = ig ∧ (s q).cg = cg ∧ ∃ t', m.Ex R s x s' t' := by
  obtain ⟨t', rfl, h⟩ := h
  obtain ⟨hg, h⟩ := guardM_ex h
  rw [Bool.and_eq_true] at hg
  exact ⟨Nat.eq_of_beq_eq_true hg.1, Nat.eq_of_beq_eq_true hg.2, t', h⟩
/-- What a reference stands for when it is alive. -/
def Alive (c : Cx) : PV → Prop
  | .bor q _ ig cg _ _ _ _ _ => (c.S q).ig = ig ∧ (c.S q).cg = cg
  | .kel (some (q, _, ig, cg)) _ _ _ _ _ => (c.S q).ig = ig ∧ (c.S q).cg = cg
  | .ptr q ig _ => (c.S q).ig = ig
  | _ => True
theorem liveM_ex {α : Type} {v : PV} {m : M α} {x : α} {s' : St} {t : Tr} (h : (liveM v m).Ex R c.S x s' t) : Alive c v ∧ ∃ t', m.Ex R c.S x s' t' := by
  unfold liveM at h
  split at h
  · obtain ⟨h1, h2, h3⟩ := valid_ex h; exact ⟨⟨h1, h2⟩, h3⟩
  · obtain ⟨h1, h2, h3⟩ := valid_ex h; exact ⟨⟨h1, h2⟩, h3⟩
  · obtain ⟨t', rfl, h⟩ := h
    obtain ⟨hg, h⟩ := guardM_ex h
    exact ⟨Nat.eq_of_beq_eq_true hg, t', h⟩
  · rename_i h1 h2 h3
    refine ⟨?_, t, h⟩
    cases v with
    | bor => exact (h1 _ _ _ _ _ _ _ _ _ rfl).elim
    | kel fr => cases fr with
      | none => trivial
      | some x => obtain ⟨q, path, ig, cg⟩ := x; exact (h2 _ _ _ _ _ _ _ _ _ rfl).elim
    | ptr => exact (h3 _ _ _ rfl).elim
    | _ => trivial
theorem cells_solid {c : Cx} {p : PV} {v : Value} {F : FP} (hs : solid p = true) (ha : Alive c p) (hr : RepV c p v F) :
    ∃ vs F2, RepVs c (cellsOf p) vs F2 ∧ v.cells = vs.toArray ∧ ∀ b, F2 b → F b := by
  have one : (∀ cs, p ≠ .agg cs) → v.cells = #[v] → ∃ vs F2, RepVs c (cellsOf p) vs F2 ∧ v.cells = vs.toArray ∧ ∀ b, F2 b → F b := by
    intro hp hv
    have : cellsOf p = [p] := by cases p <;> first | rfl | (exact (hp _ rfl).elim)
    rw [this]
    exact ⟨[v], F, ⟨_, [], F, Nil, rfl, hr, ⟨rfl, no_none⟩, fun _ _ h => h, fun _ => by simp [Nil]⟩, by rw [hv], fun _ h => h⟩
  cases p with
  | agg cs => obtain ⟨vs, e, h⟩ := hr; exact ⟨vs.toList, F, h, by rw [e]; simp [Value.cells], fun _ h => h⟩
  | undef => simp [solid] at hs
  | nov => simp [solid] at hs
  | tup _ => simp [solid] at hs
  | als _ _ => simp [solid] at hs
  | sl d ty xs =>
    obtain ⟨ad, cap, h1, _⟩ := hr
    simp only [List.cons.injEq, and_true] at h1
    exact one (fun _ h => by simp at h) (by rw [h1]; rfl)
  | cap ty xs =>
    obtain ⟨_, ad, h1⟩ := hr
    exact one (fun _ h => by simp at h) (by rw [h1]; rfl)
  | bor q path ig cg d wh base ty xs =>
    obtain ⟨_, _, _, h4⟩ := hr
    obtain ⟨ad, cap, h1, _⟩ := (h4 ha.1).2.1 ha.2
    simp only [List.cons.injEq, and_true] at h1
    exact one (fun _ h => by simp at h) (by rw [h1]; rfl)
  | kel fr d i ty x off =>
    cases fr with
    | none => obtain ⟨_, b, o, cs, h1, _⟩ := hr; exact one (fun _ h => by simp at h) (by rw [h1]; rfl)
    | some y =>
      obtain ⟨q, path, ig, cg⟩ := y
      obtain ⟨_, _, _, h4⟩ := hr
      obtain ⟨b, o, cs, h1, _⟩ := (h4 ha.1).2 ha.2
      exact one (fun _ h => by simp at h) (by rw [h1]; rfl)
  | ptr q ig off =>
    obtain ⟨_, _, h3⟩ := hr
    obtain ⟨b, _, h1⟩ := h3 ha
    exact one (fun _ h => by simp at h) (by rw [h1]; rfl)
  | box cs => obtain ⟨b, arr, ty, F', h1, _⟩ := hr; exact one (fun _ h => by simp at h) (by rw [h1]; rfl)
  | clo f cs => obtain ⟨_, vs, h1, _⟩ := hr; exact one (fun _ h => by simp at h) (by rw [h1]; rfl)
  | bnd f cs => obtain ⟨_, vs, h1, _⟩ := hr; exact one (fun _ h => by simp at h) (by rw [h1]; rfl)
  | someI => obtain ⟨⟨t, x, h1⟩, _⟩ := hr; exact one (fun _ h => by simp at h) (by rw [h1]; rfl)
  | nsl b t xs => obtain ⟨_, ad, n, cap, h1, _⟩ := hr; exact one (fun _ h => by simp at h) (by rw [h1]; rfl)
  | bool _ => exact one (fun _ h => by simp at h) (by rw [hr.1]; rfl)
  | int _ _ => exact one (fun _ h => by simp at h) (by rw [hr.1]; rfl)
  | str _ => exact one (fun _ h => by simp at h) (by rw [hr.1]; rfl)
  | nilF => exact one (fun _ h => by simp at h) (by rw [hr.1]; rfl)
  | nilI => exact one (fun _ h => by simp at h) (by rw [hr.1]; rfl)
theorem lowM_ex {h : Nat} {p : PV} {k : PV → M Unit} {c : Cx} {v : Value} {F : FP} (hr : RepV c p v F) {s : St} {t : Tr} (hx : (lowM h p k).Ex R s () s' t) : ∃ p', (k p').Ex R s () s' t ∧ RepV c p' v F := by
  unfold lowM at hx
  split at hx
  · exact ⟨p, hx, hr⟩
  · split at hx
    · rename_i h d ty
      refine ⟨_, hx, ?_⟩
      obtain ⟨ad, cap, h1, h2, h3⟩ := (show RepC c.w c.K (.l ty) (d + 1) [] [v] F from hr)
      refine ⟨ad, cap, h1, h2, h3.imp id ?_⟩
      rintro ⟨b, o, arr, ty', F', g1, g2, g3, g4, g5, g6⟩
      exact ⟨b, o, arr, ty', F', g1, g2, g3, g4, g5, g6⟩
    · exact hx.elim
theorem op_assign {x : Operand} (ho : o.op = .assign x) (hI : InvF B st.n c a Nil) (hK : ∀ a' w', Inv B st.n s' a' w' → K a' w') (h : (opM st reg idx o (putM st o.dst)).Ex R c.S () s' t) : o.wp P a c.w K Q := by
  unfold opM at h
  rw [ho] at h
  dsimp only at h
  obtain ⟨p, t', c', F1, h1, hle, hw, hk, hr, hd, hI'⟩ := ro_ex hI h
  rw [nil_or] at hI'
  obtain ⟨p', h2, hr'⟩ := lowM_ex hr h1
  exact val_done hK hI' hr' (fun _ h => h) h2 (by unfold execOp; rw [ho, hw]; rfl)
theorem op_move {x : Operand} (ho : o.op = .move x) (hI : InvF B st.n c a Nil) (hK : ∀ a' w', Inv B st.n s' a' w' → K a' w') (h : (opM st reg idx o (putM st o.dst)).Ex R c.S () s' t) : o.wp P a c.w K Q := by
  have hrun : ∀ w, (execOp a.eval o).run P w = .ok (.value (a.eval x)) w := fun w => by unfold execOp; rw [ho]; rfl
  unfold opM at h
  rw [ho] at h
  dsimp only at h
  split at h
  · obtain ⟨p, t', h1, hr⟩ := rb_ex hI h
    exact val_done hK hI hr (fun _ h => h) h1 (hrun _)
  · obtain ⟨p, t', c', F1, h1, hle, hw, hk, hr, hd, hI'⟩ := ro_ex hI h
    rw [nil_or] at hI'
    exact val_done hK hI' hr (fun _ h => h) h1 (by rw [← hw]; exact hrun _)
  · cases x with
    | tmp m =>
      obtain ⟨t1, rfl, h⟩ := h
      dsimp only at h
      split at h
      · rename_i d ty xs heq
        obtain ⟨t2, rfl, h⟩ := h
        have hr := hI.rep (T m)
        rw [heq] at hr
        have hr' : RepC c.w (Kx c.w c.K (c.Fq (T m))) (.l ty) 0 xs [c.val (T m)] Nil :=
          RepC.freeze (K := c.K) (t := .l ty) (fun b o v hk => .inl hk) (show RepC c.w c.K (.l ty) d xs [c.val (T m)] _ from hr) (fun b o v hb hc => .inr ⟨hb, hc⟩)
        let c' : Cx := { c with K := Kx c.w c.K (c.Fq (T m)), S := c.S.md (T m) (.sl 0 ty xs), Fq := fun l b => l ≠ T m ∧ c.Fq l b }
        have hle : c.Le c' := by
          refine ⟨fun b o v h => .inl h, fun q => ?_⟩
          by_cases hq : q = T m
          · subst hq
            simp only [c', St.md, upd_same]
            exact ⟨⟨by omega, by omega⟩, fun _ => ⟨by trivial, fun e => by omega⟩⟩
          · simp only [c', St.md, upd_ne _ _ hq]
            exact ⟨⟨Nat.le_refl _, Nat.le_refl _⟩, fun _ => ⟨by trivial, fun _ b o v h1 h2 => .inr ⟨⟨hq, h1⟩, h2⟩⟩⟩
        have hI' : InvF B st.n c' a Nil := by
          refine hI.step (T m) hle rfl (fun l' hl => by simp only [c', St.md, upd_ne _ _ hl]) (fun l' hl => FP.ext fun b => ⟨fun h => h.2, fun h => ⟨hl, h⟩⟩) ?_ (fun _ _ _ _ => rfl) (Nat.le_refl _) rfl rfl rfl ?_ ?_ ?_ ?_
          · simp only [c', St.md, upd_same]
            have e : (fun b => (T m : Loc) ≠ T m ∧ c.Fq (T m) b) = Nil := FP.ext fun b => ⟨fun h => h.1 rfl, fun h => h.elim⟩
            rw [e]; exact hr'
          · rintro b o v (hk | ⟨hb, hc⟩)
            · exact .inl hk
            · exact .inr ⟨.inl hb, hc⟩
          · rintro b (h | h)
            · exact (h.1 rfl).elim
            · exact h.elim
          · intro b h1 h2; exact h2
          · rintro b o v (h | h)
            · exact (h.1 rfl).elim
            · exact h.elim
        exact val_done (c := c') (p := .sl 0 ty xs) (v := c.val (T m)) hK hI' (F1 := Nil) hr' (fun _ h => h) h (by rw [hrun, hI.val_t m]; rfl)
      · exact h.elim
    | _ => exact h.elim
theorem op_pick {x y z : Operand} (ho : o.op = .pick x y z) (hI : InvF B st.n c a Nil) (hK : ∀ a' w', Inv B st.n s' a' w' → K a' w') (h : (opM st reg idx o (putM st o.dst)).Ex R c.S () s' t) : o.wp P a c.w K Q := by
  unfold opM at h
  rw [ho] at h
  dsimp only at h
  obtain ⟨p, t', h1, hr⟩ := rb_ex hI h
  split at h1
  · rename_i b
    have hv : a.eval x = .bool b := hr.1
    rcases br_ex h1 with ⟨hb, h3⟩ | ⟨hb, h3⟩
    · obtain ⟨q, t2, h2, hr2⟩ := rb_ex hI h3
      exact val_done hK hI hr2 (fun _ h => h) h2 (by unfold execOp; rw [ho]; simp [hv, asBool, hb])
    · obtain ⟨q, t2, h2, hr2⟩ := rb_ex hI h3
      exact val_done hK hI hr2 (fun _ h => h) h2 (by unfold execOp; rw [ho]; simp [hv, asBool, hb])
  · exact h1.elim
theorem op_un {op : UnOp} {ty : TypeId} {x : Operand} (ho : o.op = .unOp op ty x) (hI : InvF B st.n c a Nil) (hK : ∀ a' w', Inv B st.n s' a' w' → K a' w') (h : (opM st reg idx o (putM st o.dst)).Ex R c.S () s' t) : o.wp P a c.w K Q := by
  unfold opM at h
  rw [ho] at h
  dsimp only at h
  obtain ⟨p, t', h1, hr⟩ := rb_ex hI h
  unfold unM at h1
  split at h1
  · rename_i b
    have hv : a.eval x = .bool b := hr.1
    exact val_done hK hI (F1 := Nil) (p := .bool !b) (v := .bool !b) ⟨rfl, no_none⟩ (fun _ h => h) h1 (by unfold execOp; rw [ho]; exact run_v (by rw [hv]; rfl))
  · rename_i j n
    have hv : a.eval x = .int j n := hr.1
    exact val_done hK hI (F1 := Nil) (p := .int j (j.wrap (0 - n))) (v := .int j (j.wrap (0 - n))) ⟨rfl, no_none⟩ (fun _ h => h) h1 (by unfold execOp; rw [ho]; exact run_v (by rw [hv]; rfl))
  · rename_i j n
    have hv : a.eval x = .int j n := hr.1
    exact val_done hK hI (F1 := Nil) (p := .int j (ixor j (if j.signed then -1 else j.max) n)) (v := .int j (ixor j (if j.signed then -1 else j.max) n)) ⟨rfl, no_none⟩ (fun _ h => h) h1 (by unfold execOp; rw [ho]; exact run_v (by rw [hv]; rfl))
  · exact h1.elim
theorem isNil_ok {y : Operand} (h : isNil y = true) : a.eval y = .slice none 0 0 := by
  unfold isNil at h
  split at h
  · rfl
  · simp at h
theorem elB_under (hS : StOk P st) {ty : TypeId} {e : Ty} (h : elB st ty e = true) : ∃ el, P.underlying ty = some (.slice el) := by
  unfold elB at h
  split at h
  · rename_i el ty' sz ag by_ heq
    obtain ⟨d, h1, h2⟩ := (hS.tau _ _ heq).desc
    exact ⟨el, by rw [h1]; rw [h2.2.1]⟩
  · simp at h
theorem run_nil_slice (w : World) (op : BinOp) (t e : TypeId) (ad : Option Addr) (n c : Nat) (h : P.underlying t = some (.slice e)) (ho : op = .eql ∨ op = .neq) :
    (binOp op t (.slice ad n c) (.slice none 0 0)).run P w = .ok (.bool (match op with | .eql => ad.isNone | _ => !ad.isNone)) w := by
  rcases ho with rfl | rfl
  · exact Lib.run_eql_slice_nil w t e ad n c 0 0 h
  · exact run_neq_slice_nil w t e ad n c h
theorem op_bin (hS : StOk P st) {op : BinOp} {ty u : TypeId} {x y : Operand} (ho : o.op = .binOp op ty x y u) (hI : InvF B st.n c a Nil) (hK : ∀ a' w', Inv B st.n s' a' w' → K a' w') (h : (opM st reg idx o (putM st o.dst)).Ex R c.S () s' t) : o.wp P a c.w K Q := by
  unfold opM at h
  rw [ho] at h
  dsimp only at h
  split at h
  · rename_i hn
    obtain ⟨p, t1, h1, hr1⟩ := rb_ex hI h
    unfold nilM at h1
    split at h1
    · rename_i b e xs
      obtain ⟨hg, h2⟩ := guardM_ex h1
      obtain ⟨hrep, ad, n, cap, hv, hb⟩ := hr1
      obtain ⟨el, hu⟩ := elB_under hS hg
      have hy : a.eval y = .slice none 0 0 := isNil_ok hn
      subst hb
      unfold eqlM at h2
      split at h2
      · exact val_done hK hI (F1 := Nil) (p := .bool ad.isNone) (v := .bool ad.isNone) ⟨rfl, no_none⟩ (fun _ h => h) h2 (by unfold execOp; rw [ho]; exact run_v (by rw [hv, hy]; exact run_nil_slice _ .eql ty el ad n cap hu (.inl rfl)))
      · exact val_done hK hI (F1 := Nil) (p := .bool !ad.isNone) (v := .bool !ad.isNone) ⟨rfl, no_none⟩ (fun _ h => h) h2 (by unfold execOp; rw [ho]; exact run_v (by rw [hv, hy]; exact run_nil_slice _ .neq ty el ad n cap hu (.inr rfl)))
      · exact h2.elim
    · exact h1.elim
  · obtain ⟨p, t1, h1, hr1⟩ := rb_ex hI h
    obtain ⟨q, t2, h2, hr2⟩ := rb_ex hI h1
    obtain ⟨r, v, t3, h3, hr3, hrun⟩ := binM_ok (w := c.w) hS x y hr1 hr2 h2
    exact val_done hK hI hr3 (fun _ h => h) h3 (by unfold execOp; rw [ho]; exact run_v hrun)
theorem op_box (hS : StOk P st) {ty : TypeId} {x : Operand} (ho : o.op = .box ty x) (hI : InvF B st.n c a Nil) (hK : ∀ a' w', Inv B st.n s' a' w' → K a' w') (h : (opM st reg idx o (putM st o.dst)).Ex R c.S () s' t) : o.wp P a c.w K Q := by
  unfold opM at h
  rw [ho] at h
  dsimp only at h
  obtain ⟨p, t', c', F1, h1, hle, hw, hk, hr, hd, hI'⟩ := ro_ex hI h
  rw [nil_or] at hI'
  obtain ⟨hal, t2, h1⟩ := liveM_ex h1
  split at h1
  · obtain ⟨hg, h1⟩ := guardM_ex h1
    rw [Bool.and_eq_true] at hg
    have hcells := cells_solid hg.2 hal hr
    obtain ⟨vs, F2, hvs, hcs, hF2⟩ := hcells
    refine val_done hK (hI'.alloc vs.toArray ty) (box_ok hI' hvs hF2 ty) (fun b hb => hb.elim .inr (fun h => .inl (hF2 b h))) h1 ?_
    unfold execOp
    rw [ho]
    refine run_v ?_
    unfold Instr.box newVar
    rw [hcs, Sem.run_bind, ← hw, run_newRow]
    rfl
  · exact h1.elim
end
end Go.VI
