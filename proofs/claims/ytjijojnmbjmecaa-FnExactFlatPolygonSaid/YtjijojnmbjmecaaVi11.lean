/-
  An interpreter of the functions of a program as plain functions of lists and numbers, part 11: what it computes is what the program does. No condition but those that its theorems name.
-/
import Derived.Test.YtjijojnmbjmecaaVi10
set_option linter.unusedVariables false
set_option linter.constructorNameAsVariable false
namespace Go.VI
section
variable {P : Program} {R : FnRel} {st : Sta} {reg idx : Nat} {Q : Exit → Act → World → Prop} {B : Base} {K : Act → World → Prop} {c : Cx} {a : Act} {s' : St} {t : Tr} {o : Oper}
theorem fieldOf_ok (hS : StOk P st) {ty : TypeId} {f off : Nat} {u : TypeId} (h : fieldOf st.τ ty f = some (off, u)) :
    ∃ fields fld tu ti, P.underlying ty = some (.struct fields) ∧ fields[f]? = some fld ∧ fld.offset = off ∧ fld.type = u ∧ lookT st.τ u = some tu ∧ 1 ≤ tu.sz ∧ off + tu.sz ≤ ti.sz ∧ lookT st.τ ty = some ti := by
  unfold fieldOf at h
  split at h
  · rename_i fs sz ty' ag by_ heq
    obtain ⟨d, h1, h2, fields, h3, h4, h5⟩ := (hS.tau _ _ heq).desc
    have hf : (fields.toList.map (fun f => (f.offset, f.type)))[f]? = some (off, u) := by rw [h4]; exact h
    rw [List.getElem?_map] at hf
    cases hx : fields.toList[f]? with
    | none => rw [hx] at hf; simp at hf
    | some fld =>
      rw [hx] at hf
      simp only [Option.map_some, Option.some.injEq, Prod.mk.injEq] at hf
      obtain ⟨tu, g1, g2, g3⟩ := h5 (off, u) (List.mem_of_getElem? h)
      exact ⟨fields, fld, tu, _, by rw [h1, h3], by simpa using hx, hf.1, hf.2, g1, g2, g3, heq⟩
  · simp at h
theorem run_sizeOf (hS : StOk P st) {t : TypeId} {ti : TI} (h : lookT st.τ t = some ti) (w : World) : (sizeOf t).run P w = .ok ti.sz w := by
  obtain ⟨i, hi, hsz, _⟩ := (hS.tau _ _ h).info
  simp [sizeOf, typeInfo, run_program, hi, hsz]
theorem run_isAgg (hS : StOk P st) {t : TypeId} {ti : TI} (h : lookT st.τ t = some ti) (w : World) : (isAgg t).run P w = .ok ti.agg w := by
  obtain ⟨d, hd, hag, _⟩ := (hS.tau _ _ h).desc
  simp only [isAgg, Sem.run_bind, run_underlying hd, Result.andThen_ok, hag]
  cases d <;> rfl
theorem run_fieldAt (hS : StOk P st) {ty : TypeId} {f off : Nat} {u : TypeId} (h : fieldOf st.τ ty f = some (off, u)) (b x : Nat) (w : World) :
    (Instr.fieldAt ty (.pointer (some ⟨b, x, none⟩)) f).run P w = .ok (.pointer (some ⟨b, x + off, none⟩)) w := by
  obtain ⟨fields, fld, tu, ti, h1, h2, h3, h4, h5, h6, _⟩ := fieldOf_ok hS h
  unfold Instr.fieldAt
  have hne : ¬ tu.sz = 0 := by omega
  simp only [Sem.run_bind, run_underlying h1, Result.andThen_ok, h2, Instr.sureAddr, Sem.run_pure, fieldPlace]
  rw [h4, run_sizeOf hS h5, Result.andThen_ok]
  simp only [hne, if_false, Sem.run_pure, Result.andThen_ok, h3, add_addr]
theorem op_fieldAddr (hS : StOk P st) {ty : TypeId} {x : Operand} {f : Nat} (ho : o.op = .fieldAddr ty x f) (hI : InvF B st.n c a Nil) (hK : ∀ a' w', Inv B st.n s' a' w' → K a' w')
    (h : (opM st reg idx o (putM st o.dst)).Ex R c.S () s' t) : o.wp P a c.w K Q := by
  unfold opM at h
  rw [ho] at h
  dsimp only at h
  obtain ⟨p, t1, h1, hr⟩ := rb_ex hI h
  obtain ⟨hal, t2, h2⟩ := liveM_ex h1
  split at h2
  · rename_i off u heq
    have hrun : ∀ b y, a.eval x = .pointer (some ⟨b, y, none⟩) → (execOp a.eval o).run P c.w = .ok (.value (.pointer (some ⟨b, y + off, none⟩))) c.w := by
      intro b y hv
      unfold execOp; rw [ho]; exact run_v (by rw [hv]; exact run_fieldAt hS heq b y c.w)
    split at h2
    · rename_i q ig y
      obtain ⟨g1, g2, g3⟩ := hr
      obtain ⟨b, g4, g5⟩ := g3 hal
      refine val_done hK hI (F1 := Nil) (p := .ptr q ig (y + off)) (v := .pointer (some ⟨b, y + off, none⟩)) ⟨no_none, g2, fun _ => ⟨b, g4, rfl⟩⟩ (fun _ h => h) h2 (hrun b y g5)
    · rename_i fr d i e z y
      cases fr with
      | none =>
        obtain ⟨g1, b, o', cs, g2, g3, g4⟩ := hr
        refine val_done hK hI (F1 := Nil) (p := .kel none d i e z (y + off)) (v := .pointer (some ⟨b, o' + y + off, none⟩)) ⟨no_none, b, o', cs, by rw [Nat.add_assoc], g3, g4⟩ (fun _ h => h) h2 (hrun _ _ g2)
      | some k =>
        obtain ⟨q, path, ig, cg⟩ := k
        obtain ⟨g1, g2, g3, g4⟩ := hr
        obtain ⟨g5, g6⟩ := g4 hal.1
        obtain ⟨b, o', cs, k1, k2, k3⟩ := g6 hal.2
        refine val_done hK hI (F1 := Nil) (p := .kel (some (q, path, ig, cg)) d i e z (y + off)) (v := .pointer (some ⟨b, o' + y + off, none⟩)) ⟨no_none, g2, g3, fun _ => ⟨fun hp => ?_, fun _ => ⟨b, o', cs, by rw [Nat.add_assoc], k2, k3⟩⟩⟩ (fun _ h => h) h2 (hrun _ _ k1)
        obtain ⟨b2, o2, n, cap, m1, m2⟩ := g5 hp
        rw [m2] at k1
        injection k1 with k1; injection k1 with k1; injection k1 with e1 e2
        exact ⟨b2, o2, n, cap, m1, by rw [e1, ← e2]; congr 3; omega⟩
    · exact h2.elim
  · exact h2.elim
theorem op_nilCheck {x : Operand} (ho : o.op = .nilCheck x) (hI : InvF B st.n c a Nil) (hK : ∀ a' w', Inv B st.n s' a' w' → K a' w')
    (h : (opM st reg idx o (putM st o.dst)).Ex R c.S () s' t) : o.wp P a c.w K Q := by
  unfold opM at h
  rw [ho] at h
  dsimp only at h
  obtain ⟨p, t1, h1, hr⟩ := rb_ex hI h
  have fin : ∀ (hv : (∃ b y, a.eval x = .pointer (some ⟨b, y, none⟩)) ∨ ∃ f ws vs, a.eval x = .func (.func f) ws vs) (t2 : Tr) (h2 : (putM st o.dst p).Ex R c.S () s' t2), o.wp P a c.w K Q := by
    intro hv t2 h2
    refine val_done hK hI hr (fun _ h => h) h2 ?_
    unfold execOp; rw [ho]
    rcases hv with ⟨b, y, hv⟩ | ⟨f, ws, vs, hv⟩
    · simp only [hv]; rfl
    · simp only [hv]; rfl
  split at h1
  · obtain ⟨hal, t2, h2⟩ := liveM_ex h1
    obtain ⟨g1, g2, g3⟩ := hr
    obtain ⟨b, g4, g5⟩ := g3 hal
    exact fin (.inl ⟨_, _, g5⟩) t2 h2
  · rename_i fr d i e z y
    obtain ⟨hal, t2, h2⟩ := liveM_ex h1
    cases fr with
    | none =>
      obtain ⟨g1, b, o', cs, g2, g3, g4⟩ := id hr
      exact fin (.inl ⟨_, _, g2⟩) t2 h2
    | some k =>
      obtain ⟨q, path, ig, cg⟩ := k
      obtain ⟨g1, g2, g3, g4⟩ := id hr
      obtain ⟨b, o', cs, k1, k2, k3⟩ := (g4 hal.1).2 hal.2
      exact fin (.inl ⟨_, _, k1⟩) t2 h2
  · obtain ⟨hal, t2, h2⟩ := liveM_ex h1
    obtain ⟨g0, vs, g1, g2⟩ := id hr
    exact fin (.inr ⟨_, _, _, g1⟩) t2 h2
  · obtain ⟨hal, t2, h2⟩ := liveM_ex h1
    obtain ⟨g0, vs, g1, g2⟩ := id hr
    exact fin (.inr ⟨_, _, _, g1⟩) t2 h2
  · exact h1.elim
theorem elB_ok (hS : StOk P st) {ty : TypeId} {e : Ty} (h : elB st ty e = true) : ∃ el te, P.underlying ty = some (.slice el) ∧ lookT st.τ el = some te ∧ te.sz = e.sz ∧ te.ty = e ∧ lookT st.τ ty ≠ none := by
  unfold elB at h
  split at h
  · rename_i el sz e' ag by_ heq
    obtain ⟨d, h1, h2, h3, te, h4, h5, h6, h7⟩ := (hS.tau _ _ heq).desc
    have h5' : e' = te.ty := by simpa using h5
    have he := Ty.beq_eq h
    exact ⟨el, te, by rw [h1, h3], h4, by rw [h6, ← h5', he], by rw [← h5', he], by rw [heq]; simp⟩
  · simp at h
theorem inB_ok {i : Int} {n : Nat} (h : inB i n = true) : 0 ≤ i ∧ i < (n : Int) ∧ i.toNat < n := by
  unfold inB at h
  simp only [Bool.and_eq_true, decide_eq_true_eq] at h
  exact ⟨h.1, h.2, by omega⟩
theorem run_indexAt (hS : StOk P st) {ty : TypeId} {e : Ty} (he : elB st ty e = true) {b x n cap : Nat} {k : IntKind} {i : Int} (hi : inB i n = true) (w : World) :
    (Instr.indexAt ty (.slice (some ⟨b, x, none⟩) n cap) (.int k i)).run P w = .ok (.pointer (some ⟨b, x + i.toNat * e.sz, none⟩)) w := by
  obtain ⟨el, te, h1, h2, h3, h4, _⟩ := elB_ok hS he
  obtain ⟨i0, i1, i2⟩ := inB_ok hi
  unfold Instr.indexAt
  simp only [asIntOf, Sem.run_bind, Sem.run_pure, Result.andThen_ok, run_underlying h1, i0, i1, and_self, if_true, run_sizeOf hS h2, add_addr, h3]
theorem elem_at {w : World} {K1 : Kn} {e : Ty} {xs : List e.D} {v : Value} (h : RepC w K1 (.l e) 0 xs [v] Nil) {i : Nat} (hi : i < xs.length) :
    ∃ b x cap cs, v = .slice (some ⟨b, x, none⟩) xs.length cap ∧ RepC w K1 e 0 (xs.getD i e.dflt) cs Nil ∧ ∀ j u, cs[j]? = some u → K1 b (x + i * e.sz + j) u := by
  obtain ⟨ad, cap, h1, h2, h3, h4⟩ := h
  simp only [List.cons.injEq, and_true] at h1
  rcases h4 with h4 | ⟨b, x, cs, g1, g2, g3⟩
  · subst h4; simp at hi
  · subst g1
    have hx : xs[i]? = some (xs.getD i e.dflt) := by simp [List.getD_eq_getElem?_getD, hi]
    obtain ⟨Fn, k1, k2⟩ := Elems.get (fun x vs F h => RepC.len h) g3 hx
    rw [FP.eq_of_none (fun b hb => k2 b hb)] at k1
    refine ⟨b, x, cap, _, h1, k1, fun j u hu => ?_⟩
    rw [List.getElem?_take] at hu
    split at hu
    · rw [List.getElem?_drop] at hu
      have := g2 _ _ hu
      rwa [← Nat.add_assoc] at this
    · simp at hu
theorem elem_atR {K1 K0 : Kn} {e : Ty} {d : Nat} {xs : List e.D} {v : Value} (h : RepR K1 K0 (.l e) d xs [v]) {i : Nat} (hi : i < xs.length) :
    ∃ b x cap cs, v = .slice (some ⟨b, x, none⟩) xs.length cap ∧ RepR K1 K0 e (d - 1) (xs.getD i e.dflt) cs ∧ ∀ j u, cs[j]? = some u → (match d with | 0 => K0 | _ => K1) b (x + i * e.sz + j) u := by
  obtain ⟨ad, cap, h1, h2, h4⟩ := h
  simp only [List.cons.injEq, and_true] at h1
  rcases h4 with h4 | ⟨b, x, cs, g1, g2, g3⟩
  · subst h4; simp at hi
  · subst g1
    have hx : xs[i]? = some (xs.getD i e.dflt) := by simp [List.getD_eq_getElem?_getD, hi]
    obtain ⟨Fn, k1, k2⟩ := Elems.get (fun x vs F h => RepR.len h.1) g3 hx
    refine ⟨b, x, cap, _, h1, k1.1, fun j u hu => ?_⟩
    rw [List.getElem?_take] at hu
    split at hu
    · rw [List.getElem?_drop] at hu
      have := g2 _ _ hu
      rwa [← Nat.add_assoc] at this
    · simp at hu
theorem arrAt_ex {i : Int} {q : Loc} {ig off sz : Nat} {k : PV → M Unit} {s : St} : ∀ (n j : Nat) {t : Tr}, (arrAt i q ig off sz k n j).Ex R s () s' t →
    ∃ m, j ≤ m ∧ m < j + n ∧ i = (m : Int) ∧ ∃ t', (k (.ptr q ig (off + m * sz))).Ex R s () s' t'
  | 0, j, t, h => h.elim
  | n + 1, j, t, h => by
    rcases br_ex h with ⟨hb, h⟩ | ⟨hb, h⟩
    · exact ⟨j, Nat.le_refl _, by omega, by simpa using hb, t, h⟩
    · obtain ⟨m, h1, h2, h3⟩ := arrAt_ex n (j + 1) h
      exact ⟨m, by omega, by omega, h3⟩
theorem op_indexAddr (hS : StOk P st) {ty : TypeId} {x y : Operand} (ho : o.op = .indexAddr ty x y) (hI : InvF B st.n c a Nil) (hK : ∀ a' w', Inv B st.n s' a' w' → K a' w')
    (h : (opM st reg idx o (putM st o.dst)).Ex R c.S () s' t) : o.wp P a c.w K Q := by
  unfold opM at h
  rw [ho] at h
  dsimp only at h
  obtain ⟨p, t1, h1, hr⟩ := rb_ex hI h
  obtain ⟨j, t2, h2, hj⟩ := rb_ex hI h1
  obtain ⟨hal, t3, h3⟩ := liveM_ex h2
  unfold indexAddrM at h3
  split at h3
  · rename_i ik n
    have hjv : a.eval y = .int ik n := hj.1
    have hrun : ∀ v, (Instr.indexAt ty (a.eval x) (.int ik n)).run P c.w = .ok v c.w → (execOp a.eval o).run P c.w = .ok (.value v) c.w := by
      intro v hv
      unfold execOp; rw [ho]; exact run_v (by rw [hjv]; exact hv)
    split at h3
    · rename_i d e xs
      obtain ⟨he, h4⟩ := guardM_ex h3
      obtain ⟨hb, h5⟩ := br_fail h4
      obtain ⟨i0, i1, i2⟩ := inB_ok hb
      have hr0 : RepC c.w c.K (.l e) d xs [a.eval x] Nil := hr
      have hr' := RepC.freeze (w := c.w) (K := c.K) (K' := c.K) (fun _ _ _ h => h) hr0 (fun b o v hb => hb.elim)
      obtain ⟨b, z, cap, cs, g1, g2, g3⟩ := elem_at hr' i2
      refine val_done hK hI (F1 := Nil) (p := .kel none 0 n.toNat e (xs.getD n.toNat e.dflt) 0) (v := .pointer (some ⟨b, z + n.toNat * e.sz, none⟩)) ⟨no_none, b, z + n.toNat * e.sz, cs, rfl, g2, g3⟩ (fun _ h => h) h5 (hrun _ (by rw [g1]; exact run_indexAt hS he hb c.w))
    · rename_i e xs
      obtain ⟨he, h4⟩ := guardM_ex h3
      obtain ⟨hb, h5⟩ := br_fail h4
      obtain ⟨i0, i1, i2⟩ := inB_ok hb
      obtain ⟨b, z, cap, cs, g1, g2, g3⟩ := elem_at hr.1 i2
      refine val_done hK hI (F1 := Nil) (p := .kel none 0 n.toNat e (xs.getD n.toNat e.dflt) 0) (v := .pointer (some ⟨b, z + n.toNat * e.sz, none⟩)) ⟨no_none, b, z + n.toNat * e.sz, cs, rfl, g2, g3⟩ (fun _ h => h) h5 (hrun _ (by rw [g1]; exact run_indexAt hS he hb c.w))
    · rename_i q path ig cg d wh base e xs
      obtain ⟨he, h4⟩ := guardM_ex h3
      obtain ⟨hb, h5⟩ := br_fail h4
      obtain ⟨i0, i1, i2⟩ := inB_ok hb
      obtain ⟨g1, g2, g3, g4⟩ := hr
      obtain ⟨g5, g6, _⟩ := g4 hal.1
      obtain ⟨b, z, cap, cs, k1, k2, k3⟩ := elem_atR (g6 hal.2) i2
      refine val_done hK hI (F1 := Nil) (p := .kel (some (q, path, ig, cg)) d (base + n.toNat) e (xs.getD n.toNat e.dflt) 0) (v := .pointer (some ⟨b, z + n.toNat * e.sz, none⟩)) ⟨no_none, g2, g3, fun _ => ⟨fun hp => ?_, fun _ => ⟨b, z + n.toNat * e.sz, cs, rfl, k2, fun j u hu => ?_⟩⟩⟩ (fun _ h => h) h5 (hrun _ (by rw [k1]; exact run_indexAt hS he hb c.w))
      · obtain ⟨m1, m2⟩ := g5 hp
        rcases m2 with m2 | ⟨b2, o2, n2, cap2, cap3, m3, m4⟩
        · subst m2; simp at i2
        · rw [k1] at m4
          injection m4 with e1 e2 e3
          injection e1 with e1; injection e1 with e1 e4
          refine ⟨b2, o2, n2, cap2, m3, ?_⟩
          rw [← e1, e4, Nat.add_mul]; congr 3; omega
      · have := k3 j u hu
        cases d with
        | zero => exact .inl this
        | succ d => exact this
    · rename_i q ig off
      split at h3
      · rename_i m e sz ty' ag by_ heq
        split at h3
        · rename_i te hte
          obtain ⟨m', j1, j2, j3, t4, h4⟩ := arrAt_ex _ _ h3
          obtain ⟨g1, g2, g3⟩ := hr
          obtain ⟨b, g4, g5⟩ := g3 hal
          obtain ⟨dd, d1, d2, d3, d4, d5⟩ := (hS.tau _ _ heq).desc
          refine val_done hK hI (F1 := Nil) (p := .ptr q ig (off + m' * te.sz)) (v := .pointer (some ⟨b, off + m' * te.sz, none⟩)) ⟨no_none, g2, fun _ => ⟨b, g4, rfl⟩⟩ (fun _ h => h) h4 (hrun _ ?_)
          rw [g5]
          unfold Instr.indexAt
          have hund : P.underlying ty = some (.array m e) := by rw [d1, d3]
          have hc : 0 ≤ n ∧ n < (m : Int) := by omega
          simp only [asIntOf, Sem.run_bind, Sem.run_pure, Result.andThen_ok, run_underlying hund, Instr.sureAddr, hc, and_self, if_true, run_sizeOf hS hte, add_addr]
          rw [show n.toNat = m' by omega]
        · exact h3.elim
      · exact h3.elim
    · exact h3.elim
  · exact h3.elim
end
end Go.VI
