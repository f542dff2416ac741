/-
  An interpreter of the functions of a program as plain functions of lists and numbers, part 17: what it computes is what the program does. No condition but those that its theorems name.
-/
import Derived.Test.YtjijojnmbjmecaaVi16
set_option linter.unusedVariables false
set_option linter.constructorNameAsVariable false
namespace Go.VI
section
variable {P : Program} {R : FnRel} {st : Sta} {reg idx : Nat} {Q : Exit → Act → World → Prop} {B : Base} {K : Act → World → Prop} {c : Cx} {a : Act} {s' : St} {t : Tr} {o : Oper}
theorem builtin_run {cl : Call} {b : Builtin} {m : Sem Value} {w w' : World} {v : Value} (ho : o.op = .call cl) (hc : cl.callee = .builtin b)
    (hb : ∀ cs, builtin b cl.argTypes o.type cs (cl.args.map a.eval) = (do pure (.value (← m)))) (hm : m.run P w = .ok v w') : (execOp a.eval o).run P w = .ok (.value v) w' := by
  unfold execOp
  rw [ho]
  simp only [resolve, hc, Sem.run_bind, Sem.run_pure, Result.andThen_ok, invoke]
  rw [hb]
  exact run_v hm
theorem zip1 {xs : Array Operand} {ts : Array TypeId} {x : Operand} {ty : TypeId} (h : xs.toList.zip ts.toList = [(x, ty)]) : xs[0]? = some x ∧ ts[0]? = some ty := by
  obtain ⟨xs⟩ := xs
  obtain ⟨ts⟩ := ts
  cases xs with
  | nil => simp at h
  | cons x' xs => cases ts with
    | nil => simp at h
    | cons t' ts =>
      simp at h
      simp [h.1.1, h.1.2]
theorem op_len (hS : StOk P st) {cl : Call} {x : Operand} {ty : TypeId} (ho : o.op = .call cl) (hc : cl.callee = .builtin .len) (hz : cl.args.toList.zip cl.argTypes.toList = [(x, ty)]) (hI : InvF B st.n c a Nil) (hK : ∀ a' w', Inv B st.n s' a' w' → K a' w')
    (h : (builtinM st .len [(x, ty)] (putM st o.dst)).Ex R c.S () s' t) : o.wp P a c.w K Q := by
  obtain ⟨hx, hty⟩ := zip1 hz
  unfold builtinM at h
  obtain ⟨p, t1, h1, hr⟩ := rb_ex hI h
  obtain ⟨hal, t2, h2⟩ := liveM_ex h1
  have hargs : (cl.args.map a.eval)[0]? = some (a.eval x) := by simp [hx]
  have slice_case : ∀ (n cap : Nat) (ad : Option Addr) (e : Ty) (t3 : Tr), elB st ty e = true → a.eval x = .slice ad n cap → (putM st o.dst (.int .i64 (n : Int))).Ex R c.S () s' t3 → o.wp P a c.w K Q := by
    intro n cap ad e t3 he hv h3
    obtain ⟨el, te, g1, _⟩ := elB_ok hS he
    refine val_done hK hI (F1 := Nil) (p := .int .i64 (n : Int)) (v := .int .i64 (n : Int)) ⟨rfl, no_none⟩ (fun _ h => h) h3 (builtin_run ho hc (fun _ => rfl) ?_)
    unfold Builtin.len_
    simp only [hty, hargs, Sem.run_bind, run_underlying g1, Result.andThen_ok, hv]
    rfl
  split at h2
  · rename_i s
    obtain ⟨hs, h3⟩ := guardM_ex h2
    refine val_done hK hI (F1 := Nil) (p := .int .i64 (s.length : Int)) (v := .int .i64 (s.length : Int)) ⟨rfl, no_none⟩ (fun _ h => h) h3 (builtin_run ho hc (fun _ => rfl) ?_)
    have hv : a.eval x = .string ⟨s.toArray⟩ := hr.1
    unfold Builtin.len_
    simp only [hty, hargs, Sem.run_bind, run_underlying (isStr_ok hS hs), Result.andThen_ok, hv]
    show Result.ok (goInt ((s.toArray.size : Nat) : Int)) c.w = _
    simp [goInt]
  · rename_i d e xs
    obtain ⟨he, h3⟩ := guardM_ex h2
    obtain ⟨ad, cap, e1, e2⟩ := RepC.slice (show RepC c.w c.K (.l e) d xs [a.eval x] Nil from hr)
    exact slice_case _ _ _ e _ he e1 h3
  · rename_i e xs
    obtain ⟨he, h3⟩ := guardM_ex h2
    obtain ⟨ad, cap, e1, e2⟩ := RepC.slice hr.1
    exact slice_case _ _ _ e _ he e1 h3
  · rename_i q path ig cg d wh base e xs
    obtain ⟨he, h3⟩ := guardM_ex h2
    obtain ⟨ad, cap, e1, e2⟩ := ((hr.2.2.2 hal.1).2.1 hal.2).slice
    exact slice_case _ _ _ e _ he e1 h3
  · exact h2.elim
theorem zeroCells_ok (hS : StOk P st) {ty : TypeId} {cs : List PV} (h : zeroCells st.τ ty = some cs) : ∃ z, (∀ w, (zeroValue ty).run P w = .ok z w) ∧ ∀ c, RepVs c cs z.cells.toList Nil := by
  have base : ∀ (e : Ty) (c : Cx), RepVs c (e.cells 1000 e.dflt) e.zeroVals Nil := fun e c => RepC.cells (Ty.dflt_rep c.w c.K e 1000)
  have rep : ∀ (n : Nat) (e : Ty) (c : Cx), RepVs c (List.flatten (List.replicate n (e.cells 1000 e.dflt))) (List.flatten (List.replicate n e.zeroVals)) Nil := by
    intro n e c
    induction n with
    | zero => exact ⟨rfl, no_none⟩
    | succ n ih =>
      rw [List.replicate_succ, List.replicate_succ, List.flatten_cons, List.flatten_cons]
      have := (base e c).append ih (fun _ h => h.elim)
      rwa [nil_or] at this
  have key : ∀ ti, lookT st.τ ty = some ti → ∃ z, (∀ w, (zeroValue ty).run P w = .ok z w) ∧ zvals st.τ ty = some z.cells.toList := by
    intro ti hti
    obtain ⟨i, h1, h2, h3, z, h4, h5⟩ := (hS.tau _ _ hti).info
    exact ⟨z, fun w => by simp [zeroValue, typeInfo, run_program, h1, h4], h5⟩
  unfold zeroCells at h
  split at h
  · rename_i n e sz ty' ag by_ heq
    obtain ⟨z, h1, h2⟩ := key _ heq
    split at h
    · rename_i te hte
      refine ⟨z, h1, fun c => ?_⟩
      unfold zvals at h2
      rw [heq] at h2
      simp only [hte, Option.some.injEq] at h2
      simp only [Option.some.injEq] at h
      rw [← h2, ← h]
      exact rep n te.ty c
    · simp at h
  · rename_i ti hne heq
    obtain ⟨z, h1, h2⟩ := key _ heq
    refine ⟨z, h1, fun c => ?_⟩
    have : zvals st.τ ty = some ti.ty.zeroVals := by
      unfold zvals
      rw [heq]
      split
      · rename_i h; simp only [Option.some.injEq] at h; exact (hne _ _ _ _ _ _ (by rw [h])).elim
      · rename_i h; simp only [Option.some.injEq] at h; rw [h]
      · rename_i h; simp at h
    rw [this] at h2
    simp only [Option.some.injEq] at h2 h
    rw [← h2, ← h]
    exact base ti.ty c
  · simp at h
theorem op_alloc (hS : StOk P st) {ty : TypeId} (ho : o.op = .alloc ty) (hI : InvF B st.n c a Nil) (hK : ∀ a' w', Inv B st.n s' a' w' → K a' w')
    (h : (opM st reg idx o (putM st o.dst)).Ex R c.S () s' t) : o.wp P a c.w K Q := by
  unfold opM at h
  rw [ho] at h
  dsimp only at h
  split at h
  · rename_i cs hcs
    obtain ⟨z, hz, hrep⟩ := zeroCells_ok hS hcs
    have hb := box_ok hI (hrep c) (fun _ h => h) ty
    refine val_done hK (hI.alloc z.cells.toList.toArray ty) (F1 := fun b => b = c.w.heap.size ∨ Nil b) (p := .box cs) hb (fun b h => h.elim .inr .inl) h ?_
    unfold execOp
    rw [ho]
    refine run_v ?_
    unfold Instr.alloc
    rw [Sem.run_bind, hz, Result.andThen_ok]
    simp only [newVar, Sem.run_bind, run_newRow, Result.andThen_ok, Sem.run_pure]
  · exact h.elim
theorem op_makeFunc {f : FuncId} {first caps : Array Operand} (ho : o.op = .makeFunc (.func f) first caps) (hI : InvF B st.n c a Nil) (hK : ∀ a' w', Inv B st.n s' a' w' → K a' w')
    (h : (opM st reg idx o (putM st o.dst)).Ex R c.S () s' t) : o.wp P a c.w K Q := by
  unfold opM at h
  rw [ho] at h
  dsimp only at h
  have hrbs : ∀ (l : List Operand) (k : List PV → M Unit) (t : Tr), (rbs st (l.map fun x => (x, 0)) k).Ex R c.S () s' t → ∃ ps t', (k ps).Ex R c.S () s' t' ∧ RepVs c ps (l.map a.eval) Nil := by
    intro l
    induction l with
    | nil => intro k t h; exact ⟨[], t, h, rfl, no_none⟩
    | cons x l ih =>
      intro k t h
      obtain ⟨p, t1, h1, hr⟩ := rb_ex hI h
      obtain ⟨ps, t2, h2, hr2⟩ := ih _ _ h1
      exact ⟨p :: ps, t2, h2, _, _, Nil, Nil, rfl, hr, hr2, fun _ h => h.elim, fun _ => by simp [Nil]⟩
  split at h
  · rename_i hf
    obtain ⟨ps, t1, h1, hr⟩ := hrbs _ _ _ h
    refine val_done hK hI (F1 := Nil) (p := .clo f ps) (v := .func (.func f) #[] (caps.map a.eval)) ⟨no_none, _, rfl, by simpa using hr⟩ (fun _ h => h) h1 ?_
    unfold execOp
    rw [ho]
    refine run_v ?_
    have : first = #[] := Array.toList_eq_nil_iff.1 hf
    subst this
    simp [Instr.makeFunc]
  · split at h
    · rename_i hf
      obtain ⟨ps, t1, h1, hr⟩ := hrbs _ _ _ h
      refine val_done hK hI (F1 := Nil) (p := .bnd f ps) (v := .func (.func f) (first.map a.eval) #[]) ⟨no_none, _, rfl, by simpa using hr⟩ (fun _ h => h) h1 ?_
      unfold execOp
      rw [ho]
      refine run_v ?_
      have : caps = #[] := Array.toList_eq_nil_iff.1 hf
      subst this
      simp [Instr.makeFunc]
    · exact h.elim
theorem op_extract {x : Operand} {i : Nat} (ho : o.op = .extract x i) (hI : InvF B st.n c a Nil) (hK : ∀ a' w', Inv B st.n s' a' w' → K a' w')
    (h : (opM st reg idx o (putM st o.dst)).Ex R c.S () s' t) : o.wp P a c.w K Q := by
  unfold opM at h
  rw [ho] at h
  cases x with
  | tmp n =>
    dsimp only at h
    obtain ⟨t1, rfl, h1⟩ := h
    dsimp only at h1
    split at h1
    · rename_i vs heq
      obtain ⟨hg, h2⟩ := guardM_ex h1
      have hi : i < vs.length := by simpa [Nat.blt_eq] using hg
      have hr := hI.rep (T n)
      rw [heq] at hr
      obtain ⟨us, e1, hrs⟩ := hr
      have hv : a.eval (.tmp n) = .tuple us := by rw [← e1]; exact (hI.val_t n).symm
      obtain ⟨v, Fa, Fb, n1, n2, n3, n4, n5⟩ := hrs.focus hi
      have hrun : ∀ w, (execOp a.eval o).run P w = .ok (.value v) w := by
        intro w
        unfold execOp
        rw [ho]
        refine run_v ?_
        have hv' : us[i]? = some v := by simpa using n1
        unfold Instr.extract
        rw [hv]
        simp only [hv', Sem.run_pure]
      split at h2
      · obtain ⟨t3, rfl, h4⟩ := h2
        obtain ⟨c', l1, l2, l3, l4, l5, l6⟩ := hI.recell (q := T n) (p' := .tup (vs.set i .undef)) (F1 := Fa) (F2 := Fb) (by
          intro c' hle hw
          rw [e1]
          have := (n5 .undef v Nil no_none (fun _ h => h.elim)).turn hle (fun _ _ => by rw [hw])
          rw [nil_or, List.set_getElem_self_of_getElem? n1] at this
          exact ⟨us, rfl, this⟩) n4 n3
        rw [nil_or] at l6
        exact val_done hK l6 (F1 := Fa) (p := vs.getD i .undef) (n2.turn l1 (fun _ _ => by rw [l2])) (fun _ h => h) (by rw [l4]; exact h4) (by rw [l2]; exact hrun _)
      · rename_i hown
        exact val_done hK hI (F1 := Nil) (p := vs.getD i .undef) (n2.noF (n2.noown hown)) (fun _ h => h) h2 (hrun _)
    · exact h1.elim
  | _ => exact h.elim
end
end Go.VI
