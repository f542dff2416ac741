/-
  An interpreter of the functions of a program as plain functions of lists and numbers, part 18: what it computes is what the program does. No condition but those that its theorems name.
-/
import Derived.Test.YtjijojnmbjmecaaVi17
set_option linter.unusedVariables false
set_option linter.constructorNameAsVariable false
namespace Go.VI
section
variable {P : Program} {R : FnRel} {st : Sta} {reg idx : Nat} {Q : Exit → Act → World → Prop} {B : Base} {K : Act → World → Prop} {c : Cx} {a : Act} {s' : St} {t : Tr} {o : Oper}
theorem op_field (hS : StOk P st) {ty : TypeId} {x : Operand} {f : Nat} (ho : o.op = .field ty x f) (hI : InvF B st.n c a Nil) (hK : ∀ a' w', Inv B st.n s' a' w' → K a' w')
    (h : (opM st reg idx o (putM st o.dst)).Ex R c.S () s' t) : o.wp P a c.w K Q := by
  unfold opM at h
  rw [ho] at h
  dsimp only at h
  obtain ⟨p, t1, h1, hr⟩ := rb_ex hI h
  split at h1
  · rename_i off u cs heq
    split at h1
    · rename_i tu htu
      obtain ⟨hg, h2⟩ := guardM_ex h1
      have hfit := Nat.le_of_ble_eq_true hg
      obtain ⟨us, e1, hrs⟩ := hr
      obtain ⟨fields, fld, tu', ti, k1, k2, k3, k4, k5, k6, _⟩ := fieldOf_ok hS heq
      have etu : tu' = tu := by rw [htu] at k5; injection k5 with k5; exact k5.symm
      subst etu
      have hlen := hrs.len
      have hrun : ∀ v, ((part u us off).run P c.w = .ok v c.w) → (execOp a.eval o).run P c.w = .ok (.value v) c.w := by
        intro v hv
        unfold execOp
        rw [ho]
        refine run_v ?_
        unfold Instr.field
        simp only [Sem.run_bind, run_underlying k1, Result.andThen_ok, k2, e1, asAgg, Sem.run_pure, k3, k4]
        exact hv
      have hpart : (part u us off).run P c.w = match tu'.agg with
          | true => .ok (.agg (us.extract off (off + tu'.sz))) c.w
          | false => match us[off]? with
            | some v => .ok v c.w
            | none => (stuck "part: no such cell" : Sem Value).run P c.w := by
        unfold part
        rw [Sem.run_bind, run_isAgg hS htu, Result.andThen_ok]
        cases tu'.agg with
        | true => simp only [if_true, Sem.run_bind, run_sizeOf hS htu, Result.andThen_ok, Sem.run_pure]
        | false =>
          simp only [Bool.false_eq_true, if_false]
          cases us[off]? <;> rfl
      split at h2
      · rename_i hag
        rw [hag] at hpart
        obtain ⟨F1, F2, m1, m2, m3, m4⟩ := hrs.part hfit
        refine val_done hK hI (F1 := Nil) (p := .agg (takeCells cs off tu'.sz)) ⟨us.extract off (off + tu'.sz), rfl, ?_⟩ (fun _ h => h) h2 (hrun _ hpart)
        have e : (us.extract off (off + tu'.sz)).toList = (us.toList.drop off).take tu'.sz := by
          rw [Array.toList_extract]; simp [List.extract, Nat.add_sub_cancel_left]
        rw [e]
        have : F1 = Nil := FP.ext fun b => ⟨fun h => ((m3 b).2 (.inl h)).elim, fun h => h.elim⟩
        rw [← this]; exact m1
      · rename_i hag
        rw [hag] at hpart
        obtain ⟨v, Fa, Fb, n1, n2, n3, n4, n5⟩ := hrs.focus (i := off) (by omega)
        have n1' : us[off]? = some v := by simpa using n1
        rw [n1'] at hpart
        have : Fa = Nil := FP.ext fun b => ⟨fun h => ((n4 b).2 (.inl h)).elim, fun h => h.elim⟩
        rw [this] at n2
        exact val_done hK hI (F1 := Nil) n2 (fun _ h => h) h2 (hrun _ hpart)
    · exact h1.elim
  · exact h1.elim
theorem op_index (hS : StOk P st) {ty : TypeId} {x i : Operand} (ho : o.op = .index ty x i) (hI : InvF B st.n c a Nil) (hK : ∀ a' w', Inv B st.n s' a' w' → K a' w')
    (h : (opM st reg idx o (putM st o.dst)).Ex R c.S () s' t) : o.wp P a c.w K Q := by
  unfold opM at h
  rw [ho] at h
  dsimp only at h
  obtain ⟨p, t1, h1, hr⟩ := rb_ex hI h
  obtain ⟨q, t2, h2, hr2⟩ := rb_ex hI h1
  split at h2
  · rename_i s k n
    obtain ⟨hs, h3⟩ := guardM_ex h2
    obtain ⟨hb, h4⟩ := br_fail h3
    obtain ⟨b1, b2, b3⟩ := inB_ok hb
    refine val_done hK hI (F1 := Nil) (p := .int .u8 ((s.getD n.toNat 0).toNat : Int)) (v := .int .u8 ((s.getD n.toNat 0).toNat : Int)) ⟨rfl, no_none⟩ (fun _ h => h) h4 ?_
    have hv : a.eval x = .string ⟨s.toArray⟩ := hr.1
    have hv2 : a.eval i = .int k n := hr2.1
    unfold execOp
    rw [ho]
    refine run_v ?_
    unfold Instr.index
    rw [hv, hv2]
    simp only [Sem.run_bind, asIntOf, Sem.run_pure, Result.andThen_ok, run_underlying (isStr_ok hS hs)]
    have hsz : (⟨s.toArray⟩ : ByteArray).size = s.length := by simp [ByteArray.size]
    have hget : (⟨s.toArray⟩ : ByteArray)[n.toNat]? = some (s.getD n.toNat 0) := by
      rw [getElem?_pos (⟨s.toArray⟩ : ByteArray) n.toNat (show n.toNat < (⟨s.toArray⟩ : ByteArray).size by rw [hsz]; exact b3)]
      congr 1
      show (s.toArray)[n.toNat]'_ = _
      simp [List.getD_eq_getElem?_getD, List.getElem?_eq_getElem b3]
    simp only [b1, if_true, hget]
    rfl
  · exact h2.elim
theorem op_convert (hS : StOk P st) {sT dT : TypeId} {x : Operand} (ho : o.op = .convert sT dT x) (hI : InvF B st.n c a Nil) (hK : ∀ a' w', Inv B st.n s' a' w' → K a' w')
    (h : (opM st reg idx o (putM st o.dst)).Ex R c.S () s' t) : o.wp P a c.w K Q := by
  unfold opM at h
  rw [ho] at h
  dsimp only at h
  obtain ⟨p, t1, h1, hr⟩ := rb_ex hI h
  obtain ⟨hal, t2, h2⟩ := liveM_ex h1
  split at h2
  · rename_i x1 x2 x3 si j sz ty' ag by_ k n hs hd
    obtain ⟨d, g1, _⟩ := (hS.tau _ _ hs).desc
    obtain ⟨d', g2, _, g3⟩ := (hS.tau _ _ hd).desc
    obtain ⟨g3, _⟩ := g3
    rw [g3] at g2
    have hv : a.eval x = .int k n := hr.1
    refine val_done hK hI (F1 := Nil) (p := .int j (j.wrap n)) (v := .int j (j.wrap n)) ⟨rfl, no_none⟩ (fun _ h => h) h2 ?_
    unfold execOp
    rw [ho]
    refine run_v ?_
    unfold convert
    simp only [Sem.run_bind, run_underlying g1, run_underlying g2, Result.andThen_ok, hv]
    cases d <;> rfl
  · rename_i x1 x2 x3 si sz ty' ag by_ y hs hd
    obtain ⟨d, g1, _⟩ := (hS.tau _ _ hs).desc
    obtain ⟨d', g2, _, g3⟩ := (hS.tau _ _ hd).desc
    obtain ⟨g3, _⟩ := g3
    rw [g3] at g2
    have hv : a.eval x = .string ⟨y.toArray⟩ := hr.1
    refine val_done hK hI (F1 := Nil) (p := .str y) (v := .string ⟨y.toArray⟩) ⟨rfl, no_none⟩ (fun _ h => h) h2 ?_
    unfold execOp
    rw [ho]
    refine run_v ?_
    unfold convert
    simp only [Sem.run_bind, run_underlying g1, run_underlying g2, Result.andThen_ok, hv]
    cases d <;> rfl
  · exact h2.elim
theorem rbs_ex : ∀ (l : List (Operand × TypeId)) (k : List PV → M Unit) (hI : InvF B st.n c a Nil) (t : Tr), (rbs st l k).Ex R c.S () s' t → ∃ ps t', (k ps).Ex R c.S () s' t' ∧ RepVs c ps (l.map fun x => a.eval x.1) Nil
  | [], k, hI, t, h => ⟨[], t, h, rfl, no_none⟩
  | (x, ty) :: l, k, hI, t, h => by
    obtain ⟨p, t1, h1, hr⟩ := rb_ex hI h
    obtain ⟨ps, t2, h2, hr2⟩ := rbs_ex l _ hI _ h1
    exact ⟨p :: ps, t2, h2, _, _, Nil, Nil, rfl, hr, hr2, fun _ h => h.elim, fun _ => by simp [Nil]⟩
theorem minmax_ok {mx : Bool} {w : World} : ∀ (ps : List PV) (p : PV) (v : Value) (vs : List Value) (k : PV → M Unit) (s s' : St) (t : Tr), RepV c p v Nil → RepVs c ps vs Nil → (minmax mx p ps k).Ex R s () s' t →
    ∃ q u t', (k q).Ex R s () s' t' ∧ RepV c q u Nil ∧ (vs.foldlM (match mx with | true => Builtin.max2 | false => Builtin.min2) v).run P w = .ok u w
  | [], p, v, vs, k, s, s', t, hr, hrs, h => by
    obtain ⟨rfl, _⟩ := hrs
    have h' : (k p).Ex R s () s' t := by unfold minmax at h; exact h
    exact ⟨p, v, t, h', hr, rfl⟩
  | p' :: ps, p, v, vs, k, s, s', t, hr, ⟨v', vs', Fa, Fb, e, h2, h3, h4, h5⟩, h => by
    unfold minmax at h
    split at h
    · rename_i hh; simp at hh
    · rename_i j x j' y r hh
      injection hh with hh1 hh2
      subst hh1 hh2
      obtain ⟨hj, h'⟩ := guardM_ex h
      obtain rfl := kbeq_eq hj
      have hv : v = .int j x := hr.1
      have hv' : v' = .int j y := h2.1
      have hFb : Fb = Nil := FP.ext fun b => ⟨fun h => ((h5 b).2 (.inr h)).elim, fun h => h.elim⟩
      rw [hFb] at h3
      rw [e, List.foldlM_cons, Sem.run_bind, hv, hv']
      cases mx with
      | true =>
        obtain ⟨q, u, t', g1, g2, g3⟩ := minmax_ok (mx := true) (w := w) ps (.int j (max x y)) (.int j (max x y)) vs' _ s s' t ⟨rfl, no_none⟩ h3 h'
        refine ⟨q, u, t', g1, g2, ?_⟩
        have : (Builtin.max2 (.int j x) (.int j y)).run P w = .ok (.int j (max x y)) w := by
          show Result.ok (Value.int j (if y > x then y else x)) w = _
          congr 2
          by_cases hc : y > x
          · rw [if_pos hc]; omega
          · rw [if_neg hc]; omega
        rw [this, Result.andThen_ok]
        exact g3
      | false =>
        obtain ⟨q, u, t', g1, g2, g3⟩ := minmax_ok (mx := false) (w := w) ps (.int j (min x y)) (.int j (min x y)) vs' _ s s' t ⟨rfl, no_none⟩ h3 h'
        refine ⟨q, u, t', g1, g2, ?_⟩
        have : (Builtin.min2 (.int j x) (.int j y)).run P w = .ok (.int j (min x y)) w := by
          show Result.ok (Value.int j (if y < x then y else x)) w = _
          congr 2
          by_cases hc : y < x
          · rw [if_pos hc]; omega
          · rw [if_neg hc]; omega
        rw [this, Result.andThen_ok]
        exact g3
    · exact h.elim
theorem zip_map {α : Type} {f : Operand → α} : ∀ {xs : List Operand} {ts : List TypeId} {l : List (Operand × TypeId)}, xs.zip ts = l → xs.length ≤ ts.length → l.map (fun x => f x.1) = xs.map f
  | [], ts, l, h, _ => by subst h; simp
  | x :: xs, [], l, h, hl => by simp at hl
  | x :: xs, t :: ts, l, h, hl => by
    subst h
    simp only [List.zip_cons_cons, List.map_cons, List.cons.injEq, true_and]
    exact zip_map rfl (by simpa using hl)
theorem op_minmax (mx : Bool) {cl : Call} {x : Operand} {ty : TypeId} {r : List (Operand × TypeId)} (ho : o.op = .call cl) (hc : cl.callee = .builtin (match mx with | true => .max | false => .min)) (hsz : cl.args.size = cl.argTypes.size)
    (hz : cl.args.toList.zip cl.argTypes.toList = (x, ty) :: r) (hI : InvF B st.n c a Nil) (hK : ∀ a' w', Inv B st.n s' a' w' → K a' w')
    (h : (builtinM st (match mx with | true => .max | false => .min) ((x, ty) :: r) (putM st o.dst)).Ex R c.S () s' t) : o.wp P a c.w K Q := by
  have h : (rb st.τ ty x fun v => rbs st r fun l => minmax mx v l (putM st o.dst)).Ex R c.S () s' t := by
    cases mx <;> exact h
  obtain ⟨p, t1, h1, hr⟩ := rb_ex hI h
  obtain ⟨ps, t2, h2, hrs⟩ := rbs_ex r _ hI _ h1
  obtain ⟨q, u, t3, g1, g2, g3⟩ := minmax_ok (w := c.w) ps p _ _ _ _ _ _ hr hrs h2
  have hm := zip_map (f := a.eval) hz (by simpa using Nat.le_of_eq hsz)
  refine val_done hK hI (F1 := Nil) g2 (fun _ h => h) g1 ?_
  have hargs : (cl.args.map a.eval).toList = a.eval x :: r.map (fun x => a.eval x.1) := by rw [Array.toList_map, ← hm]; rfl
  cases mx with
  | true =>
    refine builtin_run ho hc (fun _ => rfl) ?_
    unfold Builtin.max_
    rw [hargs]
    exact g3
  | false =>
    refine builtin_run ho hc (fun _ => rfl) ?_
    unfold Builtin.min_
    rw [hargs]
    exact g3
end
end Go.VI
