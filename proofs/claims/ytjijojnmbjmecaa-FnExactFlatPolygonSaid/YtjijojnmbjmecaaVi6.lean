/-
  An interpreter of the functions of a program as plain functions of lists and numbers, part 6: what it computes is what the program does. No condition but those that its theorems name.
-/
import Derived.Test.YtjijojnmbjmecaaVi5
import Derived.Laws.Sem
import Derived.Laws.StructEq
set_option linter.unusedVariables false
set_option linter.constructorNameAsVariable false
namespace Go.VI
/-! ### what is asked of the types -/
def Ty.zeroVals : Ty → List Value
  | .i k => [.int k 0] | .b => [.bool false] | .s => [.string .empty] | .p x y => x.zeroVals ++ y.zeroVals | .l _ => [.slice none 0 0]
def zvals (τ : List (TypeId × TI)) (t : TypeId) : Option (List Value) :=
  match lookT τ t with
  | some { kind := .array n e, .. } => match lookT τ e with
    | some te => some (List.flatten (List.replicate n te.ty.zeroVals))
    | none => none
  | some ti => some ti.ty.zeroVals
  | none => none
structure TIok (P : Program) (τ : List (TypeId × TI)) (t : TypeId) (ti : TI) : Prop where
  info : ∃ i, P.info? t = some i ∧ i.size = ti.sz ∧ i.bytes ≤ 128 ∧ ∃ z, i.zero = some z ∧ zvals τ t = some z.cells.toList
  desc : ∃ d, P.underlying t = some d ∧ ti.agg = (match d with | .struct _ => true | .array _ _ => true | _ => false) ∧
    match ti.kind with
    | .int k => d = .int k ∧ ti.ty = .i k
    | .bool => d = .bool ∧ ti.ty = .b
    | .str => d = .string ∧ ti.ty = .s
    | .slice e => d = .slice e ∧ ∃ te, lookT τ e = some te ∧ ti.ty = .l te.ty ∧ te.sz = te.ty.sz ∧ te.agg = (match te.ty with | .p _ _ => true | _ => false) ∧ zvals τ e = some te.ty.zeroVals
    | .struct fs => ∃ fields, d = .struct fields ∧ fields.toList.map (fun f => (f.offset, f.type)) = fs ∧ ∀ x ∈ fs, ∃ tu, lookT τ x.2 = some tu ∧ 1 ≤ tu.sz ∧ x.1 + tu.sz ≤ ti.sz
    | .array n e => d = .array n e ∧ 2 ≤ n ∧ ∃ te, lookT τ e = some te ∧ te.sz = te.ty.sz ∧ ti.sz = n * te.sz ∧ 1 ≤ te.sz
    | .other => False
  size : (∃ n e, ti.kind = .array n e) ∨ ti.sz = ti.ty.sz
def TauOk (P : Program) (τ : List (TypeId × TI)) : Prop := ∀ t ti, lookT τ t = some ti → TIok P τ t ti
/-! ### an operation's end -/
theorem InvF.sub {B : Base} {n : Nat} {c : Cx} {a : Act} {F F' : FP} (hI : InvF B n c a F) (h : ∀ b, F' b → F b) : InvF B n c a F' := by
  have ho : ∀ b, Owned c F' b → Owned c F b := fun b hb => hb.imp id (h b)
  exact { hI with disF := fun l b hb => hI.disF l b (h b hb), kdis := fun b o v hb => hI.kdis b o v (ho b hb), bound := fun b hb => hI.bound b (ho b hb), allowed := fun b hb => hI.allowed b (ho b hb) }
/-- A slot gets a value. -/
def Cx.put (c : Cx) (l : Loc) (p : PV) (v : Value) (F : FP) : Cx :=
  { c with S := c.S.wr l p, val := fun l' => bif Nat.beq l' l then v else c.val l', Fq := fun l' b => (l' = l ∧ F b) ∨ (l' ≠ l ∧ c.Fq l' b) }
theorem beq_ne {a b : Nat} (h : a ≠ b) : Nat.beq a b = false := by
  rw [Bool.eq_false_iff]; intro e; exact h (Nat.eq_of_beq_eq_true e)
theorem Cx.put_le (c : Cx) (l : Loc) (p : PV) (v : Value) (F : FP) : c.Le (c.put l p v F) := by
  refine ⟨fun _ _ _ h => h, fun q => ?_⟩
  by_cases hq : q = l
  · subst hq
    simp only [Cx.put, St.wr, upd_same]
    exact ⟨⟨by omega, by omega⟩, fun h => by omega⟩
  · simp only [Cx.put, St.wr, upd_ne _ _ hq, beq_ne hq]
    exact ⟨⟨Nat.le_refl _, Nat.le_refl _⟩, fun _ => ⟨rfl, fun _ b o v h1 h2 => .inr ⟨.inr ⟨hq, h1⟩, h2⟩⟩⟩
theorem T_inj {a b : Nat} (h : T a = T b) : a = b := by have h' : 2 * a = 2 * b := h; omega
theorem T_ne_O {a b : Nat} : T a ≠ O b := by intro h; have h' : 2 * a = 2 * b + 1 := h; omega
theorem InvF.put {B : Base} {n : Nat} {c : Cx} {a : Act} {F F1 : FP} (hI : InvF B n c a F) {d : Nat} (hd : d < n) {p : PV} {v : Value} (hr : RepV c p v F1) (hF : ∀ b, F1 b → F b) :
    InvF B n (c.put (T d) p v F1) (a.put (some d) v) (fun _ => False) := by
  have ho : ∀ b, Owned (c.put (T d) p v F1) (fun _ => False) b → Owned c F b := by
    rintro b (⟨l', ⟨_, h⟩ | ⟨_, h⟩⟩ | h)
    · exact .inr (hF b h)
    · exact .inl ⟨l', h⟩
    · exact h.elim
  refine { hI with sz := ?_, val_t := fun k => ?_, val_o := fun j => ?_, rep := fun l => ?_, dis := fun l1 l2 hne b h1 h2 => ?_, disF := fun l b h => h.elim, kdis := fun b o v hb => hI.kdis b o v (ho b hb), bound := fun b hb => hI.bound b (ho b hb), allowed := fun b hb => hI.allowed b (ho b hb), defers := hI.defers }
  · simp [Act.put, hI.sz]
  · have hdl : d < a.tmps.size := by rw [hI.sz]; exact hd
    by_cases hk : k = d
    · subst hk
      simp [Cx.put, Act.put, Array.getD_eq_getD_getElem?, hdl]
    · have : T k ≠ T d := fun e => hk (T_inj e)
      have hkd : d ≠ k := fun e => hk e.symm
      simp only [Cx.put, beq_ne this, cond_false, hI.val_t k, Act.put]
      rw [Array.getD_eq_getD_getElem?, Array.getD_eq_getD_getElem?, Array.getElem?_setIfInBounds_ne hkd]
  · simp only [Cx.put, beq_ne (fun e => T_ne_O e.symm : O j ≠ T d), cond_false]
    exact hI.val_o j
  · by_cases hl : l = T d
    · subst hl
      have e : (c.put (T d) p v F1).Fq (T d) = F1 := FP.ext fun b => ⟨fun h => h.elim (fun h => h.2) (fun h => (h.1 rfl).elim), fun h => .inl ⟨rfl, h⟩⟩
      rw [e]
      have hv : (c.put (T d) p v F1).val (T d) = v := by simp [Cx.put, Nat.beq_refl]
      have hp : ((c.put (T d) p v F1).S (T d)).pv = p := by simp [Cx.put, St.wr, upd_same]
      rw [hv, hp]
      exact hr.turn (c.put_le _ _ _ _) (fun _ _ => rfl)
    · have e : (c.put (T d) p v F1).Fq l = c.Fq l := FP.ext fun b => ⟨fun h => h.elim (fun h => (hl h.1).elim) (fun h => h.2), fun h => .inr ⟨hl, h⟩⟩
      rw [e]
      have hv : (c.put (T d) p v F1).val l = c.val l := by simp [Cx.put, beq_ne hl]
      have hp : ((c.put (T d) p v F1).S l).pv = (c.S l).pv := by simp [Cx.put, St.wr, upd_ne _ _ hl]
      rw [hv, hp]
      exact (hI.rep l).turn (c.put_le _ _ _ _) (fun _ _ => rfl)
  · rcases h1 with ⟨e1, h1⟩ | ⟨e1, h1⟩ <;> rcases h2 with ⟨e2, h2⟩ | ⟨e2, h2⟩
    · exact hne (e1.trans e2.symm)
    · exact hI.disF l2 b (hF b h1) h2
    · exact hI.disF l1 b (hF b h2) h1
    · exact hI.dis l1 l2 hne b h1 h2
section
variable {P : Program} {R : FnRel} {st : Sta} {reg : Nat} {Q : Exit → Act → World → Prop} {B : Base} {K : Act → World → Prop}
/-- What is left to do of an operation whose value is known. -/
theorem put_done {c : Cx} {a : Act} {F F1 : FP} {s' : St} {t : Tr} {p : PV} {v : Value} {dst : Option Tmp} (hK : ∀ a' w', Inv B st.n s' a' w' → K a' w') (hI : InvF B st.n c a F)
    (hr : RepV c p v F1) (hF : ∀ b, F1 b → F b) (h : (putM st dst p).Ex R c.S () s' t) : K (a.put dst v) c.w := by
  cases dst with
  | none =>
    obtain ⟨_, rfl, _⟩ := h
    exact hK _ _ ⟨c, rfl, rfl, hI.sub (fun _ h => h.elim)⟩
  | some d =>
    obtain ⟨hd, h1⟩ := guardM_ex h
    obtain ⟨t', ht, h2⟩ := h1
    obtain ⟨_, rfl, _⟩ := h2
    exact hK _ _ ⟨c.put (T d) p v F1, rfl, rfl, hI.put (Nat.le_of_ble_eq_true hd) hr hF⟩
theorem val_done {c : Cx} {w0 : World} {a : Act} {F F1 : FP} {s' : St} {t : Tr} {p : PV} {v : Value} {o : Oper} (hK : ∀ a' w', Inv B st.n s' a' w' → K a' w') (hI : InvF B st.n c a F)
    (hr : RepV c p v F1) (hF : ∀ b, F1 b → F b) (h : (putM st o.dst p).Ex R c.S () s' t) (hrun : (execOp a.eval o).run P w0 = .ok (.value v) c.w) : o.wp P a w0 K Q := by
  unfold Oper.wp
  rw [hrun, Oper.upon_value]
  exact put_done hK hI hr hF h
theorem skip_done {c : Cx} {w0 : World} {a : Act} {F : FP} {s' : St} {t : Tr} {o : Oper} (hK : ∀ a' w', Inv B st.n s' a' w' → K a' w') (hI : InvF B st.n c a F)
    (h : (putM st o.dst .nov).Ex R c.S () s' t) (hrun : (execOp a.eval o).run P w0 = .ok .skip c.w) : o.wp P a w0 K Q := by
  unfold Oper.wp
  rw [hrun, Oper.upon_skip]
  exact put_done (p := .nov) hK hI (F1 := fun _ => False) ⟨rfl, no_none⟩ (fun _ h => h.elim) h
/-! ### operations that only compute -/
def Flat : PV → Value → Prop
  | .int k n, v => v = .int k n
  | .bool b, v => v = .bool b
  | .str s, v => v = .string ⟨s.toArray⟩
  | _, _ => False
def Flats : List PV → List Value → Prop
  | [], vs => vs = []
  | p :: ps, vs => ∃ v vs', vs = v :: vs' ∧ Flat p v ∧ Flats ps vs'
def EqOk (P : Program) (t : TypeId) (n : Nat) : Prop := P.eqGuardType P.depth t = false ∧
  ∀ (xs ys : Array Value) (cs ds : List PV) (b : Bool) (w : World), cellsEq cs ds = some b → cs.length = n → Flats cs xs.toList → Flats ds ys.toList → (Op.equal t (.agg xs) (.agg ys)).run P w = .ok b w
structure StOk (P : Program) (st : Sta) : Prop where
  tau : TauOk P st.τ
  eqs : ∀ t n, memE t n st.eqs = true → EqOk P t n
  mixed : P.follows .mixedOrders = true
theorem cellEq_flat {a b : PV} {r : Bool} (h : cellEq a b = some r) {c : Cx} {x y : Value} {F G : FP} (hx : RepV c a x F) (hy : RepV c b y G) : Flat a x ∧ Flat b y := by
  cases a <;> cases b <;> simp only [cellEq] at h <;> first | (simp at h; done) | exact ⟨hx.1, hy.1⟩
theorem cellsEq_flat {c : Cx} : ∀ {cs ds : List PV} {r : Bool} {xs ys : List Value} {F G : FP}, cellsEq cs ds = some r → RepVs c cs xs F → RepVs c ds ys G → Flats cs xs ∧ Flats ds ys
  | [], [], r, xs, ys, F, G, h, hx, hy => ⟨hx.1, hy.1⟩
  | [], _ :: _, r, xs, ys, F, G, h, hx, hy => by simp [cellsEq] at h
  | _ :: _, [], r, xs, ys, F, G, h, hx, hy => by simp [cellsEq] at h
  | [a], [b], r, xs, ys, F, G, h, ⟨v, vs, Fa, Fb, h1, h2, h3, _⟩, ⟨u, us, Ga, Gb, g1, g2, g3, _⟩ => by
    have := cellEq_flat (by simpa [cellsEq] using h) h2 g2
    exact ⟨⟨v, vs, h1, this.1, h3.1⟩, ⟨u, us, g1, this.2, g3.1⟩⟩
  | a :: a2 :: r1, [b], r, xs, ys, F, G, h, hx, hy => by
    simp only [cellsEq] at h
    split at h
    · simp at *
    · simp at h
  | [a], b :: b2 :: r2, r, xs, ys, F, G, h, hx, hy => by
    simp only [cellsEq] at h
    split at h
    · simp at *
    · simp at h
  | a :: a2 :: r1, b :: b2 :: r2, r, xs, ys, F, G, h, ⟨v, vs, Fa, Fb, h1, h2, h3, _⟩, ⟨u, us, Ga, Gb, g1, g2, g3, _⟩ => by
    simp only [cellsEq] at h
    split at h
    · rename_i p q hp hq
      have k1 := cellEq_flat hp h2 g2
      have k2 := cellsEq_flat (cs := a2 :: r1) (ds := b2 :: r2) hq h3 g3
      exact ⟨⟨v, vs, h1, k1.1, k2.1⟩, ⟨u, us, g1, k1.2, k2.2⟩⟩
    · simp at h
theorem run_eq_bool {t : TypeId} {a b : Bool} {w : World} (h : P.underlying t = some .bool) : (binOp .eql t (.bool a) (.bool b)).run P w = .ok (.bool (decide (a = b))) w := by
  show (do pure (.bool (← Op.equalIn (9999 + 1) t (.bool a) (.bool b))) : Sem Value).run P w = _
  simp only [Sem.run_bind, run_equalIn_bool' _ _ _ _ _ h, Result.andThen_ok, Sem.run_pure]
  cases a <;> cases b <;> rfl
theorem run_ne_bool {t : TypeId} {a b : Bool} {w : World} (h : P.underlying t = some .bool) : (binOp .neq t (.bool a) (.bool b)).run P w = .ok (.bool (!decide (a = b))) w := by
  show (do pure (.bool (!(← Op.equalIn (9999 + 1) t (.bool a) (.bool b)))) : Sem Value).run P w = _
  simp only [Sem.run_bind, run_equalIn_bool' _ _ _ _ _ h, Result.andThen_ok, Sem.run_pure]
  cases a <;> cases b <;> rfl
theorem run_guard0 {op : BinOp} {t : TypeId} {ox oy : Operand} {x y : Value} {w : World} {m : Sem Value} (h : eqGuard op t ox oy x y = pure ()) :
    (do eqGuard op t ox oy x y; m : Sem Value).run P w = m.run P w := by rw [h]; rfl
theorem guard_int (op : BinOp) (t : TypeId) (ox oy : Operand) (j j' : IntKind) (a b : Int) : eqGuard op t ox oy (.int j a) (.int j' b) = pure () := by
  unfold eqGuard; split <;> rfl
theorem guard_str (op : BinOp) (t : TypeId) (ox oy : Operand) (a b : ByteArray) : eqGuard op t ox oy (.string a) (.string b) = pure () := by
  unfold eqGuard; split <;> rfl
theorem guard_bool (op : BinOp) (t : TypeId) (ox oy : Operand) (a b : Bool) : eqGuard op t ox oy (.bool a) (.bool b) = pure () := by
  unfold eqGuard; split <;> rfl
theorem br_ex {α : Type} {b : Bool} {m n : M α} {s : St} {x : α} {s' : St} {t : Tr} (h : (M.br b m n).Ex R s x s' t) : (b = true ∧ m.Ex R s x s' t) ∨ (b = false ∧ n.Ex R s x s' t) := h
theorem br_fail {α : Type} {b : Bool} {m : M α} {s : St} {x : α} {s' : St} {t : Tr} (h : (M.br b m .fail).Ex R s x s' t) : b = true ∧ m.Ex R s x s' t :=
  h.elim id (fun h => h.2.elim)
theorem fail_br {α : Type} {b : Bool} {m : M α} {s : St} {x : α} {s' : St} {t : Tr} (h : (M.br b .fail m).Ex R s x s' t) : b = false ∧ m.Ex R s x s' t :=
  h.elim (fun h => h.2.elim) id
theorem binInt_ok {c : Cx} {j : IntKind} {a b : Int} {op : BinOp} {xT : TypeId} {k : PV → M Unit} {s s' : St} {t : Tr} {w : World}
    (h : (binInt op j a b k).Ex R s () s' t) (h1 : op ≠ .shl) (h2 : op ≠ .shr) : ∃ r v t', (k r).Ex R s () s' t' ∧ RepV c r v (fun _ => False) ∧ (binOp op xT (.int j a) (.int j b)).run P w = .ok v w := by
  have hj : ¬ (j ≠ j) := fun h => h rfl
  cases op <;> try (exact h.elim)
  case quo =>
    obtain ⟨hb, h⟩ := fail_br h
    have hb' : b ≠ 0 := by simpa using hb
    exact ⟨_, _, t, h, ⟨rfl, no_none⟩, by simp [binOp, Op.intDiv, hb']⟩
  case rem =>
    obtain ⟨hb, h⟩ := fail_br h
    have hb' : b ≠ 0 := by simpa using hb
    exact ⟨_, _, t, h, ⟨rfl, no_none⟩, by simp [binOp, Op.intDiv, hb']⟩
  all_goals exact ⟨_, _, t, h, ⟨rfl, no_none⟩, by
    first
    | (simp only [binOp, Op.intArith, hj, if_false]; rfl)
    | (simp only [binOp, Op.intBits, iand, ior, ixor, hj, if_false]; rfl)
    | (simp only [binOp, Op.intCmp, hj, if_false, Sem.run_pure]; congr 2; first | rfl | (rw [Bool.eq_iff_iff]; simp))⟩
theorem binM_ok {c : Cx} {p q : PV} {x y : Value} {op : BinOp} {xT : TypeId} {k : PV → M Unit} {s s' : St} {t : Tr} {w : World} (hS : StOk P st) (ox oy : Operand)
    (hp : RepV c p x (fun _ => False)) (hq : RepV c q y (fun _ => False)) (h : (binM st xT op p q k).Ex R s () s' t) :
    ∃ r v t', (k r).Ex R s () s' t' ∧ RepV c r v (fun _ => False) ∧ (do eqGuard op xT ox oy x y; binOp op xT x y : Sem Value).run P w = .ok v w := by
  unfold binM at h
  split at h
  · rename_i j a j' b
    obtain ⟨rfl, _⟩ := hp
    obtain ⟨rfl, _⟩ := hq
    rw [run_guard0 (guard_int ..)]
    split at h
    · obtain ⟨hb, h⟩ := fail_br h
      have hb' : ¬ b < 0 := by simpa using hb
      exact ⟨_, _, t, h, ⟨rfl, no_none⟩, by simp only [binOp, Op.shift, hb', if_false]; rfl⟩
    · obtain ⟨hb, h⟩ := fail_br h
      have hb' : ¬ b < 0 := by simpa using hb
      exact ⟨_, _, t, h, ⟨rfl, no_none⟩, by simp only [binOp, Op.shift, hb', if_false]; rfl⟩
    · obtain ⟨hk, h3⟩ := guardM_ex h
      obtain rfl := kbeq_eq hk
      exact binInt_ok h3 (by assumption) (by assumption)
  · rename_i a b
    obtain ⟨rfl, _⟩ := hp
    obtain ⟨rfl, _⟩ := hq
    rw [run_guard0 (guard_str ..)]
    split at h
    · obtain ⟨hb, h⟩ := br_fail h
      have hb' : a.length + b.length ≤ LIM := by simpa using hb
      refine ⟨_, .string ⟨(a ++ b).toArray⟩, t, h, ⟨rfl, no_none⟩, ?_⟩
      have e : (⟨a.toArray⟩ : ByteArray) ++ ⟨b.toArray⟩ = ⟨(a ++ b).toArray⟩ := by
        apply ByteArray.ext; simp [ByteArray.data_append]
      have hsz : ¬ (((⟨a.toArray⟩ : ByteArray).size + (⟨b.toArray⟩ : ByteArray).size : Nat) : Int) > IntKind.i64.max := by
        have : IntKind.i64.max = 9223372036854775807 := by decide
        rw [this]
        show ¬ ((a.toArray.size + b.toArray.size : Nat) : Int) > _
        simp [LIM] at hb' ⊢
        omega
      simp only [binOp, Op.stringOp, hsz, if_false, e]
      rfl
    · refine ⟨_, .bool (decide (a = b)), t, h, ⟨rfl, no_none⟩, ?_⟩
      rw [binOp_string_eql, ByteArray.toList_mk, ByteArray.toList_mk, Sem.run_pure]
      congr 2; rw [Bool.eq_iff_iff]; simp
    · refine ⟨_, .bool (!decide (a = b)), t, h, ⟨rfl, no_none⟩, ?_⟩
      rw [binOp_string_neq, ByteArray.toList_mk, ByteArray.toList_mk, Sem.run_pure]
      congr 3; rw [Bool.eq_iff_iff]; simp
    · exact h.elim
  · rename_i a b
    obtain ⟨rfl, _⟩ := hp
    obtain ⟨rfl, _⟩ := hq
    obtain ⟨hb, h⟩ := guardM_ex h
    have hd : P.underlying xT = some .bool := by
      unfold isBool at hb
      split at hb
      · rename_i ti sz ty ag by_ heq
        obtain ⟨d, h1, h2, h3⟩ := (hS.tau _ _ heq).desc
        rw [h1]; exact congrArg some h3.1
      · simp at hb
    rw [run_guard0 (guard_bool ..)]
    split at h
    · exact ⟨_, _, t, h, ⟨rfl, no_none⟩, run_eq_bool hd⟩
    · exact ⟨_, _, t, h, ⟨rfl, no_none⟩, run_ne_bool hd⟩
    · exact h.elim
  · rename_i a b
    obtain ⟨xs, rfl, hx⟩ := hp
    obtain ⟨ys, rfl, hy⟩ := hq
    obtain ⟨hb, h⟩ := guardM_ex h
    obtain ⟨g1, g2⟩ := hS.eqs _ _ hb
    split at h
    · exact h.elim
    · rename_i r hr
      obtain ⟨f1, f2⟩ := cellsEq_flat hr hx hy
      have hrun := g2 xs ys a b r w hr rfl f1 f2
      have hg : ∀ op, (eqGuard op xT ox oy (.agg xs) (.agg ys)).run P w = .ok () w := by
        intro op
        have hp : (do if !(← program).eqGuardType (← program).depth xT then return
                      if ← Op.eqGuardIn Op.maxDepth xT (.agg xs) (.agg ys) then unsupported (.noEntry "binop/eql: two nil values of an interface type with methods, in a part of a struct or an array") : Sem Unit).run P w = .ok () w := by
          simp [run_program, g1]
        cases op <;> first | rfl | exact hp
      split at h
      · refine ⟨_, .bool r, t, h, ⟨rfl, no_none⟩, ?_⟩
        rw [Sem.run_bind, hg]
        show (do pure (.bool (← Op.equal xT (.agg xs) (.agg ys))) : Sem Value).run P w = _
        simp [hrun]
      · refine ⟨_, .bool (!r), t, h, ⟨rfl, no_none⟩, ?_⟩
        rw [Sem.run_bind, hg]
        show (do pure (.bool (!(← Op.equal xT (.agg xs) (.agg ys)))) : Sem Value).run P w = _
        simp [hrun]
      · exact h.elim
  · exact h.elim
end
end Go.VI
