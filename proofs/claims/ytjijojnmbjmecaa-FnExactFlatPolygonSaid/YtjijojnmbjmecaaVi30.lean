/-
  An interpreter of the functions of a program as plain functions of lists and numbers, part 32: what it computes is what the program does. No condition but those that its theorems name.
-/
import Derived.Test.YtjijojnmbjmecaaVi29
import Derived.KernelRfl
import Derived.Laws.StructEq
set_option linter.unusedVariables false
set_option linter.constructorNameAsVariable false
namespace Go.VI
/-! ### the static side, looked through by the kernel -/
def zEq1 : Value → Value → Bool
  | .int k n, .int k' n' => kbeq k k' && decide (n = n')
  | .bool a, .bool b => match a, b with | true, true => true | false, false => true | _, _ => false
  | .string a, .string b => match a.data.toList, b.data.toList with | [], [] => true | _, _ => false
  | .slice none 0 0, .slice none 0 0 => true
  | _, _ => false
def zEq : List Value → List Value → Bool
  | [], [] => true
  | a :: r, b :: q => zEq1 a b && zEq r q
  | _, _ => false
theorem zEq1_ok : ∀ {a b : Value}, zEq1 a b = true → a = b := by
  intro a b h
  unfold zEq1 at h
  split at h
  · rw [Bool.and_eq_true] at h
    rw [kbeq_eq h.1, of_decide_eq_true h.2]
  · split at h <;> simp at h <;> rfl
  · rename_i x y
    split at h
    · rename_i h1 h2
      obtain ⟨⟨x⟩⟩ := x
      obtain ⟨⟨y⟩⟩ := y
      simp at h1 h2
      rw [h1, h2]
    · simp at h
  · rfl
  · simp at h
theorem zEq_ok : ∀ {a b : List Value}, zEq a b = true → a = b
  | [], [], _ => rfl
  | a :: r, b :: q, h => by
    simp only [zEq, Bool.and_eq_true] at h
    rw [zEq1_ok h.1, zEq_ok h.2]
  | [], _ :: _, h => by simp [zEq] at h
  | _ :: _, [], h => by simp [zEq] at h
def oEq (a : Option (List Value)) (b : List Value) : Bool := match a with
  | some a => zEq a b
  | none => false
def isP : Ty → Bool
  | .p _ _ => true | _ => false
def bEq (a b : Bool) : Bool := match a, b with | true, true => true | false, false => true | _, _ => false
theorem bEq_ok {a b : Bool} (h : bEq a b = true) : a = b := by cases a <;> cases b <;> simp [bEq] at h <;> rfl
def fsEq : List Field → List (Nat × TypeId) → Bool
  | [], [] => true
  | f :: r, (o, t) :: q => Nat.beq f.offset o && (Nat.beq f.type t && fsEq r q)
  | _, _ => false
theorem fsEq_ok : ∀ {a : List Field} {b : List (Nat × TypeId)}, fsEq a b = true → a.map (fun f => (f.offset, f.type)) = b
  | [], [], _ => rfl
  | f :: r, (o, t) :: q, h => by
    simp only [fsEq, Bool.and_eq_true] at h
    rw [List.map_cons, fsEq_ok h.2.2, Nat.eq_of_beq_eq_true h.1, Nat.eq_of_beq_eq_true h.2.1]
  | [], _ :: _, h => by simp [fsEq] at h
  | _ :: _, [], h => by simp [fsEq] at h
def kindB (τ : List (TypeId × TI)) (ti : TI) (d : TypeDesc) : Bool :=
  match ti.kind, d with
  | .int k, .int k' => kbeq k k' && (ti.ty.beq (.i k) && !ti.agg)
  | .bool, .bool => ti.ty.beq .b && !ti.agg
  | .str, .string => ti.ty.beq .s && !ti.agg
  | .slice e, .slice e' => !ti.agg && (Nat.beq e e' && match lookT τ e with
    | some te => ti.ty.beq (.l te.ty) && (Nat.beq te.sz te.ty.sz && (bEq te.agg (isP te.ty) && oEq (zvals τ e) te.ty.zeroVals))
    | none => false)
  | .struct fs, .struct fields => ti.agg && (fsEq fields.toList fs && fs.all fun x => match lookT τ x.2 with
    | some tu => Nat.ble 1 tu.sz && Nat.ble (x.1 + tu.sz) ti.sz
    | none => false)
  | .array n e, .array n' e' => ti.agg && (Nat.beq n n' && (Nat.beq e e' && (Nat.ble 2 n && match lookT τ e with
    | some te => Nat.beq te.sz te.ty.sz && (Nat.beq ti.sz (n * te.sz) && Nat.ble 1 te.sz)
    | none => false)))
  | _, _ => false
def isArr : TK → Bool
  | .array _ _ => true | _ => false
def tiB (P : Program) (τ : List (TypeId × TI)) (t : TypeId) (ti : TI) : Bool :=
  (match P.info? t with
  | some i => Nat.beq i.size ti.sz && (Nat.ble i.bytes 128 && match i.zero with
    | some z => oEq (zvals τ t) z.cells.toList
    | none => false)
  | none => false) && ((match P.underlying t with
  | some d => kindB τ ti d
  | none => false) && (isArr ti.kind || Nat.beq ti.sz ti.ty.sz))
def tauB (P : Program) (τ all : List (TypeId × TI)) : Bool := match τ with
  | [] => true
  | (t, ti) :: r => tiB P all t ti && tauB P r all
theorem oEq_ok {a : Option (List Value)} {b : List Value} (h : oEq a b = true) : a = some b := by
  unfold oEq at h
  split at h
  · rw [zEq_ok h]
  · simp at h
theorem tiB_ok {P : Program} {τ : List (TypeId × TI)} {t : TypeId} {ti : TI} (h : tiB P τ t ti = true) : TIok P τ t ti := by
  unfold tiB at h
  rw [Bool.and_eq_true, Bool.and_eq_true] at h
  obtain ⟨h1, h2, h3⟩ := h
  refine ⟨?_, ?_, ?_⟩
  · split at h1
    · rename_i i hi
      rw [Bool.and_eq_true, Bool.and_eq_true] at h1
      obtain ⟨k1, k2, k3⟩ := h1
      split at k3
      · rename_i z hz
        exact ⟨i, hi, Nat.eq_of_beq_eq_true k1, Nat.le_of_ble_eq_true k2, z, hz, oEq_ok k3⟩
      · simp at k3
    · simp at h1
  · split at h2
    · rename_i d hd
      refine ⟨d, hd, ?_⟩
      unfold kindB at h2
      split at h2
      · rename_i k k' hk
        simp only [Bool.and_eq_true, Bool.not_eq_true'] at h2
        rw [hk]
        exact ⟨h2.2.2, by rw [kbeq_eq h2.1], Ty.beq_eq h2.2.1⟩
      · rename_i hk
        simp only [Bool.and_eq_true, Bool.not_eq_true'] at h2
        rw [hk]
        exact ⟨h2.2, rfl, Ty.beq_eq h2.1⟩
      · rename_i hk
        simp only [Bool.and_eq_true, Bool.not_eq_true'] at h2
        rw [hk]
        exact ⟨h2.2, rfl, Ty.beq_eq h2.1⟩
      · rename_i e e' hk
        rw [Bool.and_eq_true, Bool.and_eq_true] at h2
        obtain ⟨g1, g2, g3⟩ := h2
        rw [hk]
        obtain rfl := Nat.eq_of_beq_eq_true g2
        split at g3
        · rename_i te hte
          simp only [Bool.and_eq_true] at g3
          refine ⟨by simpa using g1, rfl, te, hte, Ty.beq_eq g3.1, Nat.eq_of_beq_eq_true g3.2.1, ?_, oEq_ok g3.2.2.2⟩
          rw [bEq_ok g3.2.2.1]
          cases te.ty <;> rfl
        · simp at g3
      · rename_i fs fields hk
        rw [Bool.and_eq_true, Bool.and_eq_true] at h2
        obtain ⟨g1, g2, g3⟩ := h2
        rw [hk]
        refine ⟨g1, fields, rfl, fsEq_ok g2, fun x hx => ?_⟩
        rw [List.all_eq_true] at g3
        have := g3 x hx
        split at this
        · rename_i tu htu
          rw [Bool.and_eq_true] at this
          exact ⟨tu, htu, Nat.le_of_ble_eq_true this.1, Nat.le_of_ble_eq_true this.2⟩
        · simp at this
      · rename_i n e n' e' hk
        rw [Bool.and_eq_true, Bool.and_eq_true, Bool.and_eq_true, Bool.and_eq_true] at h2
        obtain ⟨g1, g2, g3, g4, g5⟩ := h2
        rw [hk]
        obtain rfl := Nat.eq_of_beq_eq_true g2
        obtain rfl := Nat.eq_of_beq_eq_true g3
        split at g5
        · rename_i te hte
          simp only [Bool.and_eq_true] at g5
          exact ⟨g1, rfl, Nat.le_of_ble_eq_true g4, te, hte, Nat.eq_of_beq_eq_true g5.1, Nat.eq_of_beq_eq_true g5.2.1, Nat.le_of_ble_eq_true g5.2.2⟩
        · simp at g5
      · simp at h2
    · simp at h2
  · rw [Bool.or_eq_true] at h3
    rcases h3 with h3 | h3
    · refine .inl ?_
      cases hk : ti.kind <;> rw [hk] at h3 <;> simp [isArr] at h3
      exact ⟨_, _, rfl⟩
    · exact .inr (Nat.eq_of_beq_eq_true h3)
theorem tauB_mem {P : Program} {all : List (TypeId × TI)} : ∀ {τ : List (TypeId × TI)}, tauB P τ all = true → ∀ t ti, lookT τ t = some ti → TIok P all t ti
  | [], _, t, ti, h => by simp [lookT] at h
  | (u, x) :: r, hb, t, ti, h => by
    simp only [tauB, Bool.and_eq_true] at hb
    rw [lookT] at h
    cases hu : Nat.beq u t with
    | true =>
      rw [hu] at h
      simp only [cond_true, Option.some.injEq] at h
      subst h
      obtain rfl := Nat.eq_of_beq_eq_true hu
      exact tiB_ok hb.1
    | false =>
      rw [hu] at h
      exact tauB_mem hb.2 t ti h
theorem tauB_ok {P : Program} {τ : List (TypeId × TI)} (h : tauB P τ τ = true) : TauOk P τ := tauB_mem h
def bodyOf (fn : Func) : Code := match fn.body with
  | some b => b
  | none => .skip
/-- All that is asked of a function before it is run. -/
def fnB (P : Program) (f : FuncId) (n : Nat) : Bool := match P.funcs[f]? with
  | some fn => match fn.body with
    | some _ => !(fn.name == "runtime.NumGoroutine") && Nat.beq fn.ntmps n
    | none => false
  | none => false
theorem meets_of {P : Program} {R : FnRel} {L : LpRel} {st : Sta} {ρ : Type} {φ : Phi ρ} (hS : StOk P st) (hR : FnOk P R) (hφ : PhiOk φ R L) {f : FuncId} {fn : Func} (hf : P.funcs[f]? = some fn) (hfn : fnB P f st.n = true)
    (hL : ∀ B, ∀ b ∈ loopsOf (bodyOf fn), LoopOk P st B L b) {as_ os : List PV} (has : Nat.ble as_.length st.n = true) {K : PV → List PV → Option ρ} {x : ρ}
    (hd : denFn φ st fn as_ os K = some x) : ∃ r os', Meets P f as_ os r os' ∧ K r os' = some x := by
  unfold fnB at hfn
  rw [hf] at hfn
  dsimp only at hfn
  cases hb : fn.body with
  | none => rw [hb] at hfn; simp at hfn
  | some b =>
    rw [hb] at hfn
    simp only [Bool.and_eq_true, Bool.not_eq_true'] at hfn
    have e : bodyOf fn = b := by unfold bodyOf; rw [hb]
    rw [e] at hL
    exact fn_meets hS hR hφ hL hf hfn.1 hb (Nat.eq_of_beq_eq_true hfn.2) (Nat.le_of_ble_eq_true has) hd
theorem no_loops {P : Program} {L : LpRel} {st : Sta} {c : Code} (h : loopsOf c = []) : ∀ B, ∀ b ∈ loopsOf c, LoopOk P st B L b := fun B b hb => by rw [h] at hb; simp at hb
/-! ### structs of numbers, compared -/
def intsB (P : Program) : Nat → List Field → Bool
  | _, [] => true
  | n, f :: r => Nat.beq f.offset n && (!(f.name == "_") && ((match P.underlying f.type with | some (.int _) => true | _ => false) && intsB P (n + 1) r))
def eqB (P : Program) (t : TypeId) (n : Nat) : Bool := !(P.eqGuardType P.depth t) && (!(P.stoodInHeld t) && match P.underlying t with
  | some (.struct fs) => Nat.beq fs.toList.length n && intsB P 0 fs.toList
  | _ => false)
theorem Flats.get : ∀ {cs : List PV} {vs : List Value}, Flats cs vs → vs.length = cs.length
  | [], vs, h => by rw [show vs = [] from h]; rfl
  | p :: ps, vs, ⟨v, vs', e, _, h⟩ => by rw [e]; simp [h.get]
theorem eqFields_ok {P : Program} {w : World} {d : Nat} {xs ys : Array Value} : ∀ (fs : List Field) (n : Nat) (cs ds : List PV) (b : Bool), intsB P n fs = true → cs.length = fs.length → cellsEq cs ds = some b → Flats cs (xs.toList.drop n) → Flats ds (ys.toList.drop n) →
    (Op.eqFields (d + 1) xs ys fs).run P w = .ok b w
  | [], n, cs, ds, b, _, hl, h, hx, hy => by
    have : cs = [] := List.eq_nil_of_length_eq_zero hl
    subst this
    cases ds with
    | nil => simp only [cellsEq, Option.some.injEq] at h; subst h; rfl
    | cons _ _ => simp [cellsEq] at h
  | f :: fs, n, [], ds, b, _, hl, h, hx, hy => by simp at hl
  | f :: fs, n, c :: cs, [], b, _, hl, h, hx, hy => by simp [cellsEq] at h
  | f :: fs, n, c :: cs, e :: ds, b, hi, hl, h, ⟨v, vs, e1, f1, h1⟩, ⟨u, us, e2, f2, h2⟩ => by
    simp only [intsB, Bool.and_eq_true, Bool.not_eq_true', beq_eq_false_iff_ne] at hi
    obtain ⟨i1, i2, i3, i4⟩ := hi
    have hof := Nat.eq_of_beq_eq_true i1
    have hxv : xs[f.offset]? = some v := by
      have := congrArg List.head? e1
      rw [List.head?_drop] at this
      rw [hof]; simpa using this
    have hyu : ys[f.offset]? = some u := by
      have := congrArg List.head? e2
      rw [List.head?_drop] at this
      rw [hof]; simpa using this
    have hxd : xs.toList.drop (n + 1) = vs := by rw [← List.drop_drop, e1]; rfl
    have hyd : ys.toList.drop (n + 1) = us := by rw [← List.drop_drop, e2]; rfl
    have hk : ∃ k, P.underlying f.type = some (.int k) := by
      split at i3
      · rename_i k hk; exact ⟨k, hk⟩
      · simp at i3
    obtain ⟨k, hk⟩ := hk
    have hpart : ∀ (zs : Array Value) (z : Value), zs[f.offset]? = some z → (part f.type zs f.offset).run P w = .ok z w := by
      intro zs z hz
      unfold part
      have : (isAgg f.type).run P w = .ok false w := by
        simp only [isAgg, Sem.run_bind, run_underlying hk, Result.andThen_ok]; rfl
      rw [Sem.run_bind, this, Result.andThen_ok]
      simp only [Bool.false_eq_true, if_false, hz]
      rfl
    have two : ∃ r, cellEq c e = some r ∧ ((ds = [] ∧ cs = [] ∧ b = r) ∨ ∃ q, cellsEq cs ds = some q ∧ b = (r && q)) := by
      cases cs with
      | nil =>
        cases ds with
        | nil => exact ⟨b, by simpa [cellsEq] using h, .inl ⟨rfl, rfl, rfl⟩⟩
        | cons d2 ds =>
          simp only [cellsEq] at h
          split at h
          · simp at *
          · simp at h
      | cons c2 cs =>
        simp only [cellsEq] at h
        split at h
        · rename_i r q hr hq
          exact ⟨r, hr, .inr ⟨q, hq, by simpa using h.symm⟩⟩
        · simp at h
    obtain ⟨r, hr, hrest⟩ := two
    have hcell : ∃ k1 k2 x y, c = .int k1 x ∧ e = .int k2 y ∧ kbeq k1 k2 = true ∧ r = decide (x = y) := by
      unfold cellEq at hr
      split at hr
      · rename_i k1 x k2 y
        cases hb : kbeq k1 k2 with
        | true => rw [hb] at hr; exact ⟨k1, k2, x, y, rfl, rfl, hb, by simpa using hr.symm⟩
        | false => rw [hb] at hr; simp at hr
      · simp at hr
    obtain ⟨k1, k2, x, y, rfl, rfl, hkk, rfl⟩ := hcell
    obtain rfl := kbeq_eq hkk
    have hv : v = .int k1 x := f1
    have hu : u = .int k1 y := f2
    have heq := run_equalIn_int (P := P) w d f.type k1 k x y hk
    unfold Op.eqFields
    rw [if_pos i2]
    simp only [Sem.run_bind, hpart xs v hxv, hpart ys u hyu, Result.andThen_ok, hv, hu, heq]
    have hbeq : (x == y) = decide (x = y) := rfl
    rw [hbeq]
    cases hd : decide (x = y) with
    | false =>
      have hb : b = false := by
        rcases hrest with ⟨_, _, h⟩ | ⟨q, _, h⟩
        · rw [h, hd]
        · rw [h, hd]; rfl
      subst hb
      rfl
    | true =>
      rcases hrest with ⟨hds, hcs, hb⟩ | ⟨q, hq, hb⟩
      · subst hcs
        have hfs : fs = [] := List.eq_nil_of_length_eq_zero (by simpa using hl.symm)
        subst hfs
        rw [hb, hd]; rfl
      · rw [hb, hd]
        show (Op.eqFields (d + 1) xs ys fs).run P w = .ok q w
        exact eqFields_ok fs (n + 1) cs ds q i4 (by simpa using hl) hq (by rw [hxd]; exact h1) (by rw [hyd]; exact h2)
theorem eqB_ok {P : Program} {t : TypeId} {n : Nat} (h : eqB P t n = true) : EqOk P t n := by
  unfold eqB at h
  simp only [Bool.and_eq_true, Bool.not_eq_true'] at h
  obtain ⟨h1, h2, h3⟩ := h
  refine ⟨h1, fun xs ys cs ds b w hc hl hx hy => ?_⟩
  split at h3
  · rename_i fs hfs
    rw [Bool.and_eq_true] at h3
    have hn := Nat.eq_of_beq_eq_true h3.1
    have hfo : P.fieldsOf t = fs := by unfold Program.fieldsOf; rw [hfs]
    show (Op.equalIn (9998 + 1 + 1) t (.agg xs) (.agg ys)).run P w = _
    rw [run_equalIn_struct w (9998 + 1) t xs ys (by rw [hfo]; exact hfs) h2, hfo]
    exact eqFields_ok fs.toList 0 cs ds b h3.2 (by omega) hc (by simpa using hx) (by simpa using hy)
  · simp at h3
def stB (P : Program) (st : Sta) : Bool := tauB P st.τ st.τ && (st.eqs.all (fun x => eqB P x.1 x.2) && P.follows .mixedOrders)
theorem stB_ok {P : Program} {st : Sta} (h : stB P st = true) : StOk P st := by
  unfold stB at h
  rw [Bool.and_eq_true, Bool.and_eq_true] at h
  refine ⟨tauB_ok h.1, fun t n hm => ?_, h.2.2⟩
  have hall := h.2.1
  rw [List.all_eq_true] at hall
  have : ∀ l : List (Nat × Nat), memE t n l = true → (t, n) ∈ l := by
    intro l
    induction l with
    | nil => intro h; simp [memE] at h
    | cons x l ih =>
      obtain ⟨u, m⟩ := x
      intro h
      simp only [memE, Bool.or_eq_true, Bool.and_eq_true] at h
      rcases h with ⟨h1, h2⟩ | h
      · rw [Nat.eq_of_beq_eq_true h1, Nat.eq_of_beq_eq_true h2]; simp
      · exact List.mem_cons_of_mem _ (ih h)
  exact eqB_ok (hall (t, n) (this _ hm))
end Go.VI
