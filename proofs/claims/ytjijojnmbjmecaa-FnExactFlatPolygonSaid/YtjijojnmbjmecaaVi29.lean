/-
  An interpreter of the functions of a program as plain functions of lists and numbers, part 31: what it computes is what the program does. No condition but those that its theorems name.
-/
import Derived.Test.YtjijojnmbjmecaaVi28
set_option linter.unusedVariables false
set_option linter.constructorNameAsVariable false
namespace Go.VI
section
variable {P : Program} {R : FnRel} {L : LpRel} {st : Sta} {B : Base} {a : Act}
theorem gone_eq (s : St) (l : Loc) : s.gone l = s.wr l .undef := rfl
def resM (tmps : Array Value) : ResultVar → Sem Value
  | .tmp t => pure (tmps.getD t undef)
  | .cell a t => do loadVar t (← asAddr (tmps.getD a undef))
theorem res_ok (hS : StOk P st) : ∀ (rs : List ResultVar) {c : Cx} {F0 : FP} {l : List PV}, InvF B st.n c a F0 → getRes st c.S rs = some l →
    ∃ c' F1 vs, c.Le c' ∧ c'.w = c.w ∧ c'.K = c.K ∧ c'.val = c.val ∧ (rs.mapM (resM a.tmps)).run P c.w = .ok vs c.w ∧ RepVs c' l vs F1 ∧ cleans l = true ∧ F0.dis F1 ∧ InvF B st.n c' a (fun b => F0 b ∨ F1 b) ∧ (∀ j, c'.S (O j) = c.S (O j)) ∧ vs.length = rs.length
  | [], c, F0, l, hI, h => by
    simp only [getRes, Option.some.injEq] at h
    subst h
    exact ⟨c, Nil, [], .refl c, rfl, rfl, rfl, rfl, ⟨rfl, no_none⟩, rfl, fun _ _ h => h, by rw [or_nil]; exact hI, fun _ => rfl, rfl⟩
  | .tmp t :: r, c, F0, l, hI, h => by
    have hv : a.tmps.getD t undef = c.val (T t) := (hI.val_t t).symm
    have hr := hI.rep (T t)
    rw [getRes] at h
    split at h
    · rename_i hc
      split at h
      · split at h
        · rename_i l' hl'
          simp only [Option.some.injEq] at h
          subst h
          have hI1 := hI.drop (T t)
          rw [gone_eq] at hl'
          obtain ⟨c2, F1, vs, g1, g2, g3, g4, g5, g6, g7, g8, g9, g10, g11⟩ := res_ok hS r hI1 hl'
          refine ⟨c2, fun b => c.Fq (T t) b ∨ F1 b, c.val (T t) :: vs, (c.drop_le _ _).trans g1, g2, g3, g4, ?_, ?_, ?_, ?_, ?_, ?_, by simp [g11]⟩
          · rw [List.mapM_cons]
            simp only [Sem.run_bind, resM, hv, Sem.run_pure, Result.andThen_ok]
            have g5' : (r.mapM (resM a.tmps)).run P c.w = .ok vs c.w := g5
            rw [g5']
            rfl
          · exact ⟨_, vs, c.Fq (T t), F1, rfl, (hr.turn (c.drop_le _ .undef) (fun _ _ => rfl)).turn g1 (fun _ _ => by rw [g2]), g6, fun b q1 q2 => g8 b (.inr q1) q2, fun _ => Iff.rfl⟩
          · simp [cleans, hc, g7]
          · rintro b q1 (q2 | q2)
            · exact hI.disF (T t) b q1 q2
            · exact g8 b (.inl q1) q2
          · have e : (fun b => F0 b ∨ c.Fq (T t) b ∨ F1 b) = (fun b => (F0 b ∨ c.Fq (T t) b) ∨ F1 b) := FP.ext fun b => or_assoc.symm
            rw [e]; exact g9
          · intro j
            rw [g10 j]
            show (c.S.wr (T t) .undef) (O j) = _
            rw [St.wr, upd_ne _ _ (Ne.symm T_ne_O)]
        · simp at h
      · rename_i ho
        split at h
        · rename_i l' hl'
          simp only [Option.some.injEq] at h
          subst h
          obtain ⟨c2, F1, vs, g1, g2, g3, g4, g5, g6, g7, g8, g9, g10, g11⟩ := res_ok hS r hI hl'
          refine ⟨c2, F1, c.val (T t) :: vs, g1, g2, g3, g4, ?_, ?_, ?_, g8, g9, g10, by simp [g11]⟩
          · rw [List.mapM_cons]
            simp only [Sem.run_bind, resM, hv, Sem.run_pure, Result.andThen_ok]
            rw [g5]
            rfl
          · exact ⟨_, vs, Nil, F1, rfl, (hr.noF (hr.noown ho)).turn g1 (fun _ h => h.elim), g6, fun b q1 q2 => q1.elim, fun b => ⟨.inr, fun h => h.elim (fun h => h.elim) id⟩⟩
          · simp [cleans, hc, g7]
        · simp at h
    · simp at h
  | .cell t ty :: r, c, F0, l, hI, h => by
    have hv : a.tmps.getD t undef = c.val (T t) := (hI.val_t t).symm
    have hr := hI.rep (T t)
    rw [getRes] at h
    split at h
    · rename_i cs ti hpv hti
      split at h
      · rename_i hc
        rw [Bool.and_eq_true, Bool.and_eq_true] at hc
        have hsz := Nat.eq_of_beq_eq_true hc.2.1
        split at h
        · rename_i l' hl'
          simp only [Option.some.injEq] at h
          subst h
          rw [hpv] at hr
          obtain ⟨b, arr, tyb, F', k1, k2, k3, k4, k5⟩ := hr
          have hI1 : InvF B st.n (c.drop (T t) .undef) a (fun b => F0 b ∨ F' b) := (hI.drop (T t)).sub (fun b' h => h.imp id (fun h => (k5 b').2 (.inr h)))
          rw [gone_eq] at hl'
          obtain ⟨c2, F1, vs, g1, g2, g3, g4, g5, g6, g7, g8, g9, g10, g11⟩ := res_ok hS r hI1 hl'
          have hlen := k3.len
          have hload := loadVar_ok (P := P) (w := c.w) (b := b) (o := 0) (hS.tau _ _ hti) arr.toList (by rw [hlen, hsz]) (fun j v hj => by
            rw [cell_of_heap k2]; simpa using hj)
          have k3' : RepVs c2 cs arr.toList F' := (k3.turn (c.drop_le (T t) .undef) (fun _ _ => rfl)).turn g1 (fun _ _ => by rw [g2])
          have fin : ∀ (p : PV) (v : Value), (loadVar ty ⟨b, 0, none⟩).run P c.w = .ok v c.w → RepV c2 p v F' → clean p = true →
              ∃ c' F1 vs, c.Le c' ∧ c'.w = c.w ∧ c'.K = c.K ∧ c'.val = c.val ∧ ((ResultVar.cell t ty :: r).mapM (resM a.tmps)).run P c.w = .ok vs c.w ∧ RepVs c' (p :: l') vs F1 ∧ cleans (p :: l') = true ∧ F0.dis F1 ∧ InvF B st.n c' a (fun b => F0 b ∨ F1 b) ∧ (∀ j, c'.S (O j) = c.S (O j)) ∧ vs.length = (ResultVar.cell t ty :: r).length := by
            intro p v hrun hrep hcl
            refine ⟨c2, fun b => F' b ∨ F1 b, v :: vs, (c.drop_le _ _).trans g1, g2, g3, g4, ?_, ?_, ?_, ?_, ?_, ?_, by simp [g11]⟩
            · rw [List.mapM_cons]
              simp only [Sem.run_bind, resM, hv, k1, asAddr, Sem.run_pure, Result.andThen_ok, hrun]
              have g5' : (r.mapM (resM a.tmps)).run P c.w = .ok vs c.w := g5
              rw [g5']
              rfl
            · exact ⟨_, vs, F', F1, rfl, hrep, g6, fun b q1 q2 => g8 b (.inr q1) q2, fun _ => Iff.rfl⟩
            · simp [cleans, hcl, g7]
            · rintro b q1 (q2 | q2)
              · exact hI.disF (T t) b q1 ((k5 b).2 (.inr q2))
              · exact g8 b (.inl q1) q2
            · have e : (fun b => F0 b ∨ F' b ∨ F1 b) = (fun b => (F0 b ∨ F' b) ∨ F1 b) := FP.ext fun b => or_assoc.symm
              rw [e]; exact g9
            · intro j
              rw [g10 j]
              show (c.S.wr (T t) .undef) (O j) = _
              rw [St.wr, upd_ne _ _ (Ne.symm T_ne_O)]
          cases hag : ti.agg with
          | true =>
            rw [hag] at hload
            exact fin (.agg cs) _ hload ⟨_, rfl, by simpa using k3'⟩ (by simpa [clean] using hc.1)
          | false =>
            have h1s := one_ok hS hti hag
            rw [hag] at hload
            rw [h1s] at hsz
            match cs, hsz, hc, k3', hlen with
            | [p], _, hc, ⟨v, vs', Fa, Fb, e, m1, m2, m3, m4⟩, hlen =>
              have e2 : vs' = [] := m2.1
              rw [e, e2] at hload
              have hF : F' = Fa := FP.ext fun b => ⟨fun h => ((m4 b).1 h).elim id (fun h => (m2.2 b h).elim), fun h => (m4 b).2 (.inl h)⟩
              rw [← hF] at m1
              exact fin p v hload m1 (by have := hc.1; simpa [cleans] using this)
        · simp at h
      · simp at h
    · simp at h
theorem outs_ok {s : St} : ∀ (n j : Nat) {o : List PV}, getOuts s j n = some o → o.length = n ∧ cleans o = true ∧ ∀ i, i < n → o.getD i .undef = (s (O (j + i))).pv
  | 0, j, o, h => by
    simp only [getOuts, Option.some.injEq] at h
    subst h
    exact ⟨rfl, rfl, fun i h => by omega⟩
  | n + 1, j, o, h => by
    rw [getOuts] at h
    split at h
    · rename_i l hc hl
      simp only [Option.some.injEq] at h
      subst h
      obtain ⟨h1, h2, h3⟩ := outs_ok n (j + 1) hl
      refine ⟨by simp [h1], by simp [cleans, hc, h2], fun i hi => ?_⟩
      cases i with
      | zero => rfl
      | succ i =>
        rw [List.getD_cons_succ, h3 i (by omega)]
        congr 3
        omega
    · simp at h
theorem getRes_clean : ∀ (rs : List ResultVar) {s : St} {l : List PV}, getRes st s rs = some l → cleans l = true
  | [], s, l, h => by
    simp only [getRes, Option.some.injEq] at h
    subst h
    rfl
  | .tmp t :: r, s, l, h => by
    rw [getRes] at h
    split at h
    · rename_i hc
      split at h
      · split at h
        · rename_i l' hl'
          simp only [Option.some.injEq] at h
          subst h
          simp [cleans, hc, getRes_clean r hl']
        · simp at h
      · split at h
        · rename_i l' hl'
          simp only [Option.some.injEq] at h
          subst h
          simp [cleans, hc, getRes_clean r hl']
        · simp at h
    · simp at h
  | .cell t ty :: r, s, l, h => by
    rw [getRes] at h
    split at h
    · rename_i cs ti hpv hti
      split at h
      · rename_i hc
        rw [Bool.and_eq_true, Bool.and_eq_true] at hc
        split at h
        · rename_i l' hl'
          simp only [Option.some.injEq] at h
          subst h
          have := getRes_clean r hl'
          cases hag : ti.agg with
          | true => simp [cleans, clean, hc.1, this]
          | false =>
            match cs, hc with
            | [], hc => simp at hc
            | p :: ps, hc =>
              have h1 := hc.1
              simp only [cleans, Bool.and_eq_true] at h1
              simp [cleans, h1.1, this]
        · simp at h
      · simp at h
    · simp at h
/-- One call keeps to what is told. -/
def Meets (P : Program) (f : FuncId) (as_ os : List PV) (r : PV) (os' : List PV) : Prop := clean r = true ∧ cleans os' = true ∧
  ∀ (c : Cx) (vs : Array Value), c.S = S0 as_ os → Entry c → vs.size = as_.length → (∀ k, c.val (T k) = vs.getD k undef) →
    CallRes P f vs c.w (fun v w' => ∃ c' Fr, c'.w = w' ∧ Left c os.length os' r v c' Fr)
theorem call_enter {f : FuncId} {fn : Func} {code : Code} (hf : P.funcs[f]? = some fn) (hname : (fn.name == "runtime.NumGoroutine") = false) (hb : fn.body = some code) (vs : Array Value) (w : World) :
    (callFunc f vs).run P w = .ok (.enter f vs) w := by
  unfold callFunc
  simp only [Sem.run_bind, run_program, Result.andThen_ok, hf, hname, hb, Bool.false_eq_true, if_false, Option.isNone_some, Sem.run_pure]
theorem fn_meets {ρ : Type} {φ : Phi ρ} (hS : StOk P st) (hR : FnOk P R) (hφ : PhiOk φ R L) {f : FuncId} {fn : Func} {code : Code} (hL : ∀ B, ∀ b ∈ loopsOf code, LoopOk P st B L b)
    (hf : P.funcs[f]? = some fn) (hname : (fn.name == "runtime.NumGoroutine") = false) (hb : fn.body = some code) (hn : fn.ntmps = st.n) {as_ os : List PV} (has : as_.length ≤ st.n) {K : PV → List PV → Option ρ} {x : ρ}
    (hd : denFn φ st fn as_ os K = some x) : ∃ r os', Meets P f as_ os r os' ∧ K r os' = some x := by
  unfold denFn at hd
  rw [hb] at hd
  dsimp only at hd
  have hden := den_ok hS hR hφ code hL _ _ _ hd
  -- what the slots come to
  have key : ∀ (e : X) (s' : St), (match e with
      | .exit _ => none
      | _ => match getRes st s' fn.results.toList, getOuts s' 0 os.length with
        | some [v], some o => K v o
        | some l, some o => K (.tup l) o
        | _, _ => none) = some x → (e = .normal ∨ e = .ret) ∧ ∃ l os' r, getRes st s' fn.results.toList = some l ∧ getOuts s' 0 os.length = some os' ∧ ((∃ v, l = [v] ∧ r = v) ∨ ((∀ v, l ≠ [v]) ∧ r = .tup l)) ∧ K r os' = some x := by
    intro e s' h
    have inner : (match getRes st s' fn.results.toList, getOuts s' 0 os.length with
        | some [v], some o => K v o
        | some l, some o => K (.tup l) o
        | _, _ => none) = some x → ∃ l os' r, getRes st s' fn.results.toList = some l ∧ getOuts s' 0 os.length = some os' ∧ ((∃ v, l = [v] ∧ r = v) ∨ ((∀ v, l ≠ [v]) ∧ r = .tup l)) ∧ K r os' = some x := by
      intro h
      split at h
      · rename_i v o h1 h2
        exact ⟨_, _, _, h1, h2, .inl ⟨_, rfl, rfl⟩, h⟩
      · rename_i l o hne h1 h2
        exact ⟨_, _, _, h1, h2, .inr ⟨fun v e => hne v (by rw [e]), rfl⟩, h⟩
      · simp at h
    cases e with
    | normal => exact ⟨.inl rfl, inner h⟩
    | ret => exact ⟨.inr rfl, inner h⟩
    | exit i => simp at h
  have clean_r : ∀ {l : List PV} {r : PV}, cleans l = true → ((∃ v, l = [v] ∧ r = v) ∨ ((∀ v, l ≠ [v]) ∧ r = .tup l)) → clean r = true := by
    rintro l r hl (⟨v, rfl, rfl⟩ | ⟨_, rfl⟩)
    · simpa [cleans] using hl
    · simpa [clean] using hl
  obtain ⟨e, s', he, hcode⟩ := hden
  obtain ⟨hx, l, os', r, hl, ho, hrl, hK⟩ := key e s' he
  obtain ⟨q1, q2, q3⟩ := outs_ok _ _ ho
  refine ⟨r, os', ⟨clean_r (getRes_clean _ hl) hrl, q2, fun c vs hcS hE hvs hval => ?_⟩, hK⟩
  unfold CallRes
  rw [call_enter hf hname hb]
  dsimp only
  refine calls_of_wp hf hb ?_
  let B : Base := { w0 := c.w, A := fun b => ∃ l, c.Fq l b, K0 := c.K, vo := fun j => c.val (O j) }
  let a0 : Act := { tmps := vs ++ Array.replicate (fn.ntmps - vs.size) undef, defers := [] }
  have hI0 : InvF B st.n c a0 Nil := {
    sz := by show (vs ++ Array.replicate (fn.ntmps - vs.size) undef).size = _; simp; omega
    val_t := by
      intro k
      rw [hval k]
      show _ = (vs ++ Array.replicate (fn.ntmps - vs.size) undef).getD k undef
      rw [Array.getD_eq_getD_getElem?, Array.getD_eq_getD_getElem?, Array.getElem?_append]
      split
      · rfl
      · rename_i hk
        rw [Array.getElem?_eq_none (by omega), Array.getElem?_replicate]
        split <;> rfl
    val_o := fun j => rfl
    rep := hE.rep
    dis := hE.dis
    disF := fun _ _ h => h.elim
    holds := hE.holds
    kdis := fun b o v hb => hb.elim (fun ⟨l, h⟩ => hE.kdis b o v l h) (fun h => h.elim)
    bound := fun b hb => hb.elim (fun ⟨l, h⟩ => hE.bound b l h) (fun h => h.elim)
    allowed := fun b hb _ => hb.elim (fun h => h) (fun h => h.elim)
    os := rfl
    tape := rfl
    output := rfl
    drawn := Nat.le_refl _
    size := Nat.le_refl _
    frame := fun _ _ _ => rfl
    K0 := fun _ _ _ h => h
    knew := fun _ _ _ h => .inl h
    defers := rfl }
  replace hcode := hcode B
  refine hcode _ a0 c.w ⟨c, hcS, rfl, hI0⟩ ?_
  rintro a' w' ⟨c1, rfl, rfl, hI1⟩
  obtain ⟨c2, F1, us, g1, g2, g3, g4, g5, g6, g7, g8, g9, g10, g11⟩ := res_ok hS fn.results.toList hI1 hl
  rw [nil_or] at g9
  have hrun : (results fn a'.tmps).run P c1.w = .ok (if us.length = 1 then us.getD 0 undef else .tuple us.toArray) c1.w := by
    unfold results
    have hm : ∀ f : ResultVar → Sem Value, f = resM a'.tmps → (fn.results.mapM f).run P c1.w = .ok us.toArray c1.w := by
      intro f hf
      subst hf
      rw [Array.mapM_eq_mapM_toList, Sem.run_map, g5]
      rfl
    rw [Sem.run_bind, hm _ (by funext x; cases x <;> rfl), Result.andThen_ok]
    rw [Sem.run_pure]
    congr 1
    simp only [List.size_toArray]
    split
    · rename_i h1
      match us, h1 with
      | [u], _ => rfl
    · rfl
  have hret : RepV c2 r (if us.length = 1 then us.getD 0 undef else .tuple us.toArray) F1 := by
    have hlen := g6.len
    rcases hrl with ⟨v, rfl, rfl⟩ | ⟨hne, rfl⟩
    · obtain ⟨u, us', Fa, Fb, e1, m1, m2, m3, m4⟩ := g6
      have e2 : us' = [] := m2.1
      subst e2 e1
      have hF : F1 = Fa := FP.ext fun b => ⟨fun h => ((m4 b).1 h).elim id (fun h => (m2.2 b h).elim), fun h => (m4 b).2 (.inl h)⟩
      rw [hF]
      exact m1
    · have h1 : ¬ us.length = 1 := by
        rw [hlen]
        intro h1
        match l, h1 with
        | [p], _ => exact hne p rfl
      rw [if_neg h1]
      exact ⟨us.toArray, rfl, by simpa using g6⟩
  have hleft : Left c os.length os' r (if us.length = 1 then us.getD 0 undef else .tuple us.toArray) c2 F1 := {
    ret := hret
    out := fun j hj => by
      have := g9.rep (O j)
      rw [g10 j] at this
      have e1 := q3 j hj
      rw [Nat.zero_add] at e1
      rw [e1]
      have e2 : c2.val (O j) = c.val (O j) := g9.val_o j
      rw [← e2]
      exact this
    rdis := fun j hj => g9.disF (O j)
    odis := fun i j hi hj hne => g9.dis (O i) (O j) (fun e => hne (by have h' : 2 * i + 1 = 2 * j + 1 := e; omega))
    holds := g9.holds
    rk := fun b o v h => g9.kdis b o v (.inr h)
    ok := fun j b o v hj h => g9.kdis b o v (.inl ⟨O j, h⟩)
    rbound := fun b h => ⟨g9.bound b (.inr h), g9.allowed b (.inr h)⟩
    obound := fun j b hj h => ⟨g9.bound b (.inl ⟨O j, h⟩), g9.allowed b (.inl ⟨O j, h⟩)⟩
    os := g9.os
    tape := g9.tape
    output := g9.output
    drawn := g9.drawn
    size := g9.size
    frame := fun b hb hn => g9.frame b hb (fun ⟨l, h⟩ => hn l h)
    K := g9.K0
    knew := g9.knew }
  have post : a'.defers = [] ∧ ∃ v, (results fn a'.tmps).run P c1.w = .ok v c1.w ∧ ∃ v', Ending.returned v = .returned v' ∧ ∃ c' Fr, c'.w = c1.w ∧ Left c os.length os' r v' c' Fr :=
    ⟨hI1.defers, _, hrun, _, rfl, c2, F1, g2, hleft⟩
  rcases hx with rfl | rfl
  · exact post
  · exact post
end
end Go.VI
