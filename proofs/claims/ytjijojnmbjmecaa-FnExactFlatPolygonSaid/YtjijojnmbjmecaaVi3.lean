/-
  An interpreter of the functions of a program as plain functions of lists and numbers, part 3: what it computes is what the program does. No condition but those that its theorems name.
-/
import Derived.Test.YtjijojnmbjmecaaVi2
import Derived.Orders
set_option linter.unusedVariables false
set_option linter.constructorNameAsVariable false
namespace Go.VI
/-- What a run of all operations of a region, one behind the other, has been. -/
theorem runOps_ex {ρ : Type} {φ : Phi ρ} {R : FnRel} {L : LpRel} (hφ : PhiOk φ R L) {st : Sta} {reg : Nat} {ops : List Oper} :
    ∀ (rem : List Oper) (i : Nat) (K : St → Option ρ) (s : St) (x : ρ), ops.drop i = rem → runOps φ st reg ops i rem K s = some x →
      ∃ l s', ExP R st reg ops l s s' ∧ l.map Prod.fst = List.range' i rem.length ∧ K s' = some x
  | [], i, K, s, x, _, h => ⟨[], s, rfl, rfl, h⟩
  | o :: r, i, K, s, x, hd, h => by
    obtain ⟨a, s1, t, he, hk⟩ := run_ex hφ _ _ _ _ h
    have hd' : ops.drop (i + 1) = r := by rw [← List.drop_drop, hd]; rfl
    have ho : ops[i]? = some o := by
      have := congrArg List.head? hd
      rwa [List.head?_drop] at this
    obtain ⟨l, s', hx, hm, hK⟩ := runOps_ex hφ r (i + 1) K s1 x hd' hk
    exact ⟨(i, t) :: l, s', ⟨o, s1, ho, he, hx⟩, by simp [hm, List.range'_succ], hK⟩
theorem runOpsT_ex {ρ : Type} {φ : Phi ρ} {R : FnRel} {L : LpRel} (hφ : PhiOk φ R L) {st : Sta} {reg : Nat} {ops : List Oper} :
    ∀ (rem : List Oper) (i : Nat) (ts : List Tr) (K : St → List Tr → Option ρ) (s : St) (x : ρ), ops.drop i = rem → runOpsT φ st reg ops i rem ts K s = some x →
      ∃ l s', ExP R st reg ops l s s' ∧ l.map Prod.fst = List.range' i rem.length ∧ K s' (ts ++ l.map fun p => p.2.reverse) = some x
  | [], i, ts, K, s, x, _, h => ⟨[], s, rfl, rfl, by simpa [runOpsT] using h⟩
  | o :: r, i, ts, K, s, x, hd, h => by
    obtain ⟨a, s1, t, he, hk⟩ := runT_ex hφ _ _ _ _ _ h
    have hd' : ops.drop (i + 1) = r := by rw [← List.drop_drop, hd]; rfl
    have ho : ops[i]? = some o := by
      have := congrArg List.head? hd
      rwa [List.head?_drop] at this
    obtain ⟨l, s', hx, hm, hK⟩ := runOpsT_ex hφ r (i + 1) _ K s1 x hd' hk
    exact ⟨(i, t) :: l, s', ⟨o, s1, ho, he, hx⟩, by simp [hm, List.range'_succ], by simpa using hK⟩
section
variable {P : Program} {R : FnRel} {st : Sta} {reg : Nat} {opsA : Array Oper} {Q : Exit → Act → World → Prop} {I : St → Act → World → Prop}
/-- One operation of the machine does what the small program tells. -/
def OpOk (P : Program) (R : FnRel) (st : Sta) (reg : Nat) (opsA : Array Oper) (Q : Exit → Act → World → Prop) (I : St → Act → World → Prop) : Prop :=
  ∀ i o s s' t a w (K : Act → World → Prop), opsA.toList[i]? = some o → (stepM st reg opsA.toList i o).Ex R s () s' t → I s a w → (∀ a' w', I s' a' w' → K a' w') → wpOp P opsA Q i K a w
theorem wpOps_ok (h : OpOk P R st reg opsA Q I) : ∀ (l : List (Nat × Tr)) (s s' : St) (a : Act) (w : World), ExP R st reg opsA.toList l s s' → I s a w →
    (∀ a' w', I s' a' w' → Q .normal a' w') → wpOps P opsA Q (l.map Prod.fst) a w
  | [], s, s', a, w, hx, hI, hQ => by cases hx; exact hQ _ _ hI
  | (i, t) :: l, s, s', a, w, hx, hI, hQ => by
    obtain ⟨o, s1, ho, he, hr⟩ := hx
    rw [List.map_cons, wpOps_cons]
    exact h i o s s1 t a w _ ho he hI (fun a' w' h' => wpOps_ok h l s1 s' a' w' hr h' hQ)
/-! ### any order -/
theorem maskOf_bit {acc : List Nat} {j : Nat} : ∀ {es : List Edge}, (maskOf acc es).testBit j = true →
    ∃ e ∈ es, Region.binds .any e = true ∧ (e.on = j ∨ (acc.getD e.on 0).testBit j = true)
  | [], h => by simp [maskOf] at h
  | e :: r, h => by
    unfold maskOf at h
    cases hb : Region.binds .any e with
    | false =>
      rw [hb] at h
      obtain ⟨e', he', h'⟩ := maskOf_bit (es := r) h
      exact ⟨e', List.mem_cons_of_mem _ he', h'⟩
    | true =>
      rw [hb] at h
      simp only [cond_true, Nat.testBit_or, Bool.or_eq_true] at h
      rcases h with (h | h) | h
      · refine ⟨e, by simp, hb, .inl ?_⟩
        rw [Nat.shiftLeft_eq, Nat.one_mul, Nat.testBit_two_pow] at h
        simpa using h
      · exact ⟨e, by simp, hb, .inr h⟩
      · obtain ⟨e', he', h'⟩ := maskOf_bit (es := r) h
        exact ⟨e', List.mem_cons_of_mem _ he', h'⟩
theorem masks_spec : ∀ (rem : List Oper) (acc : List Nat) (pre : List Oper), acc.length = pre.length →
    (∀ i o, pre[i]? = some o → acc.getD i 0 = maskOf acc o.after.toList ∧ ∀ e ∈ o.after.toList, Region.binds .any e = true → e.on < i) →
    backB pre.length rem = true →
    ∀ i o, (pre ++ rem)[i]? = some o → (masks acc rem).getD i 0 = maskOf (masks acc rem) o.after.toList ∧ ∀ e ∈ o.after.toList, Region.binds .any e = true → e.on < i
  | [], acc, pre, hl, hp, _, i, o, ho => by
    simp only [List.append_nil] at ho
    exact hp i o ho
  | x :: r, acc, pre, hl, hp, hb, i, o, ho => by
    simp only [backB, Bool.and_eq_true, List.all_eq_true] at hb
    have hx : ∀ e ∈ x.after.toList, Region.binds .any e = true → e.on < pre.length := by
      intro e he hbe
      have := hb.1 e he
      rw [hbe] at this
      have h3 : Nat.blt e.on pre.length = true := by simpa using this
      exact Nat.le_of_ble_eq_true h3
    have hcong : ∀ (m : Nat) (es : List Edge), (∀ e ∈ es, Region.binds .any e = true → e.on < pre.length) → maskOf (acc ++ [m]) es = maskOf acc es := by
      intro m es
      induction es with
      | nil => intro _; rfl
      | cons e es ih =>
        intro hh
        unfold maskOf
        rw [ih (fun e' h' => hh e' (List.mem_cons_of_mem _ h'))]
        cases hbe : Region.binds .any e with
        | false => rfl
        | true =>
          have : e.on < pre.length := hh e (by simp) hbe
          have : (acc ++ [m]).getD e.on 0 = acc.getD e.on 0 := by
            rw [List.getD_eq_getElem?_getD, List.getD_eq_getElem?_getD, List.getElem?_append_left (by omega)]
          rw [this]
    have := masks_spec r (acc ++ [maskOf acc x.after.toList]) (pre ++ [x]) (by simp [hl]) (by
      intro j o' ho'
      by_cases hj : j < pre.length
      · rw [List.getElem?_append_left hj] at ho'
        obtain ⟨h1, h2⟩ := hp j o' ho'
        refine ⟨?_, h2⟩
        rw [hcong _ _ (fun e he hbe => by have := h2 e he hbe; omega), ← h1, List.getD_eq_getElem?_getD, List.getD_eq_getElem?_getD, List.getElem?_append_left (by omega)]
      · have hj' : j = pre.length := by
          by_cases hk : j = pre.length
          · exact hk
          · rw [List.getElem?_eq_none (by simp; omega)] at ho'; simp at ho'
        subst hj'
        simp at ho'
        subst ho'
        refine ⟨?_, hx⟩
        rw [hcong _ _ hx, List.getD_eq_getElem?_getD, List.getElem?_append_right (by omega)]
        simp [hl]) (by simpa using hb.2) i o (by simpa using ho)
    simpa [masks] using this
/-- All that comes before a listed operation is listed. -/
def Closed (ops : List Oper) (D : Nat → Prop) : Prop := ∀ i o, D i → ops[i]? = some o → ∀ e ∈ o.after.toList, Region.binds .any e = true → D e.on
theorem masks_listed {ops : List Oper} {D : Nat → Prop} (hb : backB 0 ops = true) (hc : Closed ops D) : ∀ (n i j : Nat), i ≤ n → ∀ o, ops[i]? = some o →
    (∀ e ∈ o.after.toList, Region.binds .any e = true → D e.on) → ((masks [] ops).getD i 0).testBit j = true → D j := by
  have hs := masks_spec ops [] [] rfl (by simp) (by simpa using hb)
  simp only [List.nil_append] at hs
  intro n
  induction n with
  | zero =>
    intro i j hi o ho hd hbit
    obtain ⟨h1, h2⟩ := hs i o ho
    rw [h1] at hbit
    obtain ⟨e, he, hbe, h⟩ := maskOf_bit hbit
    have := h2 e he hbe
    omega
  | succ n ih =>
    intro i j hi o ho hd hbit
    obtain ⟨h1, h2⟩ := hs i o ho
    rw [h1] at hbit
    obtain ⟨e, he, hbe, h⟩ := maskOf_bit hbit
    have hlt := h2 e he hbe
    rcases h with rfl | h
    · exact hd e he hbe
    · have hlen : i < ops.length := by
        by_cases hh : i < ops.length
        · exact hh
        · rw [List.getElem?_eq_none (by omega)] at ho; simp at ho
      have hoe : ops[e.on]? = some ops[e.on] := List.getElem?_eq_getElem (by omega)
      exact ih e.on j (by omega) _ hoe (fun e' he' hb' => hc e.on _ (hd e he hbe) hoe e' he' hb') h
theorem rowOk_spec {m : Nat} {t : Tr} : ∀ {l : List Tr} {j : Nat}, rowOk m t j l = true → ∀ k u, l[k]? = some u → m.testBit (j + k) = true ∨ disB u t = true
  | [], j, h, k, u, hk => by simp at hk
  | x :: r, j, h, k, u, hk => by
    simp only [rowOk, Bool.and_eq_true, Bool.or_eq_true] at h
    cases k with
    | zero => simp at hk; subst hk; exact h.1
    | succ k =>
      have := rowOk_spec h.2 k u (by simpa using hk)
      rwa [show j + 1 + k = j + (k + 1) by omega] at this
theorem pairsOk_spec {ms : List Nat} : ∀ {r seen : List Tr} {i : Nat}, i = seen.length → pairsOk ms i seen r = true →
    ∀ a b t u, a < b → seen.length ≤ b → (seen ++ r)[a]? = some u → (seen ++ r)[b]? = some t → (ms.getD b 0).testBit a = true ∨ disB u t = true
  | [], seen, i, hi, h, a, b, t, u, hab, hb, ha, hbt => by
    rw [List.getElem?_eq_none (by simp; omega)] at hbt; simp at hbt
  | x :: r, seen, i, hi, h, a, b, t, u, hab, hb, ha, hbt => by
    simp only [pairsOk, Bool.and_eq_true] at h
    by_cases hbe : b = seen.length
    · subst hbe
      rw [List.getElem?_append_right (Nat.le_refl _)] at hbt
      simp at hbt
      subst hbt
      rw [List.getElem?_append_left hab] at ha
      have := rowOk_spec h.1 a u ha
      rw [hi] at this
      simpa using this
    · have := pairsOk_spec (r := r) (seen := seen ++ [x]) (i := i + 1) (by simp [hi]) h.2 a b t u hab (by simp; omega) (by simpa using ha) (by simpa using hbt)
      exact this
theorem ready_mem {md : Region.Mode} {ops : Array Oper} {listed : Array Bool} {i : Nat} : i ∈ Region.ready md ops listed ↔
    i < ops.size ∧ listed.getD i true = false ∧ ∃ o, ops[i]? = some o ∧ ∀ e ∈ o.after.toList, Region.binds md e = true → listed.getD e.on false = true := by
  unfold Region.ready
  rw [List.mem_filter, List.mem_range]
  constructor
  · rintro ⟨h1, h2⟩
    rw [Bool.and_eq_true] at h2
    refine ⟨h1, by simpa using h2.1, ops[i], Array.getElem?_eq_getElem h1, ?_⟩
    have h3 := h2.2
    rw [Array.getElem?_eq_getElem h1] at h3
    simp only [Option.map_some, Option.getD_some] at h3
    rw [Array.all_eq_true_iff_forall_mem] at h3
    intro e he hb
    have := h3 e (Array.mem_toList_iff.1 he)
    rw [hb] at this
    simpa using this
  · rintro ⟨h1, h2, o, ho, h3⟩
    refine ⟨h1, ?_⟩
    rw [Bool.and_eq_true]
    refine ⟨by simp [h2], ?_⟩
    rw [ho]
    simp only [Option.map_some, Option.getD_some]
    rw [Array.all_eq_true_iff_forall_mem]
    intro e he
    cases hb : Region.binds md e with
    | false => rfl
    | true => simpa [hb] using h3 e (Array.mem_toList_iff.2 he) hb
theorem any_ok (h : OpOk P R st reg opsA Q I) (hb : backB 0 opsA.toList = true) (all : List Tr) (hp' : pairsOk (masks [] opsA.toList) 0 [] all = true) : ∀ (fuel : Nat) (listed : Array Bool) (l : List (Nat × Tr)) (s s' : St) (a : Act) (w : World),
    l.length = fuel → listed.size = opsA.size → (∀ i, i < opsA.size → (listed.getD i true = false ↔ i ∈ l.map Prod.fst)) → (∀ p ∈ l, p.1 < opsA.size ∧ ∃ u, all[p.1]? = some u ∧ ∀ x, x ∈ u ↔ x ∈ p.2) →
    (l.map Prod.fst).Pairwise (· < ·) → Closed opsA.toList (fun i => listed.getD i false = true) → ExP R st reg opsA.toList l s s' → I s a w →
    (∀ a' w', I s' a' w' → Q .normal a' w') → wpAny P .any opsA Q fuel listed a w := by
  have hdis : ∀ {u t u' t' : Tr}, disB u t = true → (∀ x, x ∈ u ↔ x ∈ u') → (∀ x, x ∈ t ↔ x ∈ t') → Dis u' t' := by
    intro u t u' t' hd h1 h2
    have := disB_dis hd
    intro l
    have w1 : ∀ {t t' : Tr}, (∀ x, x ∈ t ↔ x ∈ t') → (Writes t' l → Writes t l) ∧ (Reads t' l → Reads t l) := fun h => ⟨fun hw => (h _).2 hw, fun ⟨b, hr⟩ => ⟨b, (h _).2 hr⟩⟩
    exact ⟨fun hw hr => (this l).1 ((w1 h1).1 hw) ((w1 h2).2 hr), fun hw hr => (this l).2 ((w1 h2).1 hw) ((w1 h1).2 hr)⟩
  intro fuel
  induction fuel with
  | zero =>
    intro listed l s s' a w hl hsz hli hpl hpw hcl hx hI hQ
    have : l = [] := List.length_eq_zero_iff.1 hl
    subst this
    cases hx
    refine ⟨?_, hQ _ _ hI⟩
    rw [List.eq_nil_iff_forall_not_mem]
    intro i hi
    obtain ⟨h1, h2, _⟩ := ready_mem.1 hi
    have := (hli i h1).1 h2
    simp at this
  | succ fuel ih =>
    intro listed l s s' a w hl hsz hli hpl hpw hcl hx hI hQ
    refine ⟨?_, ?_⟩
    · intro hr
      exfalso
      cases l with
      | nil => simp at hl
      | cons p r =>
        have hp1 := hpl p (by simp)
        have hmem : p.1 ∈ Region.ready .any opsA listed := by
          rw [ready_mem]
          refine ⟨hp1.1, (hli p.1 hp1.1).2 (by simp), opsA[p.1]'hp1.1, Array.getElem?_eq_getElem hp1.1, ?_⟩
          intro e he hbe
          have hs := masks_spec opsA.toList [] [] rfl (by simp) (by simpa using hb)
          have hlt := (hs p.1 (opsA[p.1]'hp1.1) (by simp [hp1.1])).2 e he hbe
          by_cases hh : listed.getD e.on false = true
          · exact hh
          · exfalso
            have hlt' : e.on < opsA.size := by omega
            have : listed.getD e.on true = false := by
              have hsz' : e.on < listed.size := by omega
              rw [Array.getD_eq_getD_getElem?, Array.getElem?_eq_getElem hsz'] at hh ⊢
              simpa using hh
            have hin := (hli e.on hlt').1 this
            simp only [List.map_cons, List.mem_cons] at hin
            rcases hin with hin | hin
            · omega
            · have := (List.pairwise_cons.1 hpw).1 e.on hin
              omega
        rw [hr] at hmem
        simp at hmem
    · intro i hi
      obtain ⟨h1, h2, o, ho, h3⟩ := ready_mem.1 hi
      have hin := (hli i h1).1 h2
      obtain ⟨p, hpm, hpi⟩ := List.mem_map.1 hin
      obtain ⟨pre, post, rfl⟩ := List.append_of_mem hpm
      obtain ⟨i', t⟩ := p
      simp only at hpi
      subst hpi
      have hpwL := hpw
      rw [List.map_append, List.map_cons, List.pairwise_append] at hpwL
      obtain ⟨hw1, hw2, hw3⟩ := hpwL
      have hbub := bubble pre s s' hx (by
        intro p hp
        have hlt : p.1 < i' := hw3 p.1 (List.mem_map_of_mem hp) i' (by simp)
        obtain ⟨hps, u, hu, hum⟩ := hpl p (by simp [hp])
        obtain ⟨_, v, hv, hvm⟩ := hpl (i', t) (by simp)
        rcases pairsOk_spec (seen := []) (i := 0) rfl hp' p.1 i' v u hlt (by simp) (by simpa using hu) (by simpa using hv) with hm | hm
        · exfalso
          have hD := masks_listed (D := fun i => listed.getD i false = true) hb hcl i' i' p.1 (Nat.le_refl _) o (by simpa using ho) (fun e he hbe => h3 e he hbe) hm
          have hnl := (hli p.1 hps).2 (by simp; exact .inl ⟨p.2, hp⟩)
          have hsz' : p.1 < listed.size := by omega
          rw [Array.getD_eq_getD_getElem?, Array.getElem?_eq_getElem hsz'] at hD hnl
          simp at hD hnl
          rw [hD] at hnl
          simp at hnl
        · exact hdis hm hum hvm)
      obtain ⟨o', s1, ho', he, hr⟩ := hbub
      refine h i' o' s s1 t a w _ ho' he hI (fun a' w' hI' => ?_)
      refine ih (listed.setIfInBounds i' true) (pre ++ post) s1 s' a' w' ?_ (by simp [hsz]) ?_ ?_ ?_ ?_ hr hI' hQ
      · simp at hl ⊢; omega
      · intro j hj
        rw [Array.getD_eq_getD_getElem?, Array.getElem?_setIfInBounds]
        by_cases hij : i' = j
        · subst hij
          simp only [if_true]
          rw [if_pos (by omega)]
          simp only [Option.getD_some, Bool.true_eq_false, false_iff]
          intro hmem
          simp only [List.map_append, List.mem_append] at hmem
          rcases hmem with hm | hm
          · have := hw3 i' hm i' (by simp); omega
          · have := (List.pairwise_cons.1 hw2).1 i' hm; omega
        · rw [if_neg hij, ← Array.getD_eq_getD_getElem?, hli j hj]
          simp only [List.map_append, List.map_cons, List.mem_append, List.mem_cons]
          constructor
          · rintro (h | h | h)
            · exact .inl h
            · exact absurd h.symm hij
            · exact .inr h
          · rintro (h | h)
            · exact .inl h
            · exact .inr (.inr h)
      · intro p hp
        exact hpl p (by simp at hp ⊢; rcases hp with h | h; exact .inl h; exact .inr (.inr h))
      · rw [List.map_append, List.pairwise_append]
        exact ⟨hw1, (List.pairwise_cons.1 hw2).2, fun x hx y hy => hw3 x hx y (by simp at hy ⊢; exact .inr hy)⟩
      · intro j oj hj hoj e he hbe
        have key : ∀ k, listed.getD k false = true → (listed.setIfInBounds i' true).getD k false = true := by
          intro k hk
          rw [Array.getD_eq_getD_getElem?, Array.getElem?_setIfInBounds]
          by_cases hik : i' = k
          · subst hik; simp only [if_true]; rw [if_pos (by omega)]; rfl
          · rw [if_neg hik, ← Array.getD_eq_getD_getElem?]; exact hk
        by_cases hji : i' = j
        · subst hji
          have : oj = o := by
            have h4 : opsA.toList[i']? = some o := by simpa using ho
            rw [hoj] at h4; exact Option.some.inj h4
          subst this
          exact key _ (h3 e he hbe)
        · rw [Array.getD_eq_getD_getElem?, Array.getElem?_setIfInBounds, if_neg hji, ← Array.getD_eq_getD_getElem?] at hj
          exact key _ (hcl j oj hj hoj e he hbe)
/-- A region, whatever order is drawn. -/
theorem region_ok {ρ β : Type} {I : β → St → Act → World → Prop} {φ : Phi ρ} {L : LpRel} (hφ : PhiOk φ R L) (hm : P.follows .mixedOrders = true) {draw : Bool} (h : ∀ b Q, OpOk P R st reg opsA Q (I b))
    (hdrew : ∀ b s a w, I b s a w → I b s a { w with drawn := w.drawn + 1 }) {K : X → St → Option ρ} {s : St} {x : ρ}
    (hd : den φ st (.region reg opsA draw) K s = some x) :
    ∃ s', K .normal s' = some x ∧ ∀ (b : β) (Q : Exit → Act → World → Prop) (a : Act) (w : World), I b s a w → (∀ a' w', I b s' a' w' → Q .normal a' w') → (Code.region reg opsA draw).wp P Q a w := by
  cases draw with
  | false =>
    obtain ⟨l, s', hx, hm, hk⟩ := runOps_ex hφ opsA.toList 0 _ s x rfl hd
    refine ⟨s', hk, fun b Q a w hI hQ => wp_region ?_⟩
    have := wpOps_ok (h b Q) l s s' a w hx hI hQ
    rw [hm] at this
    simpa [List.range_eq_range'] using this
  | true =>
    obtain ⟨l, s', hx, hml, hk⟩ := runOpsT_ex hφ opsA.toList 0 [] _ s x rfl hd
    simp only [List.nil_append] at hk
    cases hc : (backB 0 opsA.toList && pairsOk (masks [] opsA.toList) 0 [] (l.map fun p => p.2.reverse)) with
    | false => rw [hc] at hk; simp at hk
    | true =>
      rw [hc] at hk
      rw [Bool.and_eq_true] at hc
      have hlen : l.length = opsA.size := by
        have := congrArg List.length hml
        simpa using this
      refine ⟨s', hk, fun b Q a w hI hQ => wp_region_any hm ?_⟩
      refine any_ok (h b Q) hc.1 (l.map fun p => p.2.reverse) hc.2 opsA.size (Array.replicate opsA.size false) l s s' a _ hlen (by simp) ?_ ?_ ?_ ?_ hx (hdrew _ _ _ _ hI) hQ
      · intro i hi
        rw [hml]
        simp [Array.getD_eq_getD_getElem?, hi, List.mem_range'_1]
      · intro p hp
        obtain ⟨k, hk', hpk⟩ := List.getElem_of_mem hp
        have h1 : (l.map Prod.fst)[k]? = some p.1 := by
          rw [List.getElem?_map, List.getElem?_eq_getElem hk', hpk]; rfl
        rw [hml] at h1
        have hp1 : p.1 = k := by
          rw [List.getElem?_range' (by simpa [hlen] using hk')] at h1
          simp at h1; omega
        refine ⟨by omega, p.2.reverse, ?_, by simp⟩
        rw [hp1, List.getElem?_map, List.getElem?_eq_getElem hk', hpk]; rfl
      · rw [hml]; exact List.pairwise_lt_range'
      · intro i o hi
        rw [Array.getD_eq_getD_getElem?, Array.getElem?_replicate] at hi
        split at hi <;> simp at hi
end
end Go.VI
