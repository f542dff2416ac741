/-
  An interpreter of the functions of a program as plain functions of lists and numbers, part 25: what it computes is what the program does. No condition but those that its theorems name.
-/
import Derived.Test.YtjijojnmbjmecaaVi23
set_option linter.unusedVariables false
set_option linter.constructorNameAsVariable false
namespace Go.VI
def Owns (Fs : List FP) : FP := fun b => ∃ F ∈ Fs, F b
theorem Owns.cons (F : FP) (Fs : List FP) : Owns (F :: Fs) = fun b => F b ∨ Owns Fs b := FP.ext fun b => by simp [Owns]
theorem Owns.nil : Owns [] = Nil := FP.ext fun b => by simp [Owns, Nil]
def ArgR (c : Cx) : List (Nat × PV) → List Value → List FP → Prop
  | [], vs, Fs => vs = [] ∧ Fs = []
  | (m, p) :: l, vs, Fs => ∃ v vs' F Fs', vs = v :: vs' ∧ Fs = F :: Fs' ∧ RepV c p v F ∧ (m ≠ 1 → F.none) ∧ ArgR c l vs' Fs'
def ArgE (c : Cx) : List PV → List Value → List FP → Prop
  | [], vs, Fs => vs = [] ∧ Fs = []
  | p :: l, vs, Fs => ∃ v vs' F Fs', vs = v :: vs' ∧ Fs = F :: Fs' ∧ RepV c p v F ∧ ArgE c l vs' Fs'
theorem ArgE.get {c : Cx} : ∀ {l : List PV} {vs : List Value} {Fs : List FP}, ArgE c l vs Fs → ∀ k, RepV c (l.getD k .undef) (vs.getD k undef) (Fs.getD k Nil)
  | [], vs, Fs, ⟨h1, h2⟩, k => by subst h2; simp; exact no_none
  | p :: l, vs, Fs, ⟨v, vs', F, Fs', h1, h2, h3, h4⟩, k => by
    subst h1 h2
    cases k with
    | zero => exact h3
    | succ k => simpa using h4.get k
theorem ArgE.len {c : Cx} : ∀ {l : List PV} {vs : List Value} {Fs : List FP}, ArgE c l vs Fs → vs.length = l.length ∧ Fs.length = l.length
  | [], vs, Fs, ⟨h1, h2⟩ => by simp [h1, h2]
  | p :: l, vs, Fs, ⟨v, vs', F, Fs', h1, h2, h3, h4⟩ => by simp [h1, h2, h4.len]
theorem ArgE.append {c : Cx} : ∀ {l m : List PV} {vs us : List Value} {Fs Gs : List FP}, ArgE c l vs Fs → ArgE c m us Gs → ArgE c (l ++ m) (vs ++ us) (Fs ++ Gs)
  | [], m, vs, us, Fs, Gs, ⟨h1, h2⟩, h => by subst h1 h2; exact h
  | p :: l, m, vs, us, Fs, Gs, ⟨v, vs', F, Fs', h1, h2, h3, h4⟩, h => by
    subst h1 h2
    exact ⟨v, _, F, _, rfl, rfl, h3, h4.append h⟩
theorem ArgE.of_rep {c : Cx} : ∀ {l : List PV} {vs : List Value}, RepVs c l vs Nil → ArgE c l vs (List.replicate l.length Nil)
  | [], vs, h => ⟨h.1, rfl⟩
  | p :: l, vs, ⟨v, vs', Fa, Fb, e, h2, h3, h4, h5⟩ => by
    have hFa : Fa = Nil := FP.ext fun b => ⟨fun h => ((h5 b).2 (.inl h)).elim, fun h => h.elim⟩
    have hFb : Fb = Nil := FP.ext fun b => ⟨fun h => ((h5 b).2 (.inr h)).elim, fun h => h.elim⟩
    rw [hFa] at h2
    rw [hFb] at h3
    exact ⟨v, vs', Nil, _, e, rfl, h2, .of_rep h3⟩
section
variable {P : Program} {R : FnRel} {st : Sta} {reg idx : Nat} {Q : Exit → Act → World → Prop} {B : Base} {K : Act → World → Prop} {c : Cx} {a : Act} {s' : St} {t : Tr} {o : Oper}
theorem evalA_ex : ∀ (args : List (Operand × TypeId)) (ms : List Nat) {k : List (Nat × PV) → M Unit} {c : Cx} {F0 : FP} {t : Tr}, InvF B st.n c a F0 → (evalA st ms args k).Ex R c.S () s' t →
    ∃ l t' c' Fs, (k l).Ex R c'.S () s' t' ∧ c.Le c' ∧ c'.w = c.w ∧ c'.K = c.K ∧ ArgR c' l (args.map fun x => a.eval x.1) Fs ∧ Fs.Pairwise FP.dis ∧ F0.dis (Owns Fs) ∧ InvF B st.n c' a (fun b => F0 b ∨ Owns Fs b)
  | [], ms, k, c, F0, t, hI, h => ⟨[], t, c, [], h, .refl c, rfl, rfl, ⟨rfl, rfl⟩, .nil, fun b _ h => by simp [Owns] at h, by rw [Owns.nil, or_nil]; exact hI⟩
  | (x, ty) :: r, ms, k, c, F0, t, hI, h => by
    unfold evalA at h
    have key : ∀ {m : Nat} {p : PV} {c1 : Cx} {F1 : FP} {t1 : Tr}, (evalA st ms.tail r fun l => k ((m, p) :: l)).Ex R c1.S () s' t1 → c.Le c1 → c1.w = c.w → c1.K = c.K → RepV c1 p (a.eval x) F1 → (m ≠ 1 → F1.none) → F0.dis F1 → InvF B st.n c1 a (fun b => F0 b ∨ F1 b) →
        ∃ l t' c' Fs, (k l).Ex R c'.S () s' t' ∧ c.Le c' ∧ c'.w = c.w ∧ c'.K = c.K ∧ ArgR c' l (((x, ty) :: r).map fun x => a.eval x.1) Fs ∧ Fs.Pairwise FP.dis ∧ F0.dis (Owns Fs) ∧ InvF B st.n c' a (fun b => F0 b ∨ Owns Fs b) := by
      intro m p c1 F1 t1 h1 hle hw hk hr hm hd hI1
      obtain ⟨l, t2, c2, Fs, h2, hle2, hw2, hk2, hr2, hp, hd2, hI2⟩ := evalA_ex r ms.tail hI1 h1
      refine ⟨(m, p) :: l, t2, c2, F1 :: Fs, h2, hle.trans hle2, hw2.trans hw, hk2.trans hk, ⟨_, _, F1, Fs, rfl, rfl, hr.turn hle2 (fun _ _ => by rw [hw2]), hm, hr2⟩, List.pairwise_cons.2 ⟨fun F hF b q1 q2 => hd2 b (.inr q1) ⟨F, hF, q2⟩, hp⟩, ?_, ?_⟩
      · intro b q1 q2
        rw [Owns.cons] at q2
        rcases q2 with q2 | q2
        · exact hd b q1 q2
        · exact hd2 b (.inl q1) q2
      · have e : (fun b => F0 b ∨ Owns (F1 :: Fs) b) = (fun b => (F0 b ∨ F1 b) ∨ Owns Fs b) := FP.ext fun b => by rw [Owns.cons]; exact or_assoc.symm
        rw [e]; exact hI2
    split at h
    · obtain ⟨p, t1, c1, F1, h1, hle, hw, hk, hr, hd, hI1⟩ := ro_ex hI h
      exact key h1 hle hw hk hr (fun h => (h rfl).elim) hd hI1
    · obtain ⟨p, t1, h1, hr⟩ := rb_ex hI h
      exact key h1 (.refl c) rfl rfl hr (fun _ => no_none) (fun _ _ h => h) (by rw [or_nil]; exact hI)
theorem convA_ex (hrep : ∀ l, RepV c (c.S l).pv (c.val l) (c.Fq l)) (hh : ∀ b o v, c.K b o v → c.w.cell? ⟨b, o, none⟩ = some v) : ∀ (l : List (Nat × PV)) {acc : Acc} {k : List PV → Acc → M Unit} {vs : List Value} {Fs : List FP} {t : Tr}, ArgR c l vs Fs → acc.ok → (convA l acc k).Ex R c.S () s' t →
    ∃ as_ acc' t', (k as_ acc').Ex R c.S () s' t' ∧ acc.le acc' ∧ acc'.ok ∧ as_.length = vs.length ∧ ∀ cE, CE c acc' cE → ArgE cE as_ vs Fs
  | [], acc, k, vs, Fs, t, ⟨h1, h2⟩, hok, h => ⟨[], acc, t, h, .rfl acc, hok, by rw [h1]; rfl, fun cE hE => ⟨h1, h2⟩⟩
  | (m, p) :: l, acc, k, vs, Fs, t, ⟨v, vs', F, Fs', e1, e2, hr, hm, hrs⟩, hok, h => by
    subst e1 e2
    unfold convA at h
    split at h
    · have hF : F = Nil := FP.ext fun b => ⟨fun h => (hm (by omega) b h).elim, fun h => h.elim⟩
      rw [hF] at hr
      obtain ⟨p', acc1, t1, g1, g2, g3, g4⟩ := conv_ex p hr hrep hok h
      obtain ⟨l', acc2, t2, k1, k2, k3, k5, k4⟩ := convA_ex hrep hh l hrs g3 g1
      exact ⟨p' :: l', acc2, t2, k1, g2.trans k2, k3, by simp [k5], fun cE hE => ⟨v, vs', F, Fs', rfl, rfl, by rw [hF]; exact g4 cE (hE.anti k2), k4 cE hE⟩⟩
    · obtain ⟨hc, h1⟩ := guardM_ex h
      obtain ⟨l', acc2, t2, k1, k2, k3, k5, k4⟩ := convA_ex hrep hh l hrs hok h1
      exact ⟨p :: l', acc2, t2, k1, k2, k3, by simp [k5], fun cE hE => ⟨v, vs', F, Fs', rfl, rfl, clean_turn hE.K hc hr (fun _ _ => by rw [hE.w]), k4 cE hE⟩⟩
    · have hF : F = Nil := FP.ext fun b => ⟨fun h => (hm (by omega) b h).elim, fun h => h.elim⟩
      rw [hF] at hr
      obtain ⟨p', acc1, t1, g1, g2, g3, g4⟩ := conv_ex p hr hrep hok h
      obtain ⟨l', acc2, t2, k1, k2, k3, k5, k4⟩ := convA_ex hrep hh l hrs g3 g1
      exact ⟨p' :: l', acc2, t2, k1, g2.trans k2, k3, by simp [k5], fun cE hE => ⟨v, vs', F, Fs', rfl, rfl, by rw [hF]; exact g4 cE (hE.anti k2), k4 cE hE⟩⟩
    · rename_i hm0 hm1 hm3
      split at h
      · rename_i q ig cg d base ty xs
        obtain ⟨v1, v2, t2, h2⟩ := valid_ex h
        split at h2
        · exact h2.elim
        · rename_i hj
          obtain ⟨l', acc2, t3, k1, k2, k3, k5, k4⟩ := convA_ex hrep hh l hrs (acc := { acc with refs := acc.refs ++ [q] }) ⟨nodup_snoc hok.refs (idxOf_none hj), hok.bors, fun q' hq' => hok.subs q' (fun h => hq' (List.mem_append.2 (.inl h)))⟩ h2
          have hle : acc.le acc2 := Acc.le.trans (b := { acc with refs := acc.refs ++ [q] }) ⟨fun j q' hq' => by
            show (acc.refs ++ [q])[j]? = some q'
            rw [List.getElem?_append_left]
            · exact hq'
            · rcases Nat.lt_or_ge j acc.refs.length with hh | hh
              · exact hh
              · rw [List.getElem?_eq_none hh] at hq'; simp at hq', fun _ h => h, fun _ _ => Eq.refl _⟩ k2
          have hF : F = Nil := FP.ext fun b => ⟨fun h => (hr.1 b h).elim, fun h => h.elim⟩
          refine ⟨.als (O acc.refs.length) 0 :: l', acc2, t3, k1, hle, k3, by simp [k5], fun cE hE => ⟨v, vs', F, Fs', rfl, rfl, ?_, k4 cE hE⟩⟩
          have hq := (hE.anti k2).ref acc.refs.length q (by simp) (hok.subs q (idxOf_none hj))
          rw [hF]
          refine ⟨no_none, Nat.zero_le _, fun _ => ?_⟩
          rw [hq.1]
          exact ((hr.2.2.2 v1).1 rfl).1 rfl
      · rename_i q i ig cg d base ty xs
        obtain ⟨v1, v2, t2, h2⟩ := valid_ex h
        split at h2
        · exact h2.elim
        · rename_i hj
          have hnq := idxOf_none hj
          have hne : ∀ q', q' ≠ q → subOf q' ((q, i) :: acc.subs) = subOf q' acc.subs := fun q' h => by
            rw [subOf, beq_ne h]; rfl
          obtain ⟨l', acc2, t3, k1, k2, k3, k5, k4⟩ := convA_ex hrep hh l hrs (acc := { acc with refs := acc.refs ++ [q], subs := (q, i) :: acc.subs }) ⟨nodup_snoc hok.refs hnq, hok.bors, fun q' hq' => by
            rw [List.mem_append, not_or, List.mem_singleton] at hq'
            exact (hne q' hq'.2).trans (hok.subs q' hq'.1)⟩ h2
          have hle : acc.le acc2 := Acc.le.trans (b := { acc with refs := acc.refs ++ [q], subs := (q, i) :: acc.subs }) ⟨fun j q' hq' => by
            show (acc.refs ++ [q])[j]? = some q'
            rw [List.getElem?_append_left]
            · exact hq'
            · rcases Nat.lt_or_ge j acc.refs.length with hx | hx
              · exact hx
              · rw [List.getElem?_eq_none hx] at hq'; simp at hq', fun _ h => h, fun q' hq' => hne q' (fun e => hnq (e ▸ hq'))⟩ k2
          have hF : F = Nil := FP.ext fun b => ⟨fun h => (hr.1 b h).elim, fun h => h.elim⟩
          refine ⟨.als (O acc.refs.length) 0 :: l', acc2, t3, k1, hle, k3, by simp [k5], fun cE hE => ⟨v, vs', F, Fs', rfl, rfl, ?_, k4 cE hE⟩⟩
          have hq := (hE.anti k2).sub acc.refs.length q i (by simp) (by show subOf q ((q, i) :: acc.subs) = _; rw [subOf, Nat.beq_refl]; rfl)
          rw [hF]
          refine ⟨no_none, Nat.zero_le _, fun _ => ?_⟩
          obtain ⟨b, o, n, cap, m1, m2⟩ := (hr.2.2.2 v1).2.2 v2 rfl i rfl
          have hc : c.w.cell? ⟨b, o + i, none⟩ = some v := by
            rcases m2 with m2 | ⟨_, m2⟩
            · exact hh _ _ _ m2
            · exact m2
          have := hq.1 b o n cap m1
          rw [hc] at this
          exact Option.some.inj this
      · exact h.elim
/-- What the callee finds in a place by reference. -/
def OutIs (subs : List (Loc × Nat)) (s : St) (q : Loc) (p : PV) : Prop :=
  (subOf q subs = none ∧ p = (s q).pv ∧ clean p = true) ∨ ∃ (i d : Nat) (e : Ty) (xss : List (Ty.l e).D), subOf q subs = some i ∧ (s q).pv = .sl (d + 1) (.l e) xss ∧ i < xss.length ∧ p = .sl d e (xss.getD i [])
theorem outPV_ex {sub : Option Nat} {q : PV} {k : PV → M Unit} {s : St} {t : Tr} (h : (outPV sub q k).Ex R s () s' t) :
    ∃ p, (k p).Ex R s () s' t ∧ ((sub = none ∧ p = q ∧ clean p = true) ∨ ∃ (i d : Nat) (e : Ty) (xss : List (Ty.l e).D), sub = some i ∧ q = .sl (d + 1) (.l e) xss ∧ i < xss.length ∧ p = .sl d e (xss.getD i [])) := by
  unfold outPV at h
  split at h
  · obtain ⟨hc, h1⟩ := guardM_ex h
    exact ⟨q, h1, .inl ⟨rfl, rfl, hc⟩⟩
  · rename_i i
    split at h
    · rename_i d e xss
      obtain ⟨hi, h1⟩ := br_fail h
      exact ⟨_, h1, .inr ⟨i, d, e, xss, rfl, rfl, of_decide_eq_true hi, rfl⟩⟩
    · exact h.elim
theorem outsM_ex {subs : List (Loc × Nat)} : ∀ (qs : List Loc) {k : List PV → M Unit} {s : St} {t : Tr}, (outsM subs qs k).Ex R s () s' t →
    ∃ os t', (k os).Ex R s () s' t' ∧ os.length = qs.length ∧ ∀ (j : Nat) (q : Loc), qs[j]? = some q → OutIs subs s q (os.getD j .undef)
  | [], k, s, t, h => ⟨[], t, h, rfl, by simp⟩
  | q :: qs, k, s, t, h => by
    obtain ⟨t1, rfl, h1⟩ := h
    obtain ⟨p, h2, hp⟩ := outPV_ex h1
    obtain ⟨os, t2, h3, h4, h5⟩ := outsM_ex qs h2
    refine ⟨p :: os, t2, h3, by simp [h4], fun j q' hj => ?_⟩
    cases j with
    | zero =>
      simp only [List.getElem?_cons_zero, Option.some.injEq] at hj
      subst hj
      exact hp
    | succ j => simpa using h5 j q' (by simpa using hj)
/-- The same places, of which some have turned. -/
structure Turned (s s1 : St) (qs : List Loc) : Prop where
  out : ∀ l, l ∉ qs → s1 l = s l
  ig : ∀ l, (s1 l).ig = (s l).ig
  cg : ∀ l, l ∈ qs → (s l).cg < (s1 l).cg
/-- What lies in a place by reference after the call. -/
def InIs (subs : List (Loc × Nat)) (s : St) (q : Loc) (v p : PV) : Prop :=
  (subOf q subs = none ∧ p = v) ∨ ∃ (i d : Nat) (e : Ty) (xss : List (Ty.l e).D) (ys : List e.D), subOf q subs = some i ∧ (s q).pv = .sl (d + 1) (.l e) xss ∧ v = .sl d e ys ∧ p = .sl (d + 1) (.l e) (xss.set i ys)
theorem inPV_ex {sub : Option Nat} {q v : PV} {k : PV → M Unit} {s : St} {t : Tr} (h : (inPV sub q v k).Ex R s () s' t) :
    ∃ p, (k p).Ex R s () s' t ∧ ((sub = none ∧ p = v) ∨ ∃ (i d : Nat) (e : Ty) (xss : List (Ty.l e).D) (ys : List e.D), sub = some i ∧ q = .sl (d + 1) (.l e) xss ∧ v = .sl d e ys ∧ p = .sl (d + 1) (.l e) (xss.set i ys)) := by
  unfold inPV at h
  split at h
  · exact ⟨v, h, .inl ⟨rfl, rfl⟩⟩
  · rename_i i
    split at h
    · rename_i d e xss d' e' ys
      obtain ⟨hd, h1⟩ := guardM_ex h
      obtain rfl := Nat.eq_of_beq_eq_true hd
      split at h1
      · rename_i hb
        obtain rfl := Ty.beq_eq hb
        exact ⟨_, h1, .inr ⟨i, d, _, xss, ys, rfl, rfl, rfl, rfl⟩⟩
      · exact h1.elim
    · exact h.elim
theorem backM_ex {subs : List (Loc × Nat)} : ∀ (qs : List Loc) (ps : List PV) {m : M Unit} {s : St} {t : Tr}, qs.Nodup → (backM subs qs ps m).Ex R s () s' t →
    ∃ s1 t', m.Ex R s1 () s' t' ∧ Turned s s1 qs ∧ ps.length = qs.length ∧ ∀ (j : Nat) (q : Loc), qs[j]? = some q → InIs subs s q (ps.getD j .undef) (s1 q).pv
  | [], [], m, s, t, hn, h => ⟨s, t, h, ⟨fun _ _ => rfl, fun _ => rfl, by simp⟩, rfl, by simp⟩
  | [], p :: ps, m, s, t, hn, h => h.elim
  | q :: qs, [], m, s, t, hn, h => h.elim
  | q :: qs, v :: ps, m, s, t, hn, h => by
    obtain ⟨t0, rfl, h0⟩ := h
    obtain ⟨p, ⟨t1, rfl, h1⟩, hp⟩ := inPV_ex h0
    obtain ⟨hq, hn'⟩ := List.nodup_cons.1 hn
    obtain ⟨s1, t2, g1, g2, g3, g4⟩ := backM_ex qs ps hn' h1
    refine ⟨s1, t2, g1, ⟨fun l hl => ?_, fun l => ?_, fun l hl => ?_⟩, by simp [g3], fun j q' hj => ?_⟩
    · rw [List.mem_cons, not_or] at hl
      rw [g2.out l hl.2, St.md, upd_ne _ _ hl.1]
    · rw [g2.ig l]
      by_cases e : l = q
      · subst e; simp [St.md, upd_same]
      · rw [St.md, upd_ne _ _ e]
    · rcases List.mem_cons.1 hl with e | e
      · subst e; rw [g2.out l hq]; simp [St.md, upd_same]
      · have := g2.cg l e
        rwa [St.md, upd_ne _ _ (fun (e' : l = q) => hq (by rw [← e']; exact e))] at this
    · cases j with
      | zero =>
        simp only [List.getElem?_cons_zero, Option.some.injEq] at hj
        subst hj
        have e1 : (s1 q).pv = p := by rw [g2.out _ hq]; simp [St.md, upd_same]
        rw [e1]
        exact hp
      | succ j =>
        have hj' : qs[j]? = some q' := by simpa using hj
        have := g4 j q' hj'
        have hne : q' ≠ q := fun e => hq (e ▸ List.mem_of_getElem? hj')
        unfold InIs at this ⊢
        rw [St.md, upd_ne _ _ hne] at this
        simpa using this
theorem freezeM_ex : ∀ (qs : List Loc) {m : M Unit} {s : St} {t : Tr}, qs.Nodup → (freezeM qs m).Ex R s () s' t →
    ∃ s1 t', m.Ex R s1 () s' t' ∧ Turned s s1 qs ∧ ∀ q ∈ qs, (s1 q).pv = froz (s q).pv
  | [], m, s, t, hn, h => ⟨s, t, h, ⟨fun _ _ => rfl, fun _ => rfl, by simp⟩, by simp⟩
  | q :: qs, m, s, t, hn, h => by
    obtain ⟨t1, rfl, t1', rfl, h1⟩ := h
    obtain ⟨hq, hn'⟩ := List.nodup_cons.1 hn
    obtain ⟨s1, t2, g1, g2, g4⟩ := freezeM_ex qs hn' h1
    refine ⟨s1, t2, g1, ⟨fun l hl => ?_, fun l => ?_, fun l hl => ?_⟩, fun q' hq' => ?_⟩
    · rw [List.mem_cons, not_or] at hl
      rw [g2.out l hl.2, St.md, upd_ne _ _ hl.1]
    · rw [g2.ig l]
      by_cases e : l = q
      · subst e; simp [St.md, upd_same]
      · rw [St.md, upd_ne _ _ e]
    · rcases List.mem_cons.1 hl with e | e
      · subst e; rw [g2.out l hq]; simp [St.md, upd_same]
      · have := g2.cg l e
        rwa [St.md, upd_ne _ _ (fun (e' : l = q) => hq (by rw [← e']; exact e))] at this
    · rcases List.mem_cons.1 hq' with e | e
      · subst e; rw [g2.out _ hq]; simp [St.md, upd_same]
      · rw [g4 q' e, St.md, upd_ne _ _ (fun (e' : q' = q) => hq (by rw [← e']; exact e))]
/-! ### what a call finds and leaves -/
structure Entry (c : Cx) : Prop where
  rep : ∀ l, RepV c (c.S l).pv (c.val l) (c.Fq l)
  dis : ∀ l l', l ≠ l' → (c.Fq l).dis (c.Fq l')
  holds : ∀ b o v, c.K b o v → c.w.cell? ⟨b, o, none⟩ = some v
  kdis : ∀ b o v l, c.Fq l b → ¬ c.K b o v
  bound : ∀ b l, c.Fq l b → b < c.w.heap.size
structure Left (c : Cx) (m : Nat) (os' : List PV) (r : PV) (v : Value) (c' : Cx) (Fr : FP) : Prop where
  ret : RepV c' r v Fr
  out : ∀ j, j < m → RepV c' (os'.getD j .undef) (c.val (O j)) (c'.Fq (O j))
  rdis : ∀ j, j < m → Fr.dis (c'.Fq (O j))
  odis : ∀ i j, i < m → j < m → i ≠ j → (c'.Fq (O i)).dis (c'.Fq (O j))
  holds : ∀ b o v, c'.K b o v → c'.w.cell? ⟨b, o, none⟩ = some v
  rk : ∀ b o v, Fr b → ¬ c'.K b o v
  ok : ∀ j b o v, j < m → c'.Fq (O j) b → ¬ c'.K b o v
  rbound : ∀ b, Fr b → b < c'.w.heap.size ∧ (b < c.w.heap.size → ∃ l, c.Fq l b)
  obound : ∀ j b, j < m → c'.Fq (O j) b → b < c'.w.heap.size ∧ (b < c.w.heap.size → ∃ l, c.Fq l b)
  os : c'.w.os = c.w.os
  tape : c'.w.tape = c.w.tape
  output : c'.w.output = c.w.output
  drawn : c.w.drawn ≤ c'.w.drawn
  size : c.w.heap.size ≤ c'.w.heap.size
  frame : ∀ b, b < c.w.heap.size → (∀ l, ¬ c.Fq l b) → c'.w.heap[b]? = c.w.heap[b]?
  K : ∀ b o v, c.K b o v → c'.K b o v
  knew : ∀ b o v, c'.K b o v → c.K b o v ∨ (∃ l, c.Fq l b) ∨ c.w.heap.size ≤ b
def CallRes (P : Program) (f : FuncId) (vs : Array Value) (w : World) (R : Value → World → Prop) : Prop :=
  match (callFunc f vs).run P w with
  | .ok (.value v) w' => R v w'
  | .ok (.enter f args) w' => Calls P f args w' (fun e w'' => ∃ v, e = .returned v ∧ R v w'')
  | _ => False
/-- The functions keep to what the relation tells. -/
def FnOk (P : Program) (R : FnRel) : Prop := ∀ f as_ os r os', R f as_ os r os' → clean r = true ∧ cleans os' = true ∧
  ∀ (c : Cx) (vs : Array Value), c.S = S0 as_ os → Entry c → vs.size = as_.length → (∀ k, c.val (T k) = vs.getD k undef) →
    CallRes P f vs c.w (fun v w' => ∃ c' Fr, c'.w = w' ∧ Left c os.length os' r v c' Fr)
end
end Go.VI
