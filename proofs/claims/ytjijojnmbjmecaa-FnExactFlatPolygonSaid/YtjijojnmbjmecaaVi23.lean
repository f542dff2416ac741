/-
  An interpreter of the functions of a program as plain functions of lists and numbers, part 24: what it computes is what the program does. No condition but those that its theorems name.
-/
import Derived.Test.YtjijojnmbjmecaaVi22b
set_option linter.unusedVariables false
set_option linter.constructorNameAsVariable false
namespace Go.VI
/-! ### calls: what a callee gets to see -/
theorem idxOf_some {q : Loc} : ∀ {l : List Loc} {j i : Nat}, idxOf q l j = some i → ∃ k, i = j + k ∧ l[k]? = some q
  | [], j, i, h => by simp [idxOf] at h
  | r :: l, j, i, h => by
    rw [idxOf] at h
    cases hb : Nat.beq q r with
    | true =>
      rw [hb] at h
      simp only [cond_true, Option.some.injEq] at h
      exact ⟨0, by omega, by rw [Nat.eq_of_beq_eq_true hb]; rfl⟩
    | false =>
      rw [hb] at h
      obtain ⟨k, h1, h2⟩ := idxOf_some (show idxOf q l (j + 1) = some i from h)
      exact ⟨k + 1, by omega, by simpa using h2⟩
theorem idxOf_none {q : Loc} : ∀ {l : List Loc} {j : Nat}, idxOf q l j = none → q ∉ l
  | [], j, h => by simp
  | r :: l, j, h => by
    rw [idxOf] at h
    cases hb : Nat.beq q r with
    | true => rw [hb] at h; simp at h
    | false =>
      rw [hb] at h
      have := idxOf_none (show idxOf q l (j + 1) = none from h)
      intro hm
      rcases List.mem_cons.1 hm with h' | h'
      · subst h'; rw [Nat.beq_refl] at hb; simp at hb
      · exact this h'
structure CE (c : Cx) (a : Acc) (cE : Cx) : Prop where
  w : cE.w = c.w
  K : ∀ b o v, c.K b o v → cE.K b o v
  bor : ∀ q ∈ a.bors, ∀ b o v, c.Fq q b → c.w.cell? ⟨b, o, none⟩ = some v → cE.K b o v
  ref : ∀ (j : Nat) (q : Loc), a.refs[j]? = some q → subOf q a.subs = none → cE.val (O j) = c.val q ∧ (cE.S (O j)).ig = 0
  sub : ∀ (j : Nat) (q : Loc) (i : Nat), a.refs[j]? = some q → subOf q a.subs = some i → (∀ b o n cap, c.val q = .slice (some ⟨b, o, none⟩) n cap → c.w.cell? ⟨b, o + i, none⟩ = some (cE.val (O j))) ∧ (cE.S (O j)).ig = 0
structure Acc.le (a a' : Acc) : Prop where
  refs : ∀ (j : Nat) (q : Loc), a.refs[j]? = some q → a'.refs[j]? = some q
  bors : ∀ q : Loc, q ∈ a.bors → q ∈ a'.bors
  subs : ∀ q : Loc, q ∈ a.refs → subOf q a'.subs = subOf q a.subs
structure Acc.ok (a : Acc) : Prop where
  refs : a.refs.Nodup
  bors : a.bors.Nodup
  subs : ∀ q : Loc, q ∉ a.refs → subOf q a.subs = none
theorem Acc.le.rfl (a : Acc) : a.le a := ⟨fun _ _ h => h, fun _ h => h, fun _ _ => Eq.refl _⟩
theorem Acc.le.trans {a b c : Acc} (h : a.le b) (k : b.le c) : a.le c := ⟨fun j q hq => k.refs j q (h.refs j q hq), fun q hq => k.bors q (h.bors q hq), fun q hq => by
  obtain ⟨j, hj⟩ := List.mem_iff_getElem?.1 hq
  exact (k.subs q (List.mem_of_getElem? (h.refs j q hj))).trans (h.subs q hq)⟩
theorem CE.anti {c cE : Cx} {a a' : Acc} (h : CE c a' cE) (hle : a.le a') : CE c a cE := ⟨h.w, h.K, fun q hq => h.bor q (hle.bors q hq), fun j q hq hs => h.ref j q (hle.refs j q hq) ((hle.subs q (List.mem_of_getElem? hq)).trans hs), fun j q i hq hs => h.sub j q i (hle.refs j q hq) ((hle.subs q (List.mem_of_getElem? hq)).trans hs)⟩
section
variable {P : Program} {R : FnRel} {st : Sta} {reg idx : Nat} {Q : Exit → Act → World → Prop} {B : Base} {K : Act → World → Prop} {c : Cx} {a : Act} {s' : St} {t : Tr} {o : Oper}
theorem nodup_snoc {l : List Loc} {q : Loc} (h : l.Nodup) (hq : q ∉ l) : (l ++ [q]).Nodup := by
  rw [List.nodup_append]
  refine ⟨h, by simp, ?_⟩
  intro x hx y hy
  rw [List.mem_singleton] at hy
  subst hy
  exact fun e => hq (e ▸ hx)
mutual
theorem conv_ex {z : Bool} : ∀ (p : PV) {acc : Acc} {k : PV → Acc → M Unit} {v : Value} {t : Tr}, RepV c p v Nil → (∀ l, RepV c (c.S l).pv (c.val l) (c.Fq l)) → acc.ok → (conv z p acc k).Ex R c.S () s' t →
    ∃ p' acc' t', (k p' acc').Ex R c.S () s' t' ∧ acc.le acc' ∧ acc'.ok ∧ ∀ cE, CE c acc' cE → RepV cE p' v Nil
  | .bor q path ig cg d wh base ty xs, acc, k, v, t, hr, hrep, hok, h => by
    unfold conv at h
    obtain ⟨v1, v2, t2, h2⟩ := valid_ex h
    have hR := (hr.2.2.2 v1).2.1 v2
    refine ⟨_, _, t2, h2, ⟨fun _ _ h => h, ?_, fun _ _ => Eq.refl _⟩, ⟨hok.refs, ?_, hok.subs⟩, fun cE hE => ?_⟩
    · dsimp only
      split
      · exact fun q h => h
      · exact fun q h => List.mem_cons_of_mem _ h
    · dsimp only
      split
      · exact hok.bors
      · rename_i hn
        exact List.nodup_cons.2 ⟨idxOf_none hn, hok.bors⟩
    · have hq : q ∈ (match idxOf q acc.bors 0 with | some _ => acc.bors | none => q :: acc.bors) := by
        split
        · rename_i i hs
          obtain ⟨k, _, h2⟩ := idxOf_some hs
          exact List.mem_of_getElem? h2
        · simp
      have := RepR.toC (w := cE.w) (K := cE.K) (fun b o v hk => by
        rcases hk with hk | ⟨hk1, hk2⟩
        · exact hE.K _ _ _ hk
        · exact hE.bor q hq b o v hk1 hk2) hE.K hR
      exact this
  | .sl 0 ty xs, acc, k, v, t, hr, hrep, hok, h => ⟨_, acc, t, h, .rfl acc, hok, fun cE hE => RepC.keep (t := .l ty) hE.K (show RepC c.w c.K (.l ty) 0 xs [v] Nil from hr) (fun _ _ => by rw [hE.w])⟩
  | .sl (d + 1) ty [], acc, k, v, t, hr, hrep, hok, h => by
    refine ⟨_, acc, t, h, .rfl acc, hok, fun cE hE => ?_⟩
    obtain ⟨ad, cap, h1, h2, _⟩ := hr
    exact ⟨ad, cap, h1, h2, no_none, .inl rfl⟩
  | .sl (d + 1) ty (x :: xs), acc, k, v, t, hr, hrep, hok, h => h.elim
  | .cap ty xs, acc, k, v, t, hr, hrep, hok, h => ⟨_, acc, t, h, .rfl acc, hok, fun cE hE => RepC.keep (t := .l ty) hE.K hr.1 (fun _ _ => by rw [hE.w])⟩
  | .nsl _ ty xs, acc, k, v, t, hr, hrep, hok, h => ⟨_, acc, t, h, .rfl acc, hok, fun cE hE => RepC.keep (t := .l ty) hE.K hr.1 (fun _ _ => by rw [hE.w])⟩
  | .ptr q ig off, acc, k, v, t, hr, hrep, hok, h => by
    unfold conv at h
    obtain ⟨t1, rfl, h1⟩ := h
    obtain ⟨hg, h2⟩ := guardM_ex h1
    have hig := Nat.eq_of_beq_eq_true hg
    obtain ⟨g1, g2, g3⟩ := hr
    obtain ⟨b, g4, g5⟩ := g3 hig
    split at h2
    rotate_left
    · -- looked at
      split at h2
      · rename_i cs hpv
        split at h2
        · rename_i ty hty
          split at h2
          · rename_i x de hof
            refine ⟨_, _, _, h2, ⟨fun _ _ h => h, ?_, fun _ _ => Eq.refl _⟩, ⟨hok.refs, ?_, hok.subs⟩, fun cE hE => ?_⟩
            · dsimp only
              split
              · exact fun q h => h
              · exact fun q h => List.mem_cons_of_mem _ h
            · dsimp only
              split
              · exact hok.bors
              · rename_i hn
                exact List.nodup_cons.2 ⟨idxOf_none hn, hok.bors⟩
            · have hq : q ∈ (match idxOf q acc.bors 0 with | some _ => acc.bors | none => q :: acc.bors) := by
                split
                · rename_i i hs
                  obtain ⟨k, _, h2⟩ := idxOf_some hs
                  exact List.mem_of_getElem? h2
                · simp
              have hrq := hrep q
              rw [hpv] at hrq
              obtain ⟨b', arr, ty', F', m1, m2, m3, m4, m5⟩ := hrq
              have hb : b' = b := by rw [g4] at m1; injection m1 with m1; injection m1 with m1; injection m1 with m1; exact m1.symm
              subst hb
              have hkn : ∀ b'' o v, c.Fq q b'' → c.w.cell? ⟨b'', o, none⟩ = some v → cE.K b'' o v := fun b'' o v h1 h2 => hE.bor q hq b'' o v h1 h2
              obtain ⟨va, vb, Fa, Fb, n1, n2, n3, n4, n5⟩ := ofCells_ok hof m3
              have hvb : vb = [] := n3.1
              rw [hvb, List.append_nil] at n1
              refine ⟨no_none, b', 0, arr.toList, by rw [g5, Nat.zero_add], ?_, fun j u hu => ?_⟩
              · have hd : ∃ d, de = none ∨ de = some d := by
                  cases de with
                  | none => exact ⟨0, .inl rfl⟩
                  | some d => exact ⟨d, .inr rfl⟩
                obtain ⟨d, hd⟩ := hd
                have := (n2 d hd).freeze (w := c.w) (K' := cE.K) hE.K (fun b o v hb hc => hkn b o v ((m5 b).2 (.inr ((n5 b).2 (.inl hb)))) hc)
                rw [n1]
                rw [hE.w]
                exact this
              · rw [Nat.zero_add]
                refine hkn b' j u ((m5 b').2 (.inl rfl)) ?_
                rw [cell_of_heap m2]; simpa using hu
          · exact h2.elim
        · exact h2.elim
      · exact h2.elim
    split at h2
    · rename_i j hj
      obtain ⟨k', e1, e2⟩ := idxOf_some hj
      have e1 : j = k' := by omega
      subst e1
      obtain ⟨hs, h2⟩ := guardM_ex h2
      have hsub : subOf q acc.subs = none := by
        cases hh : subOf q acc.subs with
        | none => rfl
        | some i => rw [hh] at hs; simp at hs
      refine ⟨_, acc, _, h2, .rfl acc, hok, fun cE hE => ⟨no_none, Nat.zero_le _, fun _ => ⟨b, ?_, g5⟩⟩⟩
      rw [(hE.ref _ q e2 hsub).1]; exact g4
    · rename_i hj
      refine ⟨_, _, _, h2, ⟨fun j q' hq' => ?_, fun _ h => h, fun _ _ => Eq.refl _⟩, ⟨nodup_snoc hok.refs (idxOf_none hj), hok.bors, fun q' hq' => hok.subs q' (fun h => hq' (List.mem_append.2 (.inl h)))⟩, fun cE hE => ⟨no_none, Nat.zero_le _, fun _ => ⟨b, ?_, g5⟩⟩⟩
      · dsimp only
        rw [List.getElem?_append_left]
        · exact hq'
        · rcases Nat.lt_or_ge j acc.refs.length with hh | hh
          · exact hh
          · rw [List.getElem?_eq_none hh] at hq'; simp at hq'
      · have := (hE.ref acc.refs.length q (by simp) (hok.subs q (idxOf_none hj))).1
        rw [this]; exact g4
  | .agg cs, acc, k, v, t, hr, hrep, hok, h => by
    unfold conv at h
    obtain ⟨vs, e1, hrs⟩ := hr
    obtain ⟨l, acc', t', h1, h2, h3, h4⟩ := convs_ex cs hrs hrep hok h
    exact ⟨_, acc', t', h1, h2, h3, fun cE hE => ⟨vs, e1, h4 cE hE⟩⟩
  | .clo f cs, acc, k, v, t, hr, hrep, hok, h => by
    unfold conv at h
    obtain ⟨g0, vs, e1, hrs⟩ := hr
    obtain ⟨l, acc', t', h1, h2, h3, h4⟩ := convs_ex cs hrs hrep hok h
    exact ⟨_, acc', t', h1, h2, h3, fun cE hE => ⟨no_none, vs, e1, h4 cE hE⟩⟩
  | .bnd f cs, acc, k, v, t, hr, hrep, hok, h => by
    unfold conv at h
    obtain ⟨g0, vs, e1, hrs⟩ := hr
    obtain ⟨l, acc', t', h1, h2, h3, h4⟩ := convs_ex cs hrs hrep hok h
    exact ⟨_, acc', t', h1, h2, h3, fun cE hE => ⟨no_none, vs, e1, h4 cE hE⟩⟩
  | .bool b, acc, k, v, t, hr, hrep, hok, h => ⟨_, acc, t, h, .rfl acc, hok, fun cE hE => hr⟩
  | .int _ _, acc, k, v, t, hr, hrep, hok, h => ⟨_, acc, t, h, .rfl acc, hok, fun cE hE => hr⟩
  | .str _, acc, k, v, t, hr, hrep, hok, h => ⟨_, acc, t, h, .rfl acc, hok, fun cE hE => hr⟩
  | .nilF, acc, k, v, t, hr, hrep, hok, h => ⟨_, acc, t, h, .rfl acc, hok, fun cE hE => hr⟩
  | .nilI, acc, k, v, t, hr, hrep, hok, h => ⟨_, acc, t, h, .rfl acc, hok, fun cE hE => hr⟩
  | .someI, acc, k, v, t, hr, hrep, hok, h => ⟨_, acc, t, h, .rfl acc, hok, fun cE hE => hr⟩
  | .undef, acc, k, v, t, hr, hrep, hok, h => h.elim
  | .nov, acc, k, v, t, hr, hrep, hok, h => h.elim
  | .tup _, acc, k, v, t, hr, hrep, hok, h => h.elim
  | .kel none _ _ ty x off, acc, k, v, t, hr, hrep, hok, h => ⟨_, acc, t, h, .rfl acc, hok, fun cE hE => by
    obtain ⟨g1, b, o, cs, g2, g3, g4⟩ := hr
    exact ⟨g1, b, o, cs, g2, RepC.keep (F := fun _ => False) (w := c.w) hE.K g3 (fun _ h => h.elim), fun j u hu => hE.K _ _ _ (g4 j u hu)⟩⟩
  | .kel (some _) _ _ _ _ _, acc, k, v, t, hr, hrep, hok, h => h.elim
  | .als .., acc, k, v, t, hr, hrep, hok, h => h.elim
  | .box _, acc, k, v, t, hr, hrep, hok, h => h.elim
theorem convs_ex {z : Bool} : ∀ (ps : List PV) {acc : Acc} {k : List PV → Acc → M Unit} {vs : List Value} {t : Tr}, RepVs c ps vs Nil → (∀ l, RepV c (c.S l).pv (c.val l) (c.Fq l)) → acc.ok → (convs z ps acc k).Ex R c.S () s' t →
    ∃ l acc' t', (k l acc').Ex R c.S () s' t' ∧ acc.le acc' ∧ acc'.ok ∧ ∀ cE, CE c acc' cE → RepVs cE l vs Nil
  | [], acc, k, vs, t, hr, hrep, hok, h => ⟨[], acc, t, h, .rfl acc, hok, fun cE hE => hr⟩
  | p :: ps, acc, k, vs, t, ⟨v, vs', Fa, Fb, e, h2, h3, h4, h5⟩, hrep, hok, h => by
    unfold convs at h
    have hFa : Fa = Nil := FP.ext fun b => ⟨fun h => ((h5 b).2 (.inl h)).elim, fun h => h.elim⟩
    have hFb : Fb = Nil := FP.ext fun b => ⟨fun h => ((h5 b).2 (.inr h)).elim, fun h => h.elim⟩
    rw [hFa] at h2
    rw [hFb] at h3
    obtain ⟨p', acc1, t1, g1, g2, g3, g4⟩ := conv_ex p h2 hrep hok h
    obtain ⟨l, acc2, t2, k1, k2, k3, k4⟩ := convs_ex ps h3 hrep g3 g1
    exact ⟨p' :: l, acc2, t2, k1, g2.trans k2, k3, fun cE hE => ⟨v, vs', Nil, Nil, e, g4 cE (hE.anti k2), k4 cE hE, fun _ h => h.elim, fun _ => by simp [Nil]⟩⟩
end
/-! ### values that stand for themselves -/
mutual
theorem clean_turn {c1 c2 : Cx} (hK : ∀ b o v, c1.K b o v → c2.K b o v) : ∀ {p : PV} {v : Value} {F : FP}, clean p = true → RepV c1 p v F → (∀ b, F b → c2.w.heap[b]? = c1.w.heap[b]?) → RepV c2 p v F
  | .bool _, _, _, _, h, _ => h
  | .int _ _, _, _, _, h, _ => h
  | .str _, _, _, _, h, _ => h
  | .nilF, _, _, _, h, _ => h
  | .nilI, _, _, _, h, _ => h
  | .someI, _, _, _, h, _ => h
  | .sl d ty xs, v, F, _, h, hw => RepC.keep (t := .l ty) hK h hw
  | .cap ty xs, v, F, _, h, hw => ⟨RepC.keep (t := .l ty) hK h.1 hw, h.2⟩
  | .agg cs, v, F, hc, ⟨vs, e, h⟩, hw => ⟨vs, e, cleans_turn hK (by simpa [clean] using hc) h hw⟩
  | .tup cs, v, F, hc, ⟨vs, e, h⟩, hw => ⟨vs, e, cleans_turn hK (by simpa [clean] using hc) h hw⟩
  | .box cs, v, F, hc, ⟨b, arr, ty, F', h1, h2, h3, h4, h5⟩, hw => ⟨b, arr, ty, F', h1, (hw b ((h5 b).2 (.inl rfl))).trans h2, cleans_turn hK (by simpa [clean] using hc) h3 (fun b' hb' => hw b' ((h5 b').2 (.inr hb'))), h4, h5⟩
  | .undef, _, _, hc, _, _ => by simp [clean] at hc
  | .nov, _, _, hc, _, _ => by simp [clean] at hc
  | .bor .., _, _, hc, _, _ => by simp [clean] at hc
  | .kel .., _, _, hc, _, _ => by simp [clean] at hc
  | .ptr .., _, _, hc, _, _ => by simp [clean] at hc
  | .als .., _, _, hc, _, _ => by simp [clean] at hc
  | .clo .., _, _, hc, _, _ => by simp [clean] at hc
  | .bnd .., _, _, hc, _, _ => by simp [clean] at hc
  | .nsl .., _, _, hc, _, _ => by simp [clean] at hc
theorem cleans_turn {c1 c2 : Cx} (hK : ∀ b o v, c1.K b o v → c2.K b o v) : ∀ {ps : List PV} {vs : List Value} {F : FP}, cleans ps = true → RepVs c1 ps vs F → (∀ b, F b → c2.w.heap[b]? = c1.w.heap[b]?) → RepVs c2 ps vs F
  | [], _, _, _, h, _ => h
  | p :: ps, vs, F, hc, ⟨v, vs', Fa, Fb, e, h2, h3, h4, h5⟩, hw => by
    simp only [cleans, Bool.and_eq_true] at hc
    exact ⟨v, vs', Fa, Fb, e, clean_turn hK hc.1 h2 (fun b hb => hw b ((h5 b).2 (.inl hb))), cleans_turn hK hc.2 h3 (fun b hb => hw b ((h5 b).2 (.inr hb))), h4, h5⟩
end
theorem RepC.deep {w w' : World} {K1 K2 : Kn} : ∀ {t : Ty} {d : Nat} {x : t.D} {vs : List Value} {F : FP}, t.dep ≤ d → RepC w K1 t d x vs F → (∀ b, F b → w'.heap[b]? = w.heap[b]?) → RepC w' K2 t d x vs F
  | .i _, _, _, _, _, _, h, _ => h
  | .b, _, _, _, _, _, h, _ => h
  | .s, _, _, _, _, _, h, _ => h
  | .p x y, d, v, vs, F, hd, ⟨va, vb, Fa, Fb, h1, h2, h3, h4, h5⟩, hw => by
    have hd' : max x.dep y.dep ≤ d := hd
    exact ⟨va, vb, Fa, Fb, h1, h2.deep (by omega) (fun b hb => hw b ((h5 b).2 (.inl hb))), h3.deep (by omega) (fun b hb => hw b ((h5 b).2 (.inr hb))), h4, h5⟩
  | .l e, 0, xs, vs, F, hd, h, hw => by
    have hd' : e.dep + 1 ≤ 0 := hd
    omega
  | .l e, d + 1, xs, vs, F, hd, ⟨ad, cap, h1, h2, h3⟩, hw => by
    have hd' : e.dep + 1 ≤ d + 1 := hd
    exact ⟨ad, cap, h1, h2, h3.imp id fun ⟨b, o, arr, ty, F', g1, g2, g3, g4, g5, g6⟩ => ⟨b, o, arr, ty, F', g1, (hw b ((g6 b).2 (.inl rfl))).trans g2, g3,
      g4.mono fun x vs F'' _ hF h => h.deep (by omega) (fun b hb => hw b ((g6 b).2 (.inr (hF b hb)))), g5, g6⟩⟩
mutual
theorem kfree_turn {c1 c2 : Cx} : ∀ {p : PV} {v : Value} {F : FP}, kfree p = true → RepV c1 p v F → (∀ b, F b → c2.w.heap[b]? = c1.w.heap[b]?) → RepV c2 p v F
  | .bool _, _, _, _, h, _ => h
  | .int _ _, _, _, _, h, _ => h
  | .str _, _, _, _, h, _ => h
  | .nilF, _, _, _, h, _ => h
  | .nilI, _, _, _, h, _ => h
  | .someI, _, _, _, h, _ => h
  | .sl d ty xs, v, F, hc, h, hw => RepC.deep (t := .l ty) (Nat.le_of_ble_eq_true hc) h hw
  | .agg cs, v, F, hc, ⟨vs, e, h⟩, hw => ⟨vs, e, kfrees_turn (by simpa [kfree] using hc) h hw⟩
  | .tup cs, v, F, hc, ⟨vs, e, h⟩, hw => ⟨vs, e, kfrees_turn (by simpa [kfree] using hc) h hw⟩
  | .box cs, v, F, hc, ⟨b, arr, ty, F', h1, h2, h3, h4, h5⟩, hw => ⟨b, arr, ty, F', h1, (hw b ((h5 b).2 (.inl rfl))).trans h2, kfrees_turn (by simpa [kfree] using hc) h3 (fun b' hb' => hw b' ((h5 b').2 (.inr hb'))), h4, h5⟩
  | .cap .., _, _, hc, _, _ => by simp [kfree] at hc
  | .undef, _, _, hc, _, _ => by simp [kfree] at hc
  | .nov, _, _, hc, _, _ => by simp [kfree] at hc
  | .bor .., _, _, hc, _, _ => by simp [kfree] at hc
  | .kel .., _, _, hc, _, _ => by simp [kfree] at hc
  | .ptr .., _, _, hc, _, _ => by simp [kfree] at hc
  | .als .., _, _, hc, _, _ => by simp [kfree] at hc
  | .clo .., _, _, hc, _, _ => by simp [kfree] at hc
  | .bnd .., _, _, hc, _, _ => by simp [kfree] at hc
  | .nsl .., _, _, hc, _, _ => by simp [kfree] at hc
theorem kfrees_turn {c1 c2 : Cx} : ∀ {ps : List PV} {vs : List Value} {F : FP}, kfrees ps = true → RepVs c1 ps vs F → (∀ b, F b → c2.w.heap[b]? = c1.w.heap[b]?) → RepVs c2 ps vs F
  | [], _, _, _, h, _ => h
  | p :: ps, vs, F, hc, ⟨v, vs', Fa, Fb, e, h2, h3, h4, h5⟩, hw => by
    simp only [kfrees, Bool.and_eq_true] at hc
    exact ⟨v, vs', Fa, Fb, e, kfree_turn hc.1 h2 (fun b hb => hw b ((h5 b).2 (.inl hb))), kfrees_turn hc.2 h3 (fun b hb => hw b ((h5 b).2 (.inr hb))), h4, h5⟩
end
/-- What lies there, frozen. -/
theorem froz_rep {c1 c2 : Cx} (hle : c1.Le c2) {p : PV} {v : Value} {F : FP} (h : RepV c1 p v F) (hF : ∀ b o v, F b → c1.w.cell? ⟨b, o, none⟩ = some v → c2.K b o v) : RepV c2 (froz p) v Nil := by
  have own : ∀ {p : PV} {v : Value} {F : FP}, RepV c1 p v F → RepV c2 (match owning p with | true => PV.undef | false => p) v Nil := by
    intro p v F h
    cases ho : owning p with
    | true => exact no_none
    | false => exact ((h.noF (h.noown ho)).turn hle (fun _ h => h.elim))
  have one : ∀ {p : PV} {v : Value} {F : FP}, RepV c1 p v F → (∀ b o v, F b → c1.w.cell? ⟨b, o, none⟩ = some v → c2.K b o v) → RepV c2 (froz1 p) v Nil := by
    intro p v F h hF
    unfold froz1
    split
    · rename_i d ty xs
      have := RepC.freeze (t := .l ty) hle.K h hF
      exact this.keep (fun _ _ _ h => h) (fun _ h => h.elim)
    · exact own h
  have many : ∀ {cs : List PV} {vs : List Value} {F : FP}, RepVs c1 cs vs F → (∀ b o v, F b → c1.w.cell? ⟨b, o, none⟩ = some v → c2.K b o v) → RepVs c2 (cs.map froz1) vs Nil := by
    intro cs
    induction cs with
    | nil => intro vs F h _; exact ⟨h.1, no_none⟩
    | cons p ps ih =>
      rintro vs F ⟨v, vs', Fa, Fb, e, h2, h3, h4, h5⟩ hF
      exact ⟨v, vs', Nil, Nil, e, one h2 (fun b o v hb => hF b o v ((h5 b).2 (.inl hb))), ih h3 (fun b o v hb => hF b o v ((h5 b).2 (.inr hb))), fun _ h => h.elim, fun _ => by simp [Nil]⟩
  unfold froz
  split
  · rename_i d ty xs
    have := RepC.freeze (t := .l ty) hle.K h hF
    exact this.keep (fun _ _ _ h => h) (fun _ h => h.elim)
  · obtain ⟨vs, e, h⟩ := h
    exact ⟨vs, e, many h hF⟩
  · exact own h
end
end Go.VI
