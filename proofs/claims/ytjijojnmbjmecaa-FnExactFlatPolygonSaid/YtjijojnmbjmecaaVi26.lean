/-
  An interpreter of the functions of a program as plain functions of lists and numbers, part 28: what it computes is what the program does. No condition but those that its theorems name.
-/
import Derived.Test.YtjijojnmbjmecaaVi25b
set_option linter.unusedVariables false
set_option linter.constructorNameAsVariable false
namespace Go.VI
theorem S0_T (as_ os : List PV) (k : Nat) : S0 as_ os (T k) = ⟨as_.getD k .undef, 0, 0⟩ := by
  show (⟨match Nat.beq (T k % 2) 0 with | true => as_.getD (T k / 2) .undef | false => os.getD (T k / 2) .undef, 0, 0⟩ : Cont) = _
  rw [T_mod, T_div]
theorem S0_O (as_ os : List PV) (k : Nat) : S0 as_ os (O k) = ⟨os.getD k .undef, 0, 0⟩ := by
  show (⟨match Nat.beq (O k % 2) 0 with | true => as_.getD (O k / 2) .undef | false => os.getD (O k / 2) .undef, 0, 0⟩ : Cont) = _
  rw [O_mod, O_div]
theorem CallRes.mono {P : Program} {f : FuncId} {vs : Array Value} {w : World} {R R' : Value → World → Prop} (h : CallRes P f vs w R) (hr : ∀ v w', R v w' → R' v w') : CallRes P f vs w R' := by
  unfold CallRes at h ⊢
  split at h
  · exact hr _ _ h
  · exact h.mono fun e w' ⟨v, h1, h2⟩ => ⟨v, h1, hr _ _ h2⟩
  · exact h.elim
theorem pairwise_get {Fs : List FP} (h : Fs.Pairwise FP.dis) : ∀ (i j : Nat), i ≠ j → (Fs.getD i Nil).dis (Fs.getD j Nil) := by
  have lt : ∀ {Fs : List FP}, Fs.Pairwise FP.dis → ∀ (i j : Nat), i < j → (Fs.getD i Nil).dis (Fs.getD j Nil) := by
    intro Fs
    induction Fs with
    | nil => intro _ i j _ b h; simp [Nil] at h
    | cons F Fs ih =>
      intro h i j hij
      obtain ⟨h1, h2⟩ := List.pairwise_cons.1 h
      cases i with
      | zero =>
        cases j with
        | zero => omega
        | succ j =>
          intro b q1 q2
          rw [List.getD_cons_succ] at q2
          rcases Nat.lt_or_ge j Fs.length with hj | hj
          · rw [List.getD_eq_getElem?_getD, List.getElem?_eq_getElem hj] at q2
            exact h1 _ (List.getElem_mem hj) b q1 q2
          · rw [List.getD_eq_getElem?_getD, List.getElem?_eq_none hj] at q2
            exact q2
      | succ i =>
        cases j with
        | zero => omega
        | succ j => simpa using ih h2 i j (by omega)
  intro i j hne
  rcases Nat.lt_or_gt_of_ne hne with h' | h'
  · exact lt h i j h'
  · exact fun b q1 q2 => lt h j i h' b q2 q1
theorem owns_get {Fs : List FP} {k b : Nat} (h : (Fs.getD k Nil) b) : Owns Fs b := by
  rcases Nat.lt_or_ge k Fs.length with hj | hj
  · rw [List.getD_eq_getElem?_getD, List.getElem?_eq_getElem hj] at h
    exact ⟨_, List.getElem_mem hj, h⟩
  · rw [List.getD_eq_getElem?_getD, List.getElem?_eq_none hj] at h
    exact h.elim
theorem cleans_get : ∀ {ps : List PV} {j : Nat}, cleans ps = true → j < ps.length → clean (ps.getD j .undef) = true
  | [], j, _, h => by simp at h
  | p :: ps, 0, h, _ => by simp only [cleans, Bool.and_eq_true] at h; exact h.1
  | p :: ps, j + 1, h, hl => by
    simp only [cleans, Bool.and_eq_true] at h
    simpa using cleans_get h.2 (by simpa using hl)
theorem kfrees_get : ∀ {ps : List PV} {j : Nat}, kfrees ps = true → j < ps.length → kfree (ps.getD j .undef) = true
  | [], j, _, h => by simp at h
  | p :: ps, 0, h, _ => by simp only [kfrees, Bool.and_eq_true] at h; exact h.1
  | p :: ps, j + 1, h, hl => by
    simp only [kfrees, Bool.and_eq_true] at h
    simpa using kfrees_get h.2 (by simpa using hl)
/-- A place by reference: what the callee gets of it, and what stays. -/
structure OutSp (c : Cx) (subs : List (Loc × Nat)) (q : Loc) (p : PV) (x : Value × FP × FP) : Prop where
  or : (c.Fq q).or x.2.1 x.2.2
  dis : x.2.1.dis x.2.2
  clean : clean p = true
  rep : RepV c p x.1 x.2.1
  whole : subOf q subs = none → x.1 = c.val q
  part : ∀ i, subOf q subs = some i → ∀ b o n cap, c.val q = .slice (some ⟨b, o, none⟩) n cap → c.w.cell? ⟨b, o + i, none⟩ = some x.1
  back : ∀ (c2 : Cx) (v pv : PV) (G : FP), (∀ b o v, c.K b o v → c2.K b o v) → (∀ b, x.2.2 b → c2.w.heap[b]? = c.w.heap[b]?) → InIs subs c.S q v pv → RepV c2 v x.1 G → G.dis x.2.2 → RepV c2 pv (c.val q) (fun b => G b ∨ x.2.2 b)
theorem out_split {c : Cx} {subs : List (Loc × Nat)} {q : Loc} {p : PV} (h : OutIs subs c.S q p) (hr : RepV c (c.S q).pv (c.val q) (c.Fq q)) : ∃ x, OutSp c subs q p x := by
  rcases h with ⟨h1, h2, h3⟩ | ⟨i, d, e, xss, h1, h2, h3, h4⟩
  · refine ⟨(c.val q, c.Fq q, Nil), fun b => by simp [Nil], fun _ _ h => h, h3, by rw [h2]; exact hr, fun _ => rfl, fun i hi => by rw [h1] at hi; simp at hi, ?_⟩
    rintro c2 v pv G hK hw (⟨_, h⟩ | ⟨i, d, e, xss, ys, h, _⟩) hv hd
    · rw [h]
      have : (fun b => G b ∨ Nil b) = G := FP.ext fun b => by simp [Nil]
      rw [this]; exact hv
    · rw [h1] at h; simp at h
  · rw [h2] at hr
    obtain ⟨Fn, Fr, hdr, k1, k2, k3, k4, k5⟩ := elem_split (show RepC c.w c.K (.l (.l e)) (d + 1) xss [c.val q] (c.Fq q) from hr) h3
    refine ⟨(hdr, Fn, Fr), k1, k2, by rw [h4]; rfl, by rw [h4]; exact k3, fun h => by rw [h1] at h; simp at h, fun j hj => ?_, ?_⟩
    · rw [h1] at hj
      obtain rfl := Option.some.inj hj
      exact k4
    · rintro c2 v pv G hK hw (⟨h, _⟩ | ⟨i', d', e', xss', ys, g1, g2, g3, g4⟩) hv hd
      · rw [h1] at h; simp at h
      · rw [h1] at g1
        obtain rfl := Option.some.inj g1
        rw [h2] at g2
        injection g2 with e1 e2 e3
        obtain rfl : d = d' := by omega
        injection e2 with e2
        subst e2
        obtain rfl := eq_of_heq e3
        subst g3 g4
        exact k5 c2.w c2.K ys G hw hK hv hd
section
variable {P : Program} {R : FnRel} {st : Sta} {reg idx : Nat} {Q : Exit → Act → World → Prop} {B : Base} {K : Act → World → Prop} {c : Cx} {a : Act} {s' : St} {t : Tr} {o : Oper}
theorem call_ok (hR : FnOk P R) {f : FuncId} {front : List PV} {fvs : List Value} {args : List (Operand × TypeId)} {caps : List PV} {cvs : List Value} (hI : InvF B st.n c a Nil) (hfront : RepVs c front fvs Nil) (hcaps : RepVs c caps cvs Nil) (hK : ∀ a' w', Inv B st.n s' a' w' → K a' w')
    (h : (callM st f front args caps (putM st o.dst)).Ex R c.S () s' t) : CallRes P f (fvs ++ ((args.map fun x => a.eval x.1) ++ cvs)).toArray c.w (fun v w' => K (a.put o.dst v) w') := by
  unfold callM at h
  obtain ⟨l, t1, c1, Fs, h1, hle1, hw1, hk1, hr1, hp1, -, hI1⟩ := evalA_ex args _ hI h
  rw [nil_or] at hI1
  have hcaps1 := hcaps.turn hle1 (fun _ _ => by rw [hw1])
  have hfront1 := hfront.turn hle1 (fun _ _ => by rw [hw1])
  obtain ⟨fs, acc0, t1', h1', le0, ok0, e0⟩ := convs_ex front hfront1 hI1.rep ⟨List.nodup_nil, List.nodup_nil, fun _ _ => rfl⟩ h1
  obtain ⟨as_, acc1, t2, h2, le1, ok1, len1, e1⟩ := convA_ex hI1.rep hI1.holds l hr1 ok0 h1'
  obtain ⟨cs, acc2, t3, h3, le2, ok2, e2⟩ := convs_ex caps hcaps1 hI1.rep ok1 h2
  obtain ⟨hap, h4⟩ := guardM_ex h3
  obtain ⟨os, t4, h5, hosl, hOut⟩ := outsM_ex acc2.refs h4
  obtain ⟨r, os', hrel, h6⟩ := h5
  obtain ⟨s1, t5, h7, ht1, hlen, hpv⟩ := backM_ex _ _ ok2.refs h6
  obtain ⟨hcr, hco, hfn⟩ := hR f _ _ r os' hrel
  have hapart : ∀ q ∈ acc2.bors, q ∉ acc2.refs := by
    intro q hq hm
    unfold apartB at hap
    rw [List.all_eq_true] at hap
    have := hap q hq
    simp only [Bool.not_eq_true', List.any_eq_false] at this
    exact this q hm (Nat.beq_refl q)
  have hch : ∀ j, ∃ x : Value × FP × FP, ∀ q, acc2.refs[j]? = some q → OutSp c1 acc2.subs q (os.getD j .undef) x := by
    intro j
    cases hj : acc2.refs[j]? with
    | none => exact ⟨(undef, Nil, Nil), fun q h => by simp at h⟩
    | some q =>
      obtain ⟨x, hx⟩ := out_split (hOut j q hj) (hI1.rep q)
      exact ⟨x, fun q' h => by obtain rfl := Option.some.inj h; exact hx⟩
  obtain ⟨sp, hsp⟩ := Classical.axiomOfChoice hch
  let cE : Cx := { S := S0 (fs ++ (as_ ++ cs)) os, w := c1.w, K := fun b o v => c1.K b o v ∨ ∃ q ∈ acc2.bors, c1.Fq q b ∧ c1.w.cell? ⟨b, o, none⟩ = some v,
                   val := fun l => match Nat.beq (l % 2) 0 with | true => (fvs ++ ((args.map fun x => a.eval x.1) ++ cvs)).getD (l / 2) undef | false => (sp (l / 2)).1,
                   Fq := fun l => match Nat.beq (l % 2) 0 with | true => (List.replicate fs.length Nil ++ (Fs ++ List.replicate cs.length Nil)).getD (l / 2) Nil | false => match acc2.refs[l / 2]? with | some q => (sp (l / 2)).2.1 | none => Nil }
  have vT : ∀ k, cE.val (T k) = (fvs ++ ((args.map fun x => a.eval x.1) ++ cvs)).getD k undef := fun k => by simp only [cE, T_mod, T_div]
  have vO : ∀ (j : Nat), cE.val (O j) = (sp j).1 := fun j => by simp only [cE, O_mod, O_div]
  have fT : ∀ k, cE.Fq (T k) = (List.replicate fs.length Nil ++ (Fs ++ List.replicate cs.length Nil)).getD k Nil := fun k => by simp only [cE, T_mod, T_div]
  have fO : ∀ (j : Nat) (q : Loc), acc2.refs[j]? = some q → cE.Fq (O j) = (sp j).2.1 := fun j q h => by simp only [cE, O_mod, O_div, h]
  have fO0 : ∀ j, acc2.refs[j]? = none → cE.Fq (O j) = Nil := fun j h => by simp only [cE, O_mod, O_div, h]
  have hCE : CE c1 acc2 cE := ⟨rfl, fun b o v h => .inl h, fun q hq b o v h1 h2 => .inr ⟨q, hq, h1, h2⟩, fun j q hj hs => ⟨(vO j).trans ((hsp j q hj).whole hs), by show (S0 _ _ (O j)).ig = 0; rw [S0_O]⟩, fun j q i hj hs => ⟨fun b o n cap hv => by rw [vO j]; exact (hsp j q hj).part i hs b o n cap hv, by show (S0 _ _ (O j)).ig = 0; rw [S0_O]⟩⟩
  have hFsub : ∀ (j : Nat) (q : Loc) (b : Nat), acc2.refs[j]? = some q → (sp j).2.1 b → c1.Fq q b := fun j q b hj h => ((hsp j q hj).or b).2 (.inl h)
  have hargs := (ArgE.of_rep (e0 cE ((hCE.anti le2).anti le1))).append ((e1 cE (hCE.anti le2)).append (ArgE.of_rep (e2 cE hCE)))
  have hFs0 : ∀ k b, (List.replicate fs.length Nil ++ (Fs ++ List.replicate cs.length Nil)).getD k Nil b → Owns Fs b := by
    intro k b hb
    rcases Nat.lt_or_ge k fs.length with hk | hk
    · rw [List.getD_eq_getElem?_getD, List.getElem?_append_left (by simpa using hk), List.getElem?_replicate] at hb
      split at hb <;> exact hb.elim
    rw [List.getD_eq_getElem?_getD, List.getElem?_append_right (by simpa using hk), ← List.getD_eq_getElem?_getD] at hb
    generalize k - (List.replicate fs.length Nil).length = k at hb
    rcases Nat.lt_or_ge k Fs.length with hk | hk
    · rw [List.getD_eq_getElem?_getD, List.getElem?_append_left hk, ← List.getD_eq_getElem?_getD] at hb
      exact owns_get hb
    · rw [List.getD_eq_getElem?_getD, List.getElem?_append_right hk, List.getElem?_replicate] at hb
      split at hb <;> exact hb.elim
  have hpw : (List.replicate fs.length Nil ++ (Fs ++ List.replicate cs.length Nil)).Pairwise FP.dis := by
    rw [List.pairwise_append]
    refine ⟨?_, ?_, fun F hF G _ b h1 _ => ?_⟩
    · rw [List.pairwise_replicate]; exact .inr (fun b h => h.elim)
    rotate_left
    · rw [List.eq_of_mem_replicate hF] at h1; exact h1
    rw [List.pairwise_append]
    refine ⟨hp1, ?_, fun F _ G hG b _ h2 => ?_⟩
    · rw [List.pairwise_replicate]; exact .inr (fun b h => h.elim)
    · rw [List.eq_of_mem_replicate hG] at h2; exact h2
  have hEA : ∀ b l, cE.Fq l b → Owns Fs b ∨ ∃ (j : Nat) (q : Loc), acc2.refs[j]? = some q ∧ cE.Fq (O j) b := by
    intro b l hb
    rcases loc_cases l with ⟨k, rfl⟩ | ⟨j, rfl⟩
    · rw [fT] at hb; exact .inl (hFs0 k b hb)
    · cases hj : acc2.refs[j]? with
      | none => rw [fO0 j hj] at hb; exact hb.elim
      | some q => exact .inr ⟨j, q, hj, hb⟩
  have hEq : ∀ (j : Nat) (q : Loc) (b : Nat), acc2.refs[j]? = some q → cE.Fq (O j) b → c1.Fq q b := fun j q b hj h => hFsub j q b hj (by rw [fO j q hj] at h; exact h)
  have hEown : ∀ b l, cE.Fq l b → Owned c1 (Owns Fs) b := fun b l h => (hEA b l h).elim .inr (fun ⟨j, q, hj, h⟩ => .inl ⟨q, hEq j q b hj h⟩)
  have hentry : Entry cE := {
    rep := by
      intro l
      rcases loc_cases l with ⟨k, rfl⟩ | ⟨j, rfl⟩
      · rw [vT, fT]
        have e : (cE.S (T k)).pv = (fs ++ (as_ ++ cs)).getD k .undef := by show (S0 _ _ (T k)).pv = _; rw [S0_T]
        rw [e]; exact hargs.get k
      · have e : (cE.S (O j)).pv = os.getD j .undef := by show (S0 _ _ (O j)).pv = _; rw [S0_O]
        rw [e]
        cases hj : acc2.refs[j]? with
        | none =>
          have hge : os.length ≤ j := by
            rcases Nat.lt_or_ge j acc2.refs.length with hh | hh
            · rw [List.getElem?_eq_getElem hh] at hj; simp at hj
            · rw [hosl]; exact hh
          rw [fO0 j hj, List.getD_eq_getElem?_getD, List.getElem?_eq_none hge]
          exact no_none
        | some q =>
          rw [fO j q hj, vO j]
          exact clean_turn hCE.K (hsp j q hj).clean (hsp j q hj).rep (fun _ _ => rfl)
    dis := by
      intro l l' hne
      rcases loc_cases l with ⟨k, rfl⟩ | ⟨j, rfl⟩ <;> rcases loc_cases l' with ⟨k', rfl⟩ | ⟨j', rfl⟩
      · rw [fT, fT]
        exact pairwise_get hpw k k' (fun e => hne (by rw [e]))
      · rw [fT]
        intro b q1 q2
        cases hj : acc2.refs[j']? with
        | none => rw [fO0 j' hj] at q2; exact q2
        | some q => exact hI1.disF q b (hFs0 k b q1) (hEq j' q b hj q2)
      · rw [fT]
        intro b q2 q1
        cases hj : acc2.refs[j]? with
        | none => rw [fO0 j hj] at q2; exact q2
        | some q => exact hI1.disF q b (hFs0 k' b q1) (hEq j q b hj q2)
      · intro b q1 q2
        cases hj : acc2.refs[j]? with
        | none => rw [fO0 j hj] at q1; exact q1
        | some q =>
          replace q1 := hEq j q b hj q1
          cases hj' : acc2.refs[j']? with
          | none => rw [fO0 j' hj'] at q2; exact q2
          | some q' =>
            replace q2 := hEq j' q' b hj' q2
            refine hI1.dis q q' (fun e => ?_) b q1 q2
            subst e
            have hlt : j < acc2.refs.length := by
              rcases Nat.lt_or_ge j acc2.refs.length with hh | hh
              · exact hh
              · rw [List.getElem?_eq_none hh] at hj; simp at hj
            have := (List.getElem?_inj (j := j') hlt ok2.refs).1 (hj.trans hj'.symm)
            exact hne (by rw [this])
    holds := by
      rintro b o v (h | ⟨q, _, _, h⟩)
      · exact hI1.holds b o v h
      · exact h
    kdis := by
      rintro b o v l hb (h | ⟨q, hq, h, _⟩)
      · exact hI1.kdis b o v (hEown b l hb) h
      · rcases hEA b l hb with g | ⟨j', q', hq', g⟩
        · exact hI1.disF q b g h
        · exact hI1.dis q q' (fun e => hapart q hq (e ▸ List.mem_of_getElem? hq')) b h (hEq j' q' b hq' g)
    bound := fun b l hb => hI1.bound b (hEown b l hb) }
  have hlenA := hargs.len
  have hres := hfn cE (fvs ++ ((args.map fun x => a.eval x.1) ++ cvs)).toArray rfl hentry (by
    rw [List.size_toArray]; exact hlenA.1) (fun k => by rw [vT, List.getD_eq_getElem?_getD, Array.getD_eq_getD_getElem?]; simp)
  have hres : CallRes P f (fvs ++ ((args.map fun x => a.eval x.1) ++ cvs)).toArray c.w (fun v w' => ∃ c' Fr, c'.w = w' ∧ Left cE os.length os' r v c' Fr) := by
    rw [← hw1]; exact hres
  refine hres.mono ?_
  rintro v w'' ⟨c', Fr, rfl, hL⟩
  rw [hosl] at hL
  have hjlt : ∀ (j : Nat) (q : Loc), acc2.refs[j]? = some q → j < acc2.refs.length := fun j q h => by
    rcases Nat.lt_or_ge j acc2.refs.length with hh | hh
    · exact hh
    · rw [List.getElem?_eq_none hh] at h; simp at h
  have hinj : ∀ (i j : Nat) (q : Loc), acc2.refs[i]? = some q → acc2.refs[j]? = some q → i = j := fun i j q h1 h2 => (List.getElem?_inj (j := j) (hjlt i q h1) ok2.refs).1 (h1.trans h2.symm)
  let rest : Loc → FP := fun q b => ∃ j, acc2.refs[j]? = some q ∧ (sp j).2.2 b
  have hrest : ∀ (j : Nat) (q : Loc), acc2.refs[j]? = some q → rest q = (sp j).2.2 := fun j q hj => FP.ext fun b => ⟨fun ⟨i, h1, h2⟩ => by rw [hinj i j q h1 hj] at h2; exact h2, fun h => ⟨j, hj, h⟩⟩
  have hEO : ∀ (j : Nat) (q : Loc), acc2.refs[j]? = some q → (c1.Fq q).or (cE.Fq (O j)) (rest q) ∧ (cE.Fq (O j)).dis (rest q) := fun j q hj => by
    rw [hrest j q hj, fO j q hj]
    exact ⟨(hsp j q hj).or, (hsp j q hj).dis⟩
  split at h7
  · rename_i hkf
    rw [Bool.and_eq_true] at hkf
    obtain ⟨c2, g1, g2, g3, g4⟩ := call_inv (bors := acc2.bors) (X := fun _ => False) (K2 := fun b o v => c'.K b o v ∧ ¬ ∃ q ∈ acc2.bors, c1.Fq q b) (S2 := s1) hI1 hL ok2.refs hapart rfl (fun b o v => Iff.rfl) (rest := rest) hEO hEA
      (fun l h => h.elim) (fun b o v h => h.1) (fun b o v h => ⟨hL.K b o v (.inl h), fun ⟨q, _, hq⟩ => hI1.kdis b o v (.inl ⟨q, hq⟩) h⟩) (fun l b o v hl _ hb h => h.2 ⟨l, hl, hb⟩) (fun l b o v h => h.elim)
      (fun l hl _ => ht1.out l hl) ht1.ig (fun l hl => hl.elim (ht1.cg l) (fun h => h.elim)) (new := fun q => (s1 q).pv) (fun j q hj => rfl) (fun l h => h.elim)
      (fun c2 j q hk hw hj hrw hrd => by
        have hlt := hjlt j q hj
        have := hL.out j hlt
        rw [vO j] at this
        rw [hrest j q hj] at hrw hrd ⊢
        exact (hsp j q hj).back c2 _ _ _ (fun b o v h => by rw [hk]; exact ⟨hL.K b o v (.inl h), fun ⟨q, _, hq⟩ => hI1.kdis b o v (.inl ⟨q, hq⟩) h⟩) (fun b hb => by rw [hw]; exact hrw b hb) (hpv j q hj) (kfree_turn (kfrees_get hkf.2 (by omega)) this (fun _ _ => by rw [hw])) hrd)
    have hrr : RepV c2 r v Fr := kfree_turn hkf.1 hL.ret (fun _ _ => by rw [g2])
    have := put_done hK g4 hrr (fun _ h => h) (by rw [g1]; exact h7)
    rw [g2] at this
    exact this
  · obtain ⟨s2, t6, h8, ht2, hfz⟩ := freezeM_ex _ ok2.bors h7
    obtain ⟨c2, g1, g2, g3, g4⟩ := call_inv (bors := acc2.bors) (X := fun l => l ∈ acc2.bors) (K2 := c'.K) (S2 := s2) hI1 hL ok2.refs hapart rfl (fun b o v => Iff.rfl) (rest := rest) hEO hEA
      (fun l h => h) (fun b o v h => h) (fun b o v h => hL.K b o v (.inl h)) (fun l b o v hl hn => (hn hl).elim) (fun l b o v hl hb hc => hL.K b o v (.inr ⟨l, hl, hb, hc⟩))
      (fun l hl hx => by rw [ht2.out l hx, ht1.out l hl]) (fun l => by rw [ht2.ig l, ht1.ig l]) (fun l hl => by
        rcases hl with hl | hl
        · rw [ht2.out l (fun h => hapart l h hl)]; exact ht1.cg l hl
        · have := ht2.cg l hl
          rwa [ht1.out l (hapart l hl)] at this)
      (new := fun q => (s1 q).pv) (fun j q hj => by rw [ht2.out q (fun h => hapart q h (List.mem_of_getElem? hj))]) (fun l hl => by rw [hfz l hl, ht1.out l (hapart l hl)])
      (fun c2 j q hk hw hj hrw hrd => by
        have hlt := hjlt j q hj
        have := hL.out j hlt
        rw [vO j] at this
        rw [hrest j q hj] at hrw hrd ⊢
        exact (hsp j q hj).back c2 _ _ _ (fun b o v h => by rw [hk]; exact hL.K b o v (.inl h)) (fun b hb => by rw [hw]; exact hrw b hb) (hpv j q hj) (clean_turn (fun b o v h => by rw [hk]; exact h) (cleans_get hco (by omega)) this (fun _ _ => by rw [hw])) hrd)
    have hrr : RepV c2 r v Fr := clean_turn (fun b o v h => by rw [g3]; exact h) hcr hL.ret (fun _ _ => by rw [g2])
    have := put_done hK g4 hrr (fun _ h => h) (by rw [g1]; exact h8)
    rw [g2] at this
    exact this
theorem call_wp {f : FuncId} {cl : Call} {first caps : Array Value} {w : World} {x : Operand} (ho : o.op = .call cl) (hc : cl.callee = .value x) (hx : a.eval x = .func (.func f) first caps)
    (h : CallRes P f (first ++ cl.args.map a.eval ++ caps) w (fun v w' => K (a.put o.dst v) w')) : o.wp P a w K Q := by
  unfold Oper.wp
  have hrun : (execOp a.eval o).run P w = (callFunc f (first ++ cl.args.map a.eval ++ caps)).run P w := by
    unfold execOp
    rw [ho]
    simp only [resolve, hc, hx, Deferred.ofValue, Sem.run_bind, Sem.run_pure, Result.andThen_ok, invoke]
  rw [hrun]
  unfold CallRes at h
  split at h
  · rename_i v w' e
    rw [e]; exact h
  · rename_i f' args' w' e
    rw [e]
    exact h.mono fun e w'' ⟨v, h1, h2⟩ => by subst h1; exact h2
  · exact h.elim
theorem op_call (hR : FnOk P R) {cl : Call} {x : Operand} (ho : o.op = .call cl) (hc : cl.callee = .value x) (hsz : cl.args.size = cl.argTypes.size) (hI : InvF B st.n c a Nil) (hK : ∀ a' w', Inv B st.n s' a' w' → K a' w')
    (h : (match cl.callee with
      | .value (.func f) => callM st f [] (cl.args.toList.zip cl.argTypes.toList) [] (putM st o.dst)
      | .value x => rb st.τ 0 x fun v => match v with
        | .clo f caps => callM st f [] (cl.args.toList.zip cl.argTypes.toList) caps (putM st o.dst)
        | .bnd f front => callM st f front (cl.args.toList.zip cl.argTypes.toList) [] (putM st o.dst)
        | _ => .fail
      | _ => .fail : M Unit).Ex R c.S () s' t) : o.wp P a c.w K Q := by
  have hm := zip_map (f := a.eval) (xs := cl.args.toList) (ts := cl.argTypes.toList) rfl (by simpa using Nat.le_of_eq hsz)
  have hargs : ∀ fvs cvs : List Value, (fvs ++ (((cl.args.toList.zip cl.argTypes.toList).map fun x => a.eval x.1) ++ cvs)).toArray = fvs.toArray ++ cl.args.map a.eval ++ cvs.toArray := by
    intro fvs cvs
    rw [hm]
    apply Array.ext'
    simp
  have clo : ∀ {y : Operand} {s1 : St} {t1 : Tr}, cl.callee = .value y → (rb st.τ 0 y fun v => match v with
        | .clo f caps => callM st f [] (cl.args.toList.zip cl.argTypes.toList) caps (putM st o.dst)
        | .bnd f front => callM st f front (cl.args.toList.zip cl.argTypes.toList) [] (putM st o.dst)
        | _ => .fail).Ex R c.S () s' t1 → o.wp P a c.w K Q := by
    intro y s1 t1 hy h
    obtain ⟨p, t2, h2, hr⟩ := rb_ex hI h
    split at h2
    · rename_i f caps
      obtain ⟨_, vs, e, hrs⟩ := hr
      have := call_ok (P := P) hR hI (front := []) (fvs := []) ⟨rfl, no_none⟩ hrs hK h2
      rw [hargs] at this
      exact call_wp ho hy e (by simpa using this)
    · rename_i f front
      obtain ⟨_, vs, e, hrs⟩ := hr
      have := call_ok (P := P) hR hI hrs (caps := []) (cvs := []) ⟨rfl, no_none⟩ hK h2
      rw [hargs] at this
      exact call_wp ho hy e (by simpa using this)
    · exact h2.elim
  rw [hc] at h
  cases x with
  | func f =>
    have := call_ok (P := P) hR hI (front := []) (fvs := []) ⟨rfl, no_none⟩ (caps := []) (cvs := []) ⟨rfl, no_none⟩ hK h
    rw [hargs] at this
    exact call_wp (first := #[]) ho hc (caps := #[]) rfl (by simpa using this)
  | tmp n => exact clo (s1 := c.S) hc h
  | const v => exact clo (s1 := c.S) hc h
  | global g => exact clo (s1 := c.S) hc h
end
end Go.VI
