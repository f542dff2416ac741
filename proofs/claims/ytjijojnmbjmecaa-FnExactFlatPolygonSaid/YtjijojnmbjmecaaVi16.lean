/-
  An interpreter of the functions of a program as plain functions of lists and numbers, part 16: what it computes is what the program does. No condition but those that its theorems name.
-/
import Derived.Test.YtjijojnmbjmecaaVi15
set_option linter.unusedVariables false
set_option linter.constructorNameAsVariable false
namespace Go.VI
theorem Elems.cut {α : Type} {R : α → List Value → FP → Prop} {k : Nat} (hR : ∀ x vs F, R x vs F → vs.length = k) {xs : List α} {vs : List Value} {F : FP} (h : Elems R xs vs F) {L H : Nat} (hLH : L ≤ H) (hH : H ≤ xs.length) :
    ∃ F', (∀ b, F' b → F b) ∧ Elems R ((xs.take H).drop L) ((vs.take (H * k)).drop (L * k)) F' := by
  obtain ⟨Fa, Fb, g1, g2, g3, g4⟩ := h.split hR H hH
  obtain ⟨Ga, Gb, k1, k2, k3, k4⟩ := g1.split hR L (by simp; omega)
  exact ⟨Gb, fun b hb => (g4 b).2 (.inl ((k4 b).2 (.inr hb))), k2⟩
section
variable {P : Program} {R : FnRel} {st : Sta} {reg idx : Nat} {Q : Exit → Act → World → Prop} {B : Base} {K : Act → World → Prop} {c : Cx} {a : Act} {s' : St} {t : Tr} {o : Oper}
/-- A bound that is there or not. -/
def IsB (v : Option Value) (x : Option Int) : Prop := match x with
  | none => v = none
  | some n => ∃ k, v = some (.int k n)
theorem optInt_ex {F : FP} (hI : InvF B st.n c a F) {α : Type} {x : Option Operand} {k : Option Int → M α} {y : α} (h : (optInt st x k).Ex R c.S y s' t) : ∃ n t', (k n).Ex R c.S y s' t' ∧ IsB (x.map a.eval) n := by
  cases x with
  | none => exact ⟨none, t, h, rfl⟩
  | some op =>
    unfold optInt at h
    obtain ⟨p, t', h1, hr⟩ := rb_ex hI h
    split at h1
    · rename_i j n
      exact ⟨some n, t', h1, j, by simp [hr.1]⟩
    · exact h1.elim
theorem run_bound {k : IntKind} {i : Int} {y : Nat} {code : BoundsCode} (h0 : 0 ≤ i) (h1 : i ≤ (y : Int)) (w : World) : (Instr.sliceBound (.int k i) y code).run P w = .ok i.toNat w := by
  unfold Instr.sliceBound
  simp [asIntOf, h0, h1]
def lowOf (l : Option Int) : Nat := match l with | none => 0 | some a => a.toNat
def highOf (h : Option Int) (n : Nat) : Nat := match h with | none => n | some b => b.toNat
theorem okCut_ex {α : Type} {l h : Option Int} {n : Nat} {z : M α} {s : St} {y : α} (hx : (okCut l h n z).Ex R s y s' t) : (∃ t', z.Ex R s y s' t') ∧ lowOf l ≤ highOf h n ∧ highOf h n ≤ n ∧
    (∀ a, l = some a → 0 ≤ a) ∧ (∀ b, h = some b → 0 ≤ b) := by
  unfold okCut at hx
  cases l with
  | none => cases h with
    | none => exact ⟨⟨t, hx⟩, by simp [lowOf], by simp [highOf], by simp, by simp⟩
    | some b =>
      obtain ⟨g, hx⟩ := br_fail hx
      simp only [Bool.and_eq_true, decide_eq_true_eq] at g
      exact ⟨⟨t, hx⟩, by simp [lowOf], by simp only [highOf]; omega, by simp, by simp; omega⟩
  | some a => cases h with
    | none =>
      obtain ⟨g, hx⟩ := br_fail hx
      simp only [Bool.and_eq_true, decide_eq_true_eq] at g
      exact ⟨⟨t, hx⟩, by simp only [lowOf, highOf]; omega, by simp [highOf], by simp; omega, by simp⟩
    | some b =>
      obtain ⟨g, hx⟩ := br_fail hx
      simp only [Bool.and_eq_true, decide_eq_true_eq] at g
      exact ⟨⟨t, hx⟩, by simp only [lowOf, highOf]; omega, by simp only [highOf]; omega, by simp; omega, by simp; omega⟩
theorem cutTo_eq {α : Type} (l h : Option Int) (xs : List α) : cutTo l h xs = (xs.take (highOf h xs.length)).drop (lowOf l) := by
  cases l <;> cases h <;> simp [cutTo, lowOf, highOf]
theorem run_bounds {isS : Bool} {len cap : Nat} {lo hi : Option Value} {l h : Option Int} (hl : IsB lo l) (hh : IsB hi h) (h1 : lowOf l ≤ highOf h len) (h2 : highOf h len ≤ cap) (h3 : ∀ a, l = some a → 0 ≤ a) (h4 : ∀ b, h = some b → 0 ≤ b) (w : World) :
    (Instr.sliceBounds isS len cap lo hi none).run P w = .ok (lowOf l, highOf h len, cap) w := by
  unfold Instr.sliceBounds
  cases h with
  | none =>
    have : hi = none := hh
    subst this
    cases l with
    | none =>
      have : lo = none := hl
      subst this
      simp [lowOf, highOf]
    | some a =>
      obtain ⟨k, rfl⟩ := hl
      simp only [lowOf, highOf] at h1 h2 ⊢
      have := h3 a rfl
      simp only [Sem.run_bind, Sem.run_pure, Result.andThen_ok]
      rw [run_bound this (by omega)]
      rfl
  | some b =>
    obtain ⟨k, rfl⟩ := hh
    have hb := h4 b rfl
    simp only [highOf] at h1 h2 ⊢
    cases l with
    | none =>
      have : lo = none := hl
      subst this
      simp only [Sem.run_bind, Sem.run_pure, Result.andThen_ok]
      rw [run_bound hb (by omega)]
      rfl
    | some a =>
      obtain ⟨k2, rfl⟩ := hl
      have ha := h3 a rfl
      simp only [lowOf] at h1 ⊢
      simp only [Sem.run_bind, Sem.run_pure, Result.andThen_ok]
      rw [run_bound hb (by omega), Result.andThen_ok, run_bound ha (by omega)]
      rfl
theorem run_bounds3 {len cap : Nat} {lo hi mx : Option Value} {l : Option Int} {b : Int} (hl : IsB lo l) (hh : IsB hi (some b)) (hm : IsB mx (some b)) (h1 : lowOf l ≤ b.toNat) (h2 : b.toNat ≤ cap) (h3 : ∀ a, l = some a → 0 ≤ a) (h4 : 0 ≤ b) (w : World) :
    (Instr.sliceBounds true len cap lo hi mx).run P w = .ok (lowOf l, b.toNat, b.toNat) w := by
  unfold Instr.sliceBounds
  obtain ⟨k, rfl⟩ := hh
  obtain ⟨k', rfl⟩ := hm
  simp only [Sem.run_bind]
  rw [run_bound h4 (by omega), Result.andThen_ok, run_bound h4 (by omega), Result.andThen_ok]
  cases l with
  | none =>
    have : lo = none := hl
    subst this
    rfl
  | some a =>
    obtain ⟨k2, rfl⟩ := hl
    have ha := h3 a rfl
    simp only [lowOf] at h1 ⊢
    simp only [Sem.run_bind]
    rw [run_bound ha (by omega)]
    rfl
theorem run_slice (hS : StOk P st) {ty : TypeId} {e : Ty} (he : elB st ty e = true) {ad : Option Addr} {n cap : Nat} {lo hi mx : Option Value} {l h m : Nat} {w : World}
    (hb : (Instr.sliceBounds true n cap lo hi mx).run P w = .ok (l, h, m) w) : (Instr.sliceAt ty (.slice ad n cap) lo hi mx).run P w = .ok (.slice (if m = l then ad else ad.map (·.add (l * e.sz))) (h - l) (m - l)) w := by
  obtain ⟨el, te, h1, h2, h3, h4, _⟩ := elB_ok hS he
  unfold Instr.sliceAt
  rw [Sem.run_bind, run_underlying h1, Result.andThen_ok]
  unfold Instr.slice
  simp only [Sem.run_bind, run_underlying h1, Result.andThen_ok, hb, run_sizeOf hS h2, Sem.run_pure, h3]
theorem drop_take_arr {L : List Value} {o len sz l h : Nat} (hlh : l ≤ h) (hh : h ≤ len) : ((((L.drop o).take (len * sz)).take (h * sz)).drop (l * sz)) = (L.drop (o + l * sz)).take ((h - l) * sz) := by
  have h1 : h * sz ≤ len * sz := Nat.mul_le_mul_right _ hh
  have h2 : l * sz ≤ h * sz := Nat.mul_le_mul_right _ hlh
  rw [List.take_take, Nat.min_eq_left h1, List.drop_take, List.drop_drop, Nat.sub_mul]
/-- A stretch of a slice: known, or owned. -/
theorem RepC.cut {w : World} {K : Kn} {e : Ty} {d : Nat} {xs : List e.D} {ad : Option Addr} {cap : Nat} {F : FP} (hr : RepC w K (.l e) d xs [.slice ad xs.length cap] F) {L H m : Nat} (hLH : L ≤ H) (hH : H ≤ xs.length) (hHm : H ≤ m) (hm : m ≤ cap) :
    ∃ F', (∀ b, F' b → F b) ∧ RepC w K (.l e) d ((xs.take H).drop L) [.slice (if m = L then ad else ad.map (·.add (L * e.sz))) (H - L) (m - L)] F' := by
  obtain ⟨ad', cap', h1, h2, h3⟩ := hr
  simp only [List.cons.injEq, and_true, Value.slice.injEq] at h1
  obtain ⟨rfl, _, rfl⟩ := h1
  have hl' : ((xs.take H).drop L).length = H - L := by simp; omega
  have hnil : m = L → (xs.take H).drop L = [] := fun e => by apply List.length_eq_zero_iff.1; omega
  cases d with
  | zero =>
    obtain ⟨h4, h5⟩ := h3
    refine ⟨Nil, fun b hb => hb.elim, _, _, by rw [hl'], by omega, no_none, ?_⟩
    rcases h5 with h5 | ⟨b, x, cs, g1, g2, g3⟩
    · exact .inl (by subst h5; simp)
    · by_cases hmL : m = L
      · exact .inl (hnil hmL)
      · obtain ⟨F', k1, k2⟩ := g3.cut (fun x vs F h => RepC.len h) hLH hH
        rw [FP.eq_of_none (fun b hb => k1 b hb)] at k2
        refine .inr ⟨b, x + L * e.sz, _, by rw [if_neg hmL, g1]; simp [add_addr], fun j v hv => ?_, k2⟩
        rw [List.getElem?_drop, List.getElem?_take] at hv
        split at hv
        · have := g2 _ _ hv; rwa [← Nat.add_assoc] at this
        · simp at hv
  | succ d =>
    rcases h3 with ⟨h4, h5, h6⟩ | ⟨b, x, arr, ty, F', g1, g2, g3, g4, g5, g6⟩
    · subst h4
      refine ⟨Nil, fun b hb => hb.elim, _, _, by rw [hl'], by omega, .inl ⟨by simp, by omega, no_none⟩⟩
    · by_cases hmL : m = L
      · exact ⟨Nil, fun b hb => hb.elim, _, _, by rw [hl'], by omega, .inl ⟨hnil hmL, by omega, no_none⟩⟩
      · obtain ⟨F'', k1, k2⟩ := g4.cut (fun x vs F h => RepC.len h) hLH hH
        rw [drop_take_arr hLH hH] at k2
        refine ⟨fun a => a = b ∨ F'' a, fun a ha => (g6 a).2 (ha.imp id (k1 a)), _, _, by rw [hl'], by omega, .inr ⟨b, x + L * e.sz, arr, ty, F'', by rw [if_neg hmL, g1]; simp [add_addr], g2, ?_, by rw [hl']; exact k2, fun h => g5 (k1 _ h), fun _ => Iff.rfl⟩⟩
        have : L * e.sz + (m - L) * e.sz ≤ cap * e.sz := by rw [← Nat.add_mul]; exact Nat.mul_le_mul_right _ (by omega)
        omega
theorem RepR.cut {K1 K0 : Kn} {e : Ty} {d : Nat} {xs : List e.D} {ad : Option Addr} {cap : Nat} (hr : RepR K1 K0 (.l e) d xs [.slice ad xs.length cap]) {L H m : Nat} (hLH : L ≤ H) (hH : H ≤ xs.length) (hHm : H ≤ m) (hm : m ≤ cap) :
    RepR K1 K0 (.l e) d ((xs.take H).drop L) [.slice (if m = L then ad else ad.map (·.add (L * e.sz))) (H - L) (m - L)] := by
  obtain ⟨ad', cap', h1, h2, h5⟩ := hr
  simp only [List.cons.injEq, and_true, Value.slice.injEq] at h1
  obtain ⟨rfl, _, rfl⟩ := h1
  have hl' : ((xs.take H).drop L).length = H - L := by simp; omega
  have hnil : m = L → (xs.take H).drop L = [] := fun e => by apply List.length_eq_zero_iff.1; omega
  refine ⟨_, _, by rw [hl'], by omega, ?_⟩
  rcases h5 with h5 | ⟨b, x, cs, g1, g2, g3⟩
  · exact .inl (by subst h5; simp)
  · by_cases hmL : m = L
    · exact .inl (hnil hmL)
    · obtain ⟨F', k1, k2⟩ := g3.cut (fun x vs F h => RepR.len h.1) hLH hH
      rw [FP.eq_of_none (fun b hb => k1 b hb)] at k2
      refine .inr ⟨b, x + L * e.sz, _, by rw [if_neg hmL, g1]; simp [add_addr], fun j v hv => ?_, k2⟩
      rw [List.getElem?_drop, List.getElem?_take] at hv
      split at hv
      · have := g2 _ _ hv; rwa [← Nat.add_assoc] at this
      · simp at hv
theorem extract_list (s : List UInt8) (l h : Nat) : (⟨s.toArray⟩ : ByteArray).extract l h = ⟨((s.take h).drop l).toArray⟩ := by
  apply ByteArray.ext
  rw [ByteArray.data_extract]
  apply Array.ext'
  rw [Array.toList_extract, List.extract_eq_take_drop, List.drop_take]
theorem isStr_ok (hS : StOk P st) {ty : TypeId} (h : isStr st ty = true) : P.underlying ty = some .string := by
  unfold isStr at h
  split at h
  · rename_i sz ty' ag by_ heq
    obtain ⟨d, h1, h2, h3⟩ := (hS.tau _ _ heq).desc
    rw [h1]; exact congrArg some h3.1
  · simp at h
theorem op_slice (hS : StOk P st) {ty : TypeId} {x : Operand} {lo hi mx : Option Operand} (ho : o.op = .slice ty x lo hi mx) (hI : InvF B st.n c a Nil) (hK : ∀ a' w', Inv B st.n s' a' w' → K a' w')
    (h : (opM st reg idx o (putM st o.dst)).Ex R c.S () s' t) : o.wp P a c.w K Q := by
  unfold opM at h
  rw [ho] at h
  dsimp only at h
  obtain ⟨p, t1, c1, F1, h1, hle1, hw1, hk1, hr, _, hI1⟩ := ro_ex hI h
  rw [nil_or] at hI1
  obtain ⟨hal, t2, h2⟩ := liveM_ex h1
  unfold sliceM at h2
  obtain ⟨l, t3, h3, hl⟩ := optInt_ex hI1 h2
  obtain ⟨hh, t4, h4, hhi⟩ := optInt_ex hI1 h3
  obtain ⟨m, t5, h5, hm⟩ := optInt_ex hI1 h4
  have hrun : ∀ v, (Instr.sliceAt ty (a.eval x) (lo.map a.eval) (hi.map a.eval) (mx.map a.eval)).run P c1.w = .ok v c1.w → (execOp a.eval o).run P c.w = .ok (.value v) c1.w := by
    intro v hv
    rw [← hw1]
    unfold execOp; rw [ho]; exact run_v hv
  cases m with
  | none =>
    have hmx : mx.map a.eval = none := hm
    dsimp only at h5
    split at h5
    · rename_i s
      obtain ⟨⟨t6, h6⟩, b1, b2, b3, b4⟩ := okCut_ex h5
      obtain ⟨hv, hF⟩ := hr
      have hF1 : F1 = Nil := FP.eq_of_none hF
      subst hF1
      obtain ⟨ht, h7⟩ := guardM_ex h6
      refine val_done (c := c1) hK hI1 (F1 := Nil) (p := .str (cutTo l hh s)) (v := .string ⟨(cutTo l hh s).toArray⟩) ⟨rfl, no_none⟩ (fun _ h => h) h7 (hrun _ ?_)
      rw [hv, hmx]
      have hund := isStr_ok hS ht
      unfold Instr.sliceAt
      rw [Sem.run_bind, run_underlying hund, Result.andThen_ok]
      unfold Instr.slice
      have hsz : (⟨s.toArray⟩ : ByteArray).size = s.length := by show s.toArray.size = _; simp
      simp only [Sem.run_bind, run_underlying hund, Result.andThen_ok, Option.isSome_none, Bool.false_eq_true, if_false, hsz]
      rw [run_bounds hl hhi b1 b2 b3 b4, Result.andThen_ok, Sem.run_pure, extract_list, cutTo_eq]
    · rename_i d e xs
      obtain ⟨he, h6⟩ := guardM_ex h5
      obtain ⟨⟨t7, h7⟩, b1, b2, b3, b4⟩ := okCut_ex h6
      obtain ⟨ad, cap, e1, e2⟩ := RepC.slice (show RepC c1.w c1.K (.l e) d xs [a.eval x] F1 from hr)
      have hr' : RepC c1.w c1.K (.l e) d xs [.slice ad xs.length cap] F1 := by rw [← e1]; exact hr
      obtain ⟨F', g1, g2⟩ := hr'.cut b1 b2 (m := cap) (by omega) (Nat.le_refl _)
      rw [← cutTo_eq] at g2
      refine val_done (c := c1) hK hI1 (F1 := F') (p := .sl d e (cutTo l hh xs)) g2 g1 h7 (hrun _ ?_)
      rw [e1, hmx]
      exact run_slice hS he (run_bounds hl hhi b1 (by omega) b3 b4 c1.w)
    · rename_i q path ig cg d wh base e xs
      obtain ⟨he, h6⟩ := guardM_ex h5
      obtain ⟨⟨t7, h7⟩, b1, b2, b3, b4⟩ := okCut_ex h6
      obtain ⟨g1, g2, g3, g4⟩ := hr
      obtain ⟨g5, g6, _⟩ := g4 hal.1
      have g7 := g6 hal.2
      obtain ⟨ad, cap, e1, e2⟩ := g7.slice
      rw [e1] at g7
      have k1 := g7.cut b1 b2 (m := cap) (by omega) (Nat.le_refl _)
      rw [← cutTo_eq] at k1
      have hF1 : F1 = Nil := FP.eq_of_none g1
      subst hF1
      refine val_done (c := c1) hK hI1 (F1 := Nil) (p := .bor q path ig cg d false (addLow base l) e (cutTo l hh xs)) ⟨no_none, g2, g3, fun _ => ⟨fun hp => ⟨fun h => by simp at h, ?_⟩, fun _ => k1, fun _ h => by simp at h⟩⟩ (fun _ h => h) h7 (hrun _ ?_)
      · obtain ⟨_, m2⟩ := g5 hp
        have hbase : addLow base l = base + lowOf l := by cases l <;> simp [lowOf, addLow]
        rw [hbase]
        have hl' : (cutTo l hh xs).length = highOf hh xs.length - lowOf l := by rw [cutTo_eq]; simp; omega
        by_cases hcl : cap = lowOf l
        · refine .inl ?_
          apply List.length_eq_zero_iff.1; omega
        · rcases m2 with m2 | ⟨b, o2, n2, cap2, cap3, m3, m4⟩
          · refine .inl ?_
            apply List.length_eq_zero_iff.1
            rw [hl']
            subst m2
            have h0 : ([] : List e.D).length = 0 := rfl
            omega
          · rw [e1] at m4
            injection m4 with q1 q2 q3
            refine .inr ⟨b, o2, n2, cap2, cap - lowOf l, m3, ?_⟩
            rw [if_neg hcl, q1, hl']
            simp only [Option.map_some, add_addr]
            rw [Nat.add_mul, Nat.add_assoc]
      · rw [e1, hmx]
        exact run_slice hS he (run_bounds hl hhi b1 (by omega) b3 b4 c1.w)
    · exact h5.elim
  | some e3 =>
    dsimp only at h5
    split at h5
    · exact h5.elim
    · rename_i b
      obtain ⟨hb, h6⟩ := br_fail h5
      have hbe : b = e3 := by simpa using hb
      subst hbe
      split at h6
      · rename_i e xs
        obtain ⟨he, h7⟩ := guardM_ex h6
        obtain ⟨⟨t7, h8⟩, b1, b2, b3, b4⟩ := okCut_ex h7
        obtain ⟨ad, cap, e1, e2⟩ := RepC.slice (show RepC c1.w c1.K (.l e) 0 xs [a.eval x] F1 from hr)
        have hr' : RepC c1.w c1.K (.l e) 0 xs [.slice ad xs.length cap] F1 := by rw [← e1]; exact hr
        simp only [highOf] at b1 b2
        obtain ⟨F', g1, g2⟩ := hr'.cut b1 b2 (m := b.toNat) (Nat.le_refl _) (by omega)
        have hce : cutTo l (some b) xs = (xs.take b.toNat).drop (lowOf l) := by rw [cutTo_eq]; rfl
        rw [← hce] at g2
        have hl' : (cutTo l (some b) xs).length = b.toNat - lowOf l := by rw [hce]; simp; omega
        have hF' : F' = Nil := FP.eq_of_none (RepC.none0 (t := .l e) g2)
        subst hF'
        refine val_done (c := c1) hK hI1 (F1 := Nil) (p := .cap e (cutTo l (some b) xs)) ⟨g2, _, by rw [hl']⟩ (fun _ h => h.elim) h8 (hrun _ ?_)
        rw [e1]
        exact run_slice hS he (run_bounds3 hl hhi hm b1 (by omega) b3 (b4 b rfl) c1.w)
      · exact h6.elim
end
end Go.VI
