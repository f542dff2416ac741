/-
  An interpreter of the functions of a program as plain functions of lists and numbers, part 20: what it computes is what the program does. No condition but those that its theorems name.
-/
import Derived.Test.YtjijojnmbjmecaaVi19
import Derived.Laws.MakeOwn
set_option linter.unusedVariables false
set_option linter.constructorNameAsVariable false
namespace Go.VI
section
variable {P : Program} {R : FnRel} {st : Sta} {reg idx : Nat} {Q : Exit → Act → World → Prop} {B : Base} {K : Act → World → Prop} {c : Cx} {a : Act} {s' : St} {t : Tr} {o : Oper}
theorem zeros_list (z : Array Value) (n s : Nat) (hs : z.size = s) : ((Array.range (n * s)).map (fun i => z[i % z.size]!)).toList = (List.replicate n z.toList).flatten := by
  subst hs
  rw [Array.toList_map, Array.toList_range]
  induction n with
  | zero => simp
  | succ n ih =>
    rw [Nat.succ_mul, List.range_add, List.map_append, ih, List.replicate_succ', List.flatten_append]
    congr 1
    simp only [List.map_map, List.flatten_cons, List.flatten_nil, List.append_nil]
    apply List.ext_getElem
    · simp
    · intro i h1 h2
      have hi : i < z.size := by simpa using h1
      simp only [List.getElem_map, List.getElem_range, Function.comp]
      rw [Nat.mul_add_mod_self_right, Nat.mod_eq_of_lt hi]
      simp [hi]
theorem elB_ok2 (hS : StOk P st) {ty : TypeId} {e : Ty} (h : elB st ty e = true) : ∃ el te i z, P.underlying ty = some (.slice el) ∧ lookT st.τ el = some te ∧ te.sz = e.sz ∧ te.ty = e ∧ P.info? el = some i ∧ i.size = e.sz ∧ i.bytes ≤ 128 ∧ i.zero = some z ∧ z.cells.toList = e.zeroVals := by
  unfold elB at h
  split at h
  · rename_i el sz e' ag by_ heq
    obtain ⟨d, h1, h2, h3, te, h4, h5, h6, h7, h8⟩ := (hS.tau _ _ heq).desc
    have h5' : e' = te.ty := by simpa using h5
    have he := Ty.beq_eq h
    obtain ⟨i, j1, j2, j3, z, j4, j5⟩ := (hS.tau _ _ h4).info
    refine ⟨el, te, i, z, by rw [h1, h3], h4, by rw [h6, ← h5', he], by rw [← h5', he], j1, by rw [j2, h6, ← h5', he], j3, j4, ?_⟩
    rw [h8] at j5
    injection j5 with j5
    rw [← j5, ← h5', he]
  · simp at h
theorem Elems.rep_dflt (w : World) (Kn_ : Kn) (e : Ty) (d : Nat) : ∀ n, Elems (RepC w Kn_ e d) (List.replicate n e.dflt) (List.replicate n e.zeroVals).flatten Nil
  | 0 => ⟨rfl, no_none⟩
  | n + 1 => by
    rw [List.replicate_succ, List.replicate_succ, List.flatten_cons]
    exact ⟨_, _, Nil, Nil, rfl, Ty.dflt_rep w Kn_ e d, Elems.rep_dflt w Kn_ e d n, fun _ h => h.elim, fun _ => by simp [Nil]⟩
theorem Ty.zeroVals_len : ∀ e : Ty, e.zeroVals.length = e.sz
  | .i _ => rfl
  | .b => rfl
  | .s => rfl
  | .p x y => by rw [Ty.zeroVals, List.length_append, x.zeroVals_len, y.zeroVals_len]; rfl
  | .l _ => rfl
/-- Parts that are data, each owned to one depth. -/
def TParts (w : World) (Kn_ : Kn) (e : Ty) (d : Nat) : List (Nat × e.D) → List (Nat × Value) → FP → Prop
  | [], m, F => m = [] ∧ F.none
  | (i, x) :: l, m, F => ∃ v m' vs Fa Fb, m = (i, v) :: m' ∧ v.cells = vs.toArray ∧ RepC w Kn_ e d x vs Fa ∧ TParts w Kn_ e d l m' Fb ∧ Fa.dis Fb ∧ F.or Fa Fb
theorem fillL_ok {e : Ty} : ∀ (l : List (Nat × PV)) (m : List (Nat × Value)) (G : FP) (d0 : Nat) (l' : List (Nat × e.D)) (df : Nat), Parts c l m G → fillL e d0 l = some (l', df) →
    df ≤ d0 ∧ ∀ D, D + 1 ≤ df → ∃ G' : FP, (∀ b, G' b → G b) ∧ ∀ K' : Kn, (∀ b o v, c.K b o v → K' b o v) → (∀ b o v, G b → ¬ G' b → c.w.cell? ⟨b, o, none⟩ = some v → K' b o v) → TParts c.w K' e D l' m G'
  | [], m, G, d0, l', df, hm, h => by
    simp only [fillL, Option.some.injEq, Prod.mk.injEq] at h
    obtain ⟨rfl, rfl⟩ := h
    exact ⟨Nat.le_refl _, fun D _ => ⟨G, fun _ h => h, fun _ _ _ => hm⟩⟩
  | (i, p) :: l, m, G, d0, l', df, ⟨v, m', us, Fa, Fb, e1, hv, h2, h3, h4, h5⟩, h => by
    rw [fillL] at h
    split at h
    · rename_i x de hx
      split at h
      · rename_i l1 d1 hl
        simp only [Option.some.injEq, Prod.mk.injEq] at h
        obtain ⟨rfl, rfl⟩ := h
        obtain ⟨g1, g2⟩ := fillL_ok l m' Fb _ _ _ h3 hl
        have hde : ∀ D, D + 1 ≤ d1 → ∃ d', D ≤ d' ∧ (de = none ∨ de = some d') := by
          intro D hD
          cases de with
          | none => exact ⟨D, Nat.le_refl _, .inl rfl⟩
          | some d' =>
            simp only [dmin] at g1
            exact ⟨d', by omega, .inr rfl⟩
        refine ⟨?_, fun D hD => ?_⟩
        · cases de with
          | none => simpa only [dmin] using g1
          | some d' => simp only [dmin] at g1; omega
        · obtain ⟨d', k1, k2⟩ := hde D hD
          have hrep := ofPV_ok hx h2 d' k2
          obtain ⟨Fa', ha1, ha2⟩ := RepC.lower k1 hrep
          obtain ⟨Fb', hb1, hb2⟩ := g2 D hD
          refine ⟨fun b => Fa' b ∨ Fb' b, fun b hb => (h5 b).2 (hb.imp (ha1 b) (hb1 b)), fun K' hK' hw => ⟨v, m', us, Fa', Fb', e1, hv, ha2 K' hK' ?_, hb2 K' hK' ?_, fun b q1 q2 => h4 b (ha1 b q1) (hb1 b q2), fun _ => Iff.rfl⟩⟩
          · exact fun b o v q1 q2 q3 => hw b o v ((h5 b).2 (.inl q1)) (fun h => h.elim q2 (fun h => h4 b q1 (hb1 b h))) q3
          · exact fun b o v q1 q2 q3 => hw b o v ((h5 b).2 (.inr q1)) (fun h => h.elim (fun h => h4 b (ha1 b h) q1) q2) q3
      · simp at h
    · simp at h
theorem setL_ok {e : Ty} {w : World} {Kn_ : Kn} {d : Nat} : ∀ (l : List (Nat × e.D)) (m : List (Nat × Value)) (G F : FP) (xs xs' : List e.D) (vs : List Value), TParts w Kn_ e d l m G → Elems (RepC w Kn_ e d) xs vs F → F.dis G → setL xs l = some xs' →
    ∃ arr F', Instr.fill (fun i => some (i * e.sz, e.sz)) vs.toArray m = some arr ∧ Elems (RepC w Kn_ e d) xs' arr.toList F' ∧ xs'.length = xs.length ∧ ∀ b, F' b → F b ∨ G b
  | [], m, G, F, xs, xs', vs, hm, hr, hd, h => by
    obtain ⟨rfl, hG⟩ := hm
    simp only [setL, Option.some.injEq] at h
    subst h
    exact ⟨_, F, rfl, by simpa using hr, rfl, fun b h => .inl h⟩
  | (i, x) :: l, m, G, F, xs, xs', vs, ⟨v, m', us, Fa, Fb, e1, hv, h2, h3, h4, h5⟩, hr, hd, h => by
    subst e1
    rw [setL] at h
    cases hb : Nat.blt i xs.length with
    | false => rw [hb] at h; simp at h
    | true =>
      rw [hb] at h
      have hi : i < xs.length := by simpa [Nat.blt_eq] using hb
      have hvl := hr.len (fun x vs F (h : RepC w Kn_ e d x vs F) => h.len)
      have hul := h2.len
      obtain ⟨Fn, Fr, k1, k2, k3, k4⟩ := hr.set (fun x vs F (h : RepC w Kn_ e d x vs F) => h.len) hi
      have hfit : i * e.sz + e.sz ≤ vs.length := by rw [hvl, ← Nat.succ_mul]; exact Nat.mul_le_mul_right _ hi
      have e2 := putCells_list us vs.toArray (i * e.sz) (by simp; omega)
      have hrep := k4 x us Fa h2 (fun b q1 q2 => hd b ((k3 b).2 (.inr q2)) ((h5 b).2 (.inl q1)))
      have hrep' : Elems (RepC w Kn_ e d) (xs.set i x) (putCells vs.toArray (i * e.sz) us).toList (fun b => Fa b ∨ Fr b) := by
        rw [e2, hul]; exact hrep
      obtain ⟨arr, F', j1, j2, j3, j4⟩ := setL_ok l m' Fb _ _ xs' _ h3 hrep' (by
        rintro b (q1 | q1) q2
        · exact h4 b q1 q2
        · exact hd b ((k3 b).2 (.inr q1)) ((h5 b).2 (.inr q2))) h
      refine ⟨arr, F', ?_, j2, by rw [j3]; simp, fun b hb => ?_⟩
      · rw [fill_step rfl hv hul (by simpa using hfit)]
        simpa using j1
      · rcases j4 b hb with (q | q) | q
        · exact .inr ((h5 b).2 (.inl q))
        · exact .inl ((k3 b).2 (.inr q))
        · exact .inr ((h5 b).2 (.inr q))
/-- A new row of elements. -/
theorem row_ok {e : Ty} {d cap : Nat} {xs : List e.D} {arr : Array Value} {F F1 : FP} {ty : TypeId} (hI : InvF B st.n c a F) (hF : ∀ b, F1 b → F b) (hr : Elems (RepC c.w c.K e d) xs (arr.toList.take (xs.length * e.sz)) F1) (hc : cap * e.sz ≤ arr.size) (hx : xs.length ≤ cap)
    {w' : World} (hw' : ∀ b, b < c.w.heap.size → w'.heap[b]? = c.w.heap[b]?) (hnew : w'.heap[c.w.heap.size]? = some (.cells arr ty (0, 0))) :
    RepV { c with w := w' } (.sl (d + 1) e xs) (.slice (some ⟨c.w.heap.size, 0, none⟩) xs.length cap) (fun b => b = c.w.heap.size ∨ F1 b) := by
  refine ⟨_, cap, rfl, hx, .inr ⟨c.w.heap.size, 0, arr, ty, F1, rfl, hnew, by simpa using hc, ?_, ?_, fun _ => Iff.rfl⟩⟩
  · rw [List.drop_zero]
    exact hr.mono fun x vs F' _ hF' h => h.keep (fun _ _ _ h => h) (fun b hb => hw' b (hI.bound b (.inr (hF b (hF' b hb)))))
  · intro h
    have := hI.bound _ (.inr (hF _ h)); omega
theorem op_buildSlice (hS : StOk P st) {ty : TypeId} {n : Nat} {ps : Array (Nat × Operand)} (ho : o.op = .buildSlice ty n ps) (hI : InvF B st.n c a Nil) (hK : ∀ a' w', Inv B st.n s' a' w' → K a' w')
    (h : (opM st reg idx o (putM st o.dst)).Ex R c.S () s' t) : o.wp P a c.w K Q := by
  unfold opM at h
  rw [ho] at h
  dsimp only at h
  split at h
  · rename_i el sz te ag by_ heq
    obtain ⟨hg, h⟩ := guardM_ex h
    rw [Bool.and_eq_true] at hg
    have hlim := Nat.le_of_ble_eq_true hg.2
    obtain ⟨l, t1, c1, F1, h1, hle, hw, hk, hpt, hd, hI1⟩ := partsM_ex _ hI h
    rw [nil_or] at hI1
    split at h1
    · rename_i l' d hl
      unfold retO at h1
      split at h1
      · rename_i xs hxs
        obtain ⟨el', te', i, z, g1, g2, g3, g4, g5, g6, g7, g8, g9⟩ := elB_ok2 hS hg.1
        obtain ⟨_, hlow⟩ := fillL_ok l _ F1 _ _ _ hpt hl
        obtain ⟨G', k1, k2⟩ := hlow d (Nat.le_refl _)
        obtain ⟨c2, m1, m2, m3, m4, m5, m6⟩ := hI1.ghost k1
        have htp := k2 c2.K m1.K m5
        obtain ⟨arr, F', j1, j2, j3, j4⟩ := setL_ok l' _ G' Nil _ xs _ htp (Elems.rep_dflt c1.w c2.K te d n) (fun _ h => h.elim) hxs
        rw [List.length_replicate] at j3
        have hal := j2.len (fun x vs F (h : RepC c1.w c2.K te d x vs F) => h.len)
        rw [j3] at hal
        have hsub : ∀ b, F' b → G' b := fun b hb => (j4 b hb).elim (fun h => h.elim) id
        have hrow := row_ok (d := d) (cap := n) (xs := xs) (arr := arr) (ty := el') (w' := World.newRow c2.w arr el') m6 hsub (by
          rw [m2, j3, ← hal, List.take_length]; exact j2) (by rw [← hal]; simp) (by omega) (fun b hb => newRow_old hb) newRow_get
        have hsz0 := Ty.sz_pos te
        obtain ⟨p', h1', hrow'⟩ := lowM_ex (R := R) hrow h1
        refine val_done hK (m6.alloc arr el') hrow' (fun b hb => hb.elim .inr (fun h => .inl (hsub b h))) (by show M.Ex R _ c2.S _ _ _; rw [m3]; exact h1') ?_
        unfold execOp
        rw [ho]
        refine run_v ?_
        have hzz : zeroValue el' = zeroValue el' := rfl
        have hz : ∀ w, (zeroValue el').run P w = .ok z w := fun w => by simp [zeroValue, typeInfo, run_program, g5, g8]
        unfold Instr.buildSlice
        simp only [Sem.run_bind, run_underlying g1, run_sizeOf hS g2, Result.andThen_ok]
        rw [g3]
        have hlim' : ¬ (n * te.sz > 2 ^ 24) := by omega
        simp only [if_neg hlim']
        have hzl : ∀ (y : Array Value), y = (if n * te.sz = 0 then #[] else z.cells) → ((Array.range (n * te.sz)).map (fun i => y[i % y.size]!)) = ((List.replicate n te.zeroVals).flatten).toArray := by
          intro y hy
          by_cases h0 : n * te.sz = 0
          · have : n = 0 := (Nat.mul_eq_zero.1 h0).elim id (fun h => by omega)
            subst this
            simp
          · rw [if_neg h0] at hy
            subst hy
            apply Array.ext'
            have hzs : z.cells.size = te.sz := by rw [← Array.length_toList, g9, Ty.zeroVals_len]
            rw [zeros_list z.cells n te.sz hzs, g9]
        have hmap : (ps.map fun (x : Nat × Operand) => (x.1, a.eval x.2)).toList = ps.toList.map (fun x => (x.1, a.eval x.2)) := by rw [Array.toList_map]
        by_cases h0 : n * te.sz = 0
        · rw [if_pos h0]
          simp only [Sem.run_bind, Sem.run_pure, Result.andThen_ok]
          rw [hzl #[] (by rw [if_pos h0]), hmap, j1]
          dsimp only
          rw [Sem.run_bind, run_newRow, Result.andThen_ok, m2, hw, j3]
          rfl
        · rw [if_neg h0]
          simp only [Sem.run_bind, Sem.run_pure, Result.andThen_ok, hz]
          rw [hzl z.cells (by rw [if_neg h0]), hmap, j1]
          dsimp only
          rw [Sem.run_bind, run_newRow, Result.andThen_ok, m2, hw, j3]
          rfl
      · exact h1.elim
    · exact h1.elim
  · exact h.elim
theorem op_makeSlice (hS : StOk P st) {ty : TypeId} {n m : Operand} (ho : o.op = .makeSlice ty n m) (hI : InvF B st.n c a Nil) (hK : ∀ a' w', Inv B st.n s' a' w' → K a' w')
    (h : (opM st reg idx o (putM st o.dst)).Ex R c.S () s' t) : o.wp P a c.w K Q := by
  unfold opM at h
  rw [ho] at h
  dsimp only at h
  obtain ⟨p, t1, h1, hr⟩ := rb_ex hI h
  obtain ⟨q, t2, h2, hr2⟩ := rb_ex hI h1
  split at h2
  · rename_i kd sz te ag by_ k1 len k2 cap heq
    obtain ⟨hg, h3⟩ := guardM_ex h2
    obtain ⟨hb, h4⟩ := br_fail h3
    simp only [Bool.and_eq_true, decide_eq_true_eq] at hb
    obtain ⟨b1, b2, b3⟩ := hb
    have hlim : (LIM : Int) = 1099511627776 := rfl
    rw [hlim] at b3
    obtain ⟨el', te', i, z, g1, g2, g3, g4, g5, g6, g7, g8, g9⟩ := elB_ok2 hS hg
    have hz : ∀ w, (zeroValue el').run P w = .ok z w := fun w => by simp [zeroValue, typeInfo, run_program, g5, g8]
    have hzs : z.cells.size = te.sz := by rw [← Array.length_toList, g9, Ty.zeroVals_len]
    have hsz0 := Ty.sz_pos te
    let arr : Array Value := ((List.replicate cap.toNat te.zeroVals).flatten).toArray
    have harr : arr.size = cap.toNat * te.sz := by
      have := (Elems.rep_dflt c.w c.K te te.dep cap.toNat).len (fun x vs F (h : RepC c.w c.K te te.dep x vs F) => h.len)
      simpa [arr] using this
    have htake : arr.toList.take ((List.replicate len.toNat te.dflt).length * te.sz) = (List.replicate len.toNat te.zeroVals).flatten := by
      rw [List.length_replicate]
      have e : cap.toNat = len.toNat + (cap.toNat - len.toNat) := by omega
      have e2 : (List.replicate cap.toNat te.zeroVals).flatten = (List.replicate len.toNat te.zeroVals).flatten ++ (List.replicate (cap.toNat - len.toNat) te.zeroVals).flatten := by
        conv => lhs; rw [e, ← List.replicate_append_replicate, List.flatten_append]
      show ((List.replicate cap.toNat te.zeroVals).flatten).take _ = _
      rw [e2]
      have := (Elems.rep_dflt c.w c.K te te.dep len.toNat).len (fun x vs F (h : RepC c.w c.K te te.dep x vs F) => h.len)
      rw [List.length_replicate] at this
      rw [← this, List.take_left]
    have hrow := row_ok (d := te.dep) (cap := cap.toNat) (xs := List.replicate len.toNat te.dflt) (arr := arr) (ty := el') (w' := World.newRow c.w arr el') (F1 := Nil) hI (fun b h => h) (by
      rw [htake]; exact Elems.rep_dflt c.w c.K te te.dep len.toNat) (by rw [harr]; exact Nat.le_refl _) (by rw [List.length_replicate]; omega) (fun b hb => newRow_old hb) newRow_get
    refine val_done hK (hI.alloc arr el') hrow (fun b hb => hb.elim .inr (fun h => .inl h)) h4 ?_
    have hv : a.eval n = .int k1 len := hr.1
    have hv2 : a.eval m = .int k2 cap := hr2.1
    unfold execOp
    rw [ho]
    refine run_v ?_
    rw [hv, hv2]
    have hbytes : (i.bytes : Int) * cap ≤ 281474976710656 := by
      have : (i.bytes : Int) * cap ≤ 128 * 1099511627776 := Int.mul_le_mul (by omega) b3 (by omega) (by omega)
      omega
    have hr := run_make (P := P) c.w ty el' i z g1 g5 g8 k1 k2 len cap b1 b2 hbytes (by omega)
    have e : madeCells z.cells (cap.toNat * i.size) = arr := by
      apply Array.ext'
      unfold madeCells
      rw [g6]
      exact (zeros_list z.cells cap.toNat te.sz hzs).trans (by rw [g9])
    rw [e] at hr
    rw [List.length_replicate]
    exact hr
  · exact h2.elim
end
end Go.VI
