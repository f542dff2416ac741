/-
  An interpreter of the functions of a program as plain functions of lists and numbers, part 19: what it computes is what the program does. No condition but those that its theorems name.
-/
import Derived.Test.YtjijojnmbjmecaaVi18
set_option linter.unusedVariables false
set_option linter.constructorNameAsVariable false
namespace Go.VI
section
variable {P : Program} {R : FnRel} {st : Sta} {reg idx : Nat} {Q : Exit → Act → World → Prop} {B : Base} {K : Act → World → Prop} {c : Cx} {a : Act} {s' : St} {t : Tr} {o : Oper}
def Parts (c : Cx) : List (Nat × PV) → List (Nat × Value) → FP → Prop
  | [], m, F => m = [] ∧ F.none
  | (i, p) :: l, m, F => ∃ v m' vs Fa Fb, m = (i, v) :: m' ∧ v.cells = vs.toArray ∧ RepVs c (cellsOf p) vs Fa ∧ Parts c l m' Fb ∧ Fa.dis Fb ∧ F.or Fa Fb
theorem partsM_ex {f : TypeId → Nat → TypeId} {ty : TypeId} : ∀ (ps : List (Nat × Operand)) {k : List (Nat × PV) → M Unit} {c : Cx} {F0 : FP} {t : Tr}, InvF B st.n c a F0 → (partsM st ps f ty k).Ex R c.S () s' t →
    ∃ l t' c' F1, (k l).Ex R c'.S () s' t' ∧ c.Le c' ∧ c'.w = c.w ∧ c'.K = c.K ∧ Parts c' l (ps.map fun x => (x.1, a.eval x.2)) F1 ∧ F0.dis F1 ∧ InvF B st.n c' a (fun b => F0 b ∨ F1 b)
  | [], k, c, F0, t, hI, h => ⟨[], t, c, Nil, h, .refl c, rfl, rfl, ⟨rfl, no_none⟩, fun _ _ h => h, by rw [or_nil]; exact hI⟩
  | (i, x) :: r, k, c, F0, t, hI, h => by
    obtain ⟨p, t1, c1, Fp, h1, hle, hw, hk, hr, hd, hI1⟩ := ro_ex hI h
    obtain ⟨hal, t1', h1⟩ := liveM_ex h1
    obtain ⟨hso, h1⟩ := guardM_ex h1
    obtain ⟨vs, F2, hvs, hcs, hF2⟩ := cells_solid hso hal hr
    have hI1' : InvF B st.n c1 a (fun b => F0 b ∨ F2 b) := hI1.sub (fun b hb => hb.imp id (hF2 b))
    obtain ⟨l, t2, c2, F1, h2, hle2, hw2, hk2, hr2, hd2, hI2⟩ := partsM_ex r hI1' h1
    refine ⟨(i, p) :: l, t2, c2, fun b => F2 b ∨ F1 b, h2, hle.trans hle2, hw2.trans hw, hk2.trans hk, ⟨_, _, vs, F2, F1, rfl, hcs, hvs.turn hle2 (fun _ _ => by rw [hw2]), hr2, fun b q1 q2 => hd2 b (.inr q1) q2, fun _ => Iff.rfl⟩, ?_, ?_⟩
    · rintro b q1 (q2 | q2)
      · exact hd b q1 (hF2 b q2)
      · exact hd2 b (.inl q1) q2
    · have e : (fun b => F0 b ∨ F2 b ∨ F1 b) = (fun b => (F0 b ∨ F2 b) ∨ F1 b) := FP.ext fun b => or_assoc.symm
      rw [e]; exact hI2
theorem foldl_put : ∀ (l : List Value) (k off : Nat) (arr : Array Value), (l.zipIdx k).foldl (fun cs x => cs.setIfInBounds (off + x.2) x.1) arr = putCells arr (off + k) l
  | [], k, off, arr => rfl
  | v :: l, k, off, arr => by
    rw [List.zipIdx_cons, List.foldl_cons, foldl_put l (k + 1) off]
    rfl
theorem foldl_put_arr (vs : List Value) (off : Nat) (arr : Array Value) : vs.toArray.zipIdx.foldl (fun cs (x : Value × Nat) => match x with | (c, j) => cs.setIfInBounds (off + j) c) arr = putCells arr off vs := by
  rw [← Array.foldl_toList, Array.toList_zipIdx]
  exact foldl_put vs 0 off arr
theorem fill_step {place : Nat → Option (Nat × Nat)} {i off n : Nat} {v : Value} {vs : List Value} {m : List (Nat × Value)} {arr : Array Value} (hp : place i = some (off, n)) (hv : v.cells = vs.toArray) (hl : vs.length = n) (hfit : off + n ≤ arr.size) :
    Instr.fill place arr ((i, v) :: m) = Instr.fill place (putCells arr off vs) m := by
  rw [Instr.fill, hp]
  have h1 : ¬ (v.cells.size ≠ n || decide (off + v.cells.size > arr.size)) = true := by
    rw [hv]; simp [hl]; omega
  simp only [h1, if_false]
  rw [hv, foldl_put_arr]
  rfl
theorem fillS_ok {N : Nat} {ty : TypeId} {place : Nat → Option (Nat × Nat)} (hp : ∀ i off u tu, fieldOf st.τ ty i = some (off, u) → lookT st.τ u = some tu → place i = some (off, tu.sz) ∧ off + tu.sz ≤ N) :
    ∀ (l : List (Nat × PV)) (m : List (Nat × Value)) (G F : FP) (cs cs' : List PV) (vs : List Value), Parts c l m G → RepVs c cs vs F → cs.length = N → F.dis G → fillS st ty cs l = some cs' →
    ∃ arr F', Instr.fill place vs.toArray m = some arr ∧ RepVs c cs' arr.toList F' ∧ ∀ b, F' b → F b ∨ G b
  | [], m, G, F, cs, cs', vs, hm, hr, hN, hd, h => by
    obtain ⟨rfl, hG⟩ := hm
    simp only [fillS, Option.some.injEq] at h
    subst h
    exact ⟨_, F, rfl, by simpa using hr, fun b h => .inl h⟩
  | (i, p) :: l, m, G, F, cs, cs', vs, ⟨v, m', us, Fa, Fb, e, hv, h2, h3, h4, h5⟩, hr, hN, hd, h => by
    subst e
    rw [fillS] at h
    split at h
    · rename_i off u hf
      split at h
      · rename_i tu htu
        cases hb : Nat.beq tu.sz (cellsOf p).length with
        | false => rw [hb] at h; simp at h
        | true =>
          rw [hb] at h
          have hl := Nat.eq_of_beq_eq_true hb
          obtain ⟨g1, g2⟩ := hp i off u tu hf htu
          have hul := h2.len
          have hvl := hr.len
          obtain ⟨F1, F2, m1, m2, m3, m4⟩ := hr.part (off := off) (n := tu.sz) (by omega)
          have hrep := m4 c (cellsOf p) us Fa (.refl c) (fun _ _ => rfl) h2 (fun b q1 q2 => hd b ((m3 b).2 (.inr q2)) ((h5 b).2 (.inl q1))) hl.symm
          have e1 := putCells_list us vs.toArray off (by simp; omega)
          have e2 := splice_eq (cellsOf p) cs off (by omega)
          have hlen2 : (splice cs off (cellsOf p)).length = N := by rw [e2]; simp; omega
          have hrep' : RepVs c (splice cs off (cellsOf p)) (putCells vs.toArray off us).toList (fun b => Fa b ∨ F2 b) := by
            rw [e1, e2, hul, ← hl]; exact hrep
          obtain ⟨arr, F', k1, k2, k3⟩ := fillS_ok hp l m' Fb _ _ cs' _ h3 hrep' hlen2 (by
            rintro b (q1 | q1) q2
            · exact h4 b q1 q2
            · exact hd b ((m3 b).2 (.inr q1)) ((h5 b).2 (.inr q2))) h
          refine ⟨arr, F', ?_, k2, fun b hb => ?_⟩
          · rw [fill_step g1 hv (by omega) (by simp; omega)]
            simpa using k1
          · rcases k3 b hb with (q | q) | q
            · exact .inr ((h5 b).2 (.inl q))
            · exact .inl ((m3 b).2 (.inr q))
            · exact .inr ((h5 b).2 (.inr q))
      · simp at h
    · simp at h
theorem mapM_run {α β : Type} {f : α → Sem β} {g : α → β} {w : World} : ∀ (l : List α), (∀ x ∈ l, (f x).run P w = .ok (g x) w) → (l.mapM f).run P w = .ok (l.map g) w
  | [], _ => rfl
  | x :: l, h => by
    rw [List.mapM_cons]
    simp only [Sem.run_bind, h x (by simp), Result.andThen_ok, mapM_run l (fun y hy => h y (by simp [hy])), Sem.run_pure, List.map_cons]
theorem op_build (hS : StOk P st) {ty : TypeId} {ps : Array (Nat × Operand)} (ho : o.op = .build ty ps) (hI : InvF B st.n c a Nil) (hK : ∀ a' w', Inv B st.n s' a' w' → K a' w')
    (h : (opM st reg idx o (putM st o.dst)).Ex R c.S () s' t) : o.wp P a c.w K Q := by
  unfold opM at h
  rw [ho] at h
  dsimp only at h
  split at h
  · rename_i fs sz ty' ag by_ heq
    obtain ⟨l, t1, c1, F1, h1, hle, hw, hk, hpt, hd, hI1⟩ := partsM_ex _ hI h
    rw [nil_or] at hI1
    obtain ⟨d, g1, g2, fields, g3, g4, g5⟩ := (hS.tau _ _ heq).desc
    rw [g3] at g1
    split at h1
    · rename_i cs hcs
      obtain ⟨z, hz, hrep⟩ := zeroCells_ok hS hcs
      unfold retO at h1
      split at h1
      · rename_i q hq
        rw [Option.map_eq_some_iff] at hq
        obtain ⟨cs', hq1, rfl⟩ := hq
        have hlen : cs.length = sz := by
          have hzl := (hrep c).len
          obtain ⟨i, j1, j2, j3, z', j4, j5⟩ := (hS.tau _ _ heq).info
          have hz2 : zeroCells st.τ ty = some (ty'.cells 1000 ty'.dflt) := by unfold zeroCells; rw [heq]
          rw [hcs] at hz2
          injection hz2 with hz2
          have := (RepC.cells (c := c) (Ty.dflt_rep c.w c.K ty' 1000)).len
          rw [hz2, ← this]
          rcases (hS.tau _ _ heq).size with ⟨n, e, hk'⟩ | hk'
          · simp at hk'
          · have h2 : sz = ty'.sz := hk'
            rw [h2]
            exact (Ty.dflt_rep c.w c.K ty' 1000).len
        let place : Nat → Option (Nat × Nat) := fun i => (fields.toList.map (fun f => (f.offset, match lookT st.τ f.type with | some tu => tu.sz | none => 0)))[i]?
        have hplace : ∀ i off u tu, fieldOf st.τ ty i = some (off, u) → lookT st.τ u = some tu → place i = some (off, tu.sz) ∧ off + tu.sz ≤ sz := by
          intro i off u tu hf htu
          unfold fieldOf at hf
          rw [heq] at hf
          dsimp only at hf
          obtain ⟨tu', k1, k2, k3⟩ := g5 (off, u) (List.mem_of_getElem? hf)
          have : tu' = tu := by rw [htu] at k1; injection k1 with k1; exact k1.symm
          subst this
          refine ⟨?_, k3⟩
          rw [← g4, List.getElem?_map] at hf
          show (fields.toList.map _)[i]? = _
          rw [List.getElem?_map]
          cases hx : fields.toList[i]? with
          | none => rw [hx] at hf; simp at hf
          | some fld =>
            rw [hx] at hf
            simp only [Option.map_some, Option.some.injEq, Prod.mk.injEq] at hf ⊢
            rw [hf.1, hf.2, htu]
            exact ⟨rfl, rfl⟩
        obtain ⟨arr, F', k1, k2, k3⟩ := fillS_ok (c := c1) hplace l _ F1 Nil cs cs' z.cells.toList hpt (hrep c1) hlen (fun _ h => h.elim) hq1
        refine val_done hK hI1 (F1 := F') (p := .agg cs') (v := .agg arr) ⟨arr, rfl, k2⟩ (fun b hb => (k3 b hb).elim (fun h => h.elim) id) h1 ?_
        unfold execOp
        rw [ho]
        refine run_v ?_
        unfold Instr.build
        rw [Sem.run_bind, hz, Result.andThen_ok, Sem.run_bind, run_underlying g1, Result.andThen_ok]
        dsimp only
        have hmap : (fields.mapM fun f => do pure (f.offset, ← sizeOf f.type) : Sem (Array (Nat × Nat))).run P c.w = .ok (fields.toList.map (fun f => (f.offset, match lookT st.τ f.type with | some tu => tu.sz | none => 0))).toArray c.w := by
          rw [Array.mapM_eq_mapM_toList, Sem.run_map]
          rw [mapM_run (g := fun f => (f.offset, match lookT st.τ f.type with | some tu => tu.sz | none => 0)) fields.toList ?_]
          · rfl
          · intro f hf
            obtain ⟨tu, k1, _⟩ := g5 (f.offset, f.type) (by rw [← g4]; exact List.mem_map_of_mem hf)
            have k1 : lookT st.τ f.type = some tu := k1
            rw [Sem.run_bind, run_sizeOf hS k1, Result.andThen_ok, k1]
            rfl
        rw [Sem.run_bind, hmap, Result.andThen_ok]
        have hfill : Instr.fill (fun i => ((fields.toList.map (fun f => (f.offset, match lookT st.τ f.type with | some tu => tu.sz | none => 0))).toArray)[i]?) z.cells (ps.map fun (x : Nat × Operand) => match x with | (i, x) => (i, a.eval x)).toList = some arr := by
          have e : (fun i => ((fields.toList.map (fun f => (f.offset, match lookT st.τ f.type with | some tu => tu.sz | none => 0))).toArray)[i]?) = place := by
            funext i
            show _ = (fields.toList.map _)[i]?
            simp
          rw [e, Array.toList_map]
          simpa using k1
        rw [hfill]
        rw [hw]
        rfl
      · exact h1.elim
    · exact h1.elim
  · exact h.elim
end
end Go.VI
