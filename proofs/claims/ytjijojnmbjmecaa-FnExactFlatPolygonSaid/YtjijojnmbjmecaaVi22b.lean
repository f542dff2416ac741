/-
  An interpreter of the functions of a program as plain functions of lists and numbers, part 23: what it computes is what the program does. No condition but those that its theorems name.
-/
import Derived.Test.YtjijojnmbjmecaaVi22
set_option linter.unusedVariables false
set_option linter.constructorNameAsVariable false
namespace Go.VI
section
variable {P : Program} {R : FnRel} {st : Sta} {reg idx : Nat} {Q : Exit → Act → World → Prop} {B : Base} {K : Act → World → Prop} {c : Cx} {a : Act} {s' : St} {t : Tr} {o : Oper}
theorem Ty.zeroVals_one : ∀ (e : Ty), ∀ v ∈ e.zeroVals, oneCell v = true
  | .i _, v, h => by simp [Ty.zeroVals] at h; rw [h]; rfl
  | .b, v, h => by simp [Ty.zeroVals] at h; rw [h]; rfl
  | .s, v, h => by simp [Ty.zeroVals] at h; rw [h]; rfl
  | .p x y, v, h => by
    simp only [Ty.zeroVals, List.mem_append] at h
    exact h.elim (Ty.zeroVals_one x v) (Ty.zeroVals_one y v)
  | .l _, v, h => by simp [Ty.zeroVals] at h; rw [h]; rfl
theorem Elems.clear {w w' : World} {K' K2 : Kn} {e : Ty} {d : Nat} {ys : List e.D} {vs : List Value} {F : FP} (h : Elems (RepC w K' e d) ys vs F) {b n : Nat} (hbn : b + n ≤ ys.length) (hw : ∀ b, F b → w'.heap[b]? = w.heap[b]?) (hK : ∀ b o v, K' b o v → K2 b o v) :
    ∃ F2 : FP, (∀ b, F2 b → F b) ∧ Elems (RepC w' K2 e d) (ys.take b ++ List.replicate n e.dflt ++ ys.drop (b + n)) (vs.take (b * e.sz) ++ (List.replicate n e.zeroVals).flatten ++ vs.drop (b * e.sz + n * e.sz)) F2 := by
  have hR : ∀ x vs F, RepC w K' e d x vs F → vs.length = e.sz := fun x vs F h => h.len
  obtain ⟨Fa, Fb, g1, g2, g3, g4⟩ := h.split hR b (by omega)
  obtain ⟨Fc, Fd, k1, k2, k3, k4⟩ := g2.split hR n (by simp; omega)
  have keep : ∀ {xs : List e.D} {vs : List Value} {G : FP}, (∀ b, G b → F b) → Elems (RepC w K' e d) xs vs G → Elems (RepC w' K2 e d) xs vs G := fun hG h => h.mono fun x vs F' _ hF h => h.keep hK (fun b hb => hw b (hG b (hF b hb)))
  have a1 := (keep (fun b hb => (g4 b).2 (.inl hb)) g1).append (Elems.rep_dflt w' K2 e d n) (fun _ _ h => h)
  have a2 := a1.append (keep (G := Fd) (fun b hb => (g4 b).2 (.inr ((k4 b).2 (.inr hb)))) k2) (by
    rintro b (h1 | h1) h2
    · exact g3 b h1 ((k4 b).2 (.inr h2))
    · exact h1)
  rw [List.drop_drop, List.drop_drop] at a2
  exact ⟨_, fun b hb => by
    rcases hb with (hb | hb) | hb
    · exact (g4 b).2 (.inl hb)
    · exact hb.elim
    · exact (g4 b).2 (.inr ((k4 b).2 (.inr hb))), a2⟩
theorem op_clear (hS : StOk P st) {cl : Call} {x : Operand} {ty : TypeId} (ho : o.op = .call cl) (hc : cl.callee = .builtin .clear) (hz : cl.args.toList.zip cl.argTypes.toList = [(x, ty)]) (hI : InvF B st.n c a Nil) (hK : ∀ a' w', Inv B st.n s' a' w' → K a' w')
    (h : (builtinM st .clear [(x, ty)] (putM st o.dst)).Ex R c.S () s' t) : o.wp P a c.w K Q := by
  obtain ⟨hx, hty⟩ := zip1 hz
  unfold builtinM at h
  obtain ⟨p, t1, h1, hr⟩ := rb_ex hI h
  obtain ⟨hal, t2, h2⟩ := liveM_ex h1
  have hargs : (cl.args.map a.eval)[0]? = some (a.eval x) := by simp [hx]
  split at h2
  · rename_i q ig cg d0 wh base e xs
    obtain ⟨t3, rfl, h3⟩ := h2
    dsimp only at h3
    split at h3
    · rename_i c2 d e' ys ig' cg' heq
      obtain ⟨hg, h4⟩ := guardM_ex h3
      simp only [Bool.and_eq_true] at hg
      obtain ⟨hg1, hg2, hg3⟩ := hg
      obtain rfl := Ty.beq_eq hg3
      obtain ⟨hlen, h5⟩ := br_fail h4
      simp only [Bool.and_eq_true, decide_eq_true_eq] at hlen
      obtain ⟨hpos, hlen⟩ := hlen
      obtain ⟨el, te, i, z, u1, u2, u3, u4, u5, u6, u7, u8, u9⟩ := elB_ok2 hS hg2
      obtain ⟨t4, rfl, h6⟩ := h5
      obtain ⟨g1, g2, g3, g4⟩ := hr
      rcases ((g4 hal.1).1 rfl).2 with hnil | ⟨b, o0, n0, cap0, cap1, m1, m2⟩
      · subst hnil; simp at hpos
      · have hq := hI.rep q
        rw [heq] at hq
        obtain ⟨ad, cap, k1, k2, k3⟩ := hq
        simp only [List.cons.injEq, and_true] at k1
        rcases k3 with ⟨k3, _⟩ | ⟨b', o', arr, ty', F', n1, n2, n3, n4, n5, n6⟩
        · rw [k3, List.length_nil] at hlen; omega
        · rw [k1, n1] at m1
          injection m1 with e1 e2 e3
          injection e1 with e1
          injection e1 with e1 e4
          subst e1 e4
          have hus : ((List.replicate xs.length e.zeroVals).flatten).length = xs.length * e.sz := by
            have := (Elems.rep_dflt c.w c.K e d xs.length).len (fun x vs F (h : RepC c.w c.K e d x vs F) => h.len)
            simpa using this
          have hle1 : (base + xs.length) * e.sz ≤ ys.length * e.sz := Nat.mul_le_mul_right _ hlen
          have hle2 : ys.length * e.sz ≤ cap * e.sz := Nat.mul_le_mul_right _ k2
          rw [Nat.add_mul] at hle1
          have harr : o' + base * e.sz + xs.length * e.sz ≤ arr.size := by omega
          have hrun : (execOp a.eval o).run P c.w = .ok (.value (.tuple #[])) (World.row c.w b' (putCells arr (o' + base * e.sz) (List.replicate xs.length e.zeroVals).flatten) ty') := by
            refine builtin_run ho hc (fun _ => rfl) ?_
            unfold Builtin.clear_
            simp only [hty, hargs, Sem.run_bind, run_underlying u1, Result.andThen_ok, m2]
            have hz : ∀ w, (zeroValue el).run P w = .ok z w := fun w => by simp [zeroValue, typeInfo, run_program, u5, u8]
            have hzs : z.cells.size = e.sz := by rw [← Array.length_toList, u9, Ty.zeroVals_len]
            have hzc : (Builtin.zeroCells z.cells xs.length).toList = (List.replicate xs.length e.zeroVals).flatten := by
              unfold Builtin.zeroCells
              have h0 := zeros_list z.cells xs.length e.sz hzs
              rw [hzs] at h0 ⊢
              rw [h0, u9]
            obtain ⟨m, hm⟩ : ∃ m, xs.length = m + 1 := ⟨xs.length - 1, by omega⟩
            have hst := storeCells_ok (P := P) (b := b') (o := o' + base * e.sz) (ty := ty') (List.replicate xs.length e.zeroVals).flatten c.w arr 0 n2 (by rw [hus]; omega) (by
              intro v hv
              simp only [List.mem_flatten, List.mem_replicate] at hv
              obtain ⟨l, ⟨_, rfl⟩, hv⟩ := hv
              exact Ty.zeroVals_one e v hv)
            rw [Nat.add_zero] at hst
            rw [← hzc] at hst ⊢
            rw [hm] at hst ⊢
            simp only [Sem.run_bind, hz, Result.andThen_ok, hst]
            rfl
          have hq1 : ∀ b, c.Fq q b ↔ b = b' ∨ F' b := n6
          have hcl := n4.len (fun x vs F (h : RepC c.w c.K e d x vs F) => h.len)
          have hnb : ∀ b, F' b → b ≠ b' := fun b h e => by subst e; exact n5 h
          obtain ⟨F2, f1, f2⟩ := n4.clear (w' := World.row c.w b' (putCells arr (o' + base * e.sz) (List.replicate xs.length e.zeroVals).flatten) ty') (K2 := c.K) hlen (fun b hb => row_ne (hnb b hb)) (fun _ _ _ h => h)
          obtain ⟨c', l1, l2, l3, l4, l5, l6⟩ := hI.writeRow (q := q) (b := b') (arr := arr) (arr' := putCells arr (o' + base * e.sz) (List.replicate xs.length e.zeroVals).flatten) (ty := ty') (p' := .sl (d + 1) e (ys.take base ++ List.replicate xs.length e.dflt ++ ys.drop (base + xs.length))) (F2 := fun b => b = b' ∨ F2 b)
            ((hq1 b').2 (.inl rfl)) n2 (fun b h => .inl ((hq1 b).2 (h.imp id (f1 b)))) (by
              intro c' hle hw
              have hl : (ys.take base ++ List.replicate xs.length e.dflt ++ ys.drop (base + xs.length)).length = ys.length := by simp; omega
              refine ⟨some ⟨b', o', none⟩, cap, by rw [k1, n1, hl], by rw [hl]; exact k2, .inr ⟨b', o', putCells arr (o' + base * e.sz) (List.replicate xs.length e.zeroVals).flatten, ty', F2, rfl, by rw [hw]; exact row_get (heap_lt n2), by rw [putCells_size]; exact n3, ?_, fun h => n5 (f1 _ h), fun _ => Iff.rfl⟩⟩
              rw [hl, putCells_list _ _ _ (by rw [hus]; exact harr), hus]
              have hlw := list_write (L := arr.toList) (us := (List.replicate xs.length e.zeroVals).flatten) (o' := o') (m := ys.length * e.sz) (k := base * e.sz) (s := xs.length * e.sz) (off := 0) (n := xs.length * e.sz) hus (by omega) (by omega) (by simp; omega)
              rw [Nat.add_zero] at hlw
              rw [hlw]
              simp only [List.take_zero, List.nil_append, Nat.zero_add]
              have hd0 : (List.take (xs.length * e.sz) (List.drop (o' + base * e.sz) arr.toList)).drop (xs.length * e.sz) = [] := by
                rw [List.drop_eq_nil_iff]; simp; omega
              rw [hd0, List.append_nil]
              have f2' := f2.mono (R' := RepC c'.w c'.K e d) (fun x vs F'' _ hF h => RepC.keep hle.K h (fun b hb => by rw [hw]))
              exact f2')
          refine val_done (c := c') (F1 := Nil) (p := .tup []) (v := .tuple #[]) hK l6 ⟨#[], rfl, rfl, no_none⟩ (fun _ h => h) (by rw [l4]; exact h6) (by rw [l2]; exact hrun)
    · exact h3.elim
  · exact h2.elim
end
end Go.VI
