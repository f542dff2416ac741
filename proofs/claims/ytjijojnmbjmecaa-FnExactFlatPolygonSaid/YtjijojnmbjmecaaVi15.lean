/-
  An interpreter of the functions of a program as plain functions of lists and numbers, part 15: what it computes is what the program does. No condition but those that its theorems name.
-/
import Derived.Test.YtjijojnmbjmecaaVi14
set_option linter.unusedVariables false
set_option linter.constructorNameAsVariable false
namespace Go.VI
section
variable {P : Program} {R : FnRel} {st : Sta} {reg idx : Nat} {Q : Exit → Act → World → Prop} {B : Base} {K : Act → World → Prop} {c : Cx} {a : Act} {s' : St} {t : Tr} {o : Oper}
theorem RepC.flatnone {w : World} {K : Kn} : ∀ {t : Ty} {d : Nat} {x : t.D} {vs : List Value} {F : FP}, t.dep = 0 → RepC w K t d x vs F → F.none
  | .i _, _, _, _, _, _, h => h.2
  | .b, _, _, _, _, _, h => h.2
  | .s, _, _, _, _, _, h => h.2
  | .p x y, d, v, vs, F, hd, ⟨va, vb, Fa, Fb, h1, h2, h3, h4, h5⟩ => by
    have h' : max x.dep y.dep = 0 := hd
    exact fun b hb => ((h5 b).1 hb).elim (h2.flatnone (by omega) b) (h3.flatnone (by omega) b)
  | .l e, _, _, _, _, hd, _ => by simp [Ty.dep] at hd
theorem list_write {L us : List Value} {o' m k s off n : Nat} (hn : us.length = n) (hfit : off + n ≤ s) (hk : k + s ≤ m) (hm : o' + m ≤ L.length) :
    ((L.take (o' + k + off) ++ us ++ L.drop (o' + k + off + n)).drop o').take m =
      ((L.drop o').take m).take k ++ (((L.drop (o' + k)).take s).take off ++ us ++ ((L.drop (o' + k)).take s).drop (off + n)) ++ ((L.drop o').take m).drop (k + s) := by
  apply List.ext_getElem?
  intro j
  simp only [List.getElem?_take, List.getElem?_drop, List.getElem?_append, List.length_append, List.length_take, List.length_drop, hn]
  have e1 : min (o' + k + off) L.length = o' + k + off := by omega
  have e2 : min k (min m (L.length - o')) = k := by omega
  have e3 : min off (min s (L.length - (o' + k))) = off := by omega
  have e4 : min s (L.length - (o' + k)) - (off + n) = s - (off + n) := by omega
  rw [e1, e2, e3, e4]
  by_cases h1 : j < k
  · simp only [show j < m by omega, show o' + j < o' + k + off by omega, show j < k + (off + n + (s - (off + n))) by omega, h1, if_true, show o' + j < o' + k + off + n by omega]
  · by_cases h2 : j < k + off
    · simp only [show j < m by omega, show o' + j < o' + k + off by omega, show j < k + (off + n + (s - (off + n))) by omega, h1, if_true, if_false, show o' + j < o' + k + off + n by omega, show j - k < off + n by omega, show j - k < off by omega, show j - k < s by omega]
      congr 1; omega
    · by_cases h3 : j < k + off + n
      · simp only [show j < m by omega, show ¬ o' + j < o' + k + off by omega, show j < k + (off + n + (s - (off + n))) by omega, h1, if_true, if_false, show o' + j < o' + k + off + n by omega, show j - k < off + n by omega, show ¬ j - k < off by omega]
        congr 1; omega
      · by_cases h4 : j < k + s
        · simp only [show j < m by omega, show ¬ o' + j < o' + k + off by omega, show j < k + (off + n + (s - (off + n))) by omega, h1, if_true, if_false, show ¬ o' + j < o' + k + off + n by omega, show ¬ j - k < off + n by omega, show off + n + (j - k - (off + n)) < s by omega]
          congr 1; omega
        · by_cases h5 : j < m
          · simp only [h5, show ¬ o' + j < o' + k + off by omega, show ¬ j < k + (off + n + (s - (off + n))) by omega, if_true, if_false, show ¬ o' + j < o' + k + off + n by omega]
            rw [if_pos (by omega)]
            congr 1; omega
          · simp only [h5, if_false, show ¬ j < k + (off + n + (s - (off + n))) by omega]
            rw [if_neg (by omega)]
theorem solid_of_storable {p : PV} (h : (cellsOf p).all storable = true) : solid p = true ∧ ∀ c, Alive c p := by
  cases p <;> first | exact ⟨rfl, fun _ => trivial⟩ | (simp [cellsOf, storable] at h)
theorem op_store (hS : StOk P st) {ty : TypeId} {x y : Operand} (ho : o.op = .store ty x y) (hI : InvF B st.n c a Nil) (hK : ∀ a' w', Inv B st.n s' a' w' → K a' w')
    (h : (opM st reg idx o (putM st o.dst)).Ex R c.S () s' t) : o.wp P a c.w K Q := by
  unfold opM at h
  rw [ho] at h
  dsimp only at h
  obtain ⟨p, t1, h1, hr0⟩ := rb_ex hI h
  obtain ⟨u, t2, c1, F1, h2, hle1, hw1, hk1, hru, _, hI1⟩ := ro_ex hI h1
  rw [nil_or] at hI1
  have hr : RepV c1 p (a.eval x) Nil := hr0.turn hle1 (fun b hb => hb.elim)
  unfold storeM at h2
  split at h2
  · exact h2.elim
  · rename_i ti ht
    obtain ⟨hg, h3⟩ := guardM_ex h2
    rw [Bool.and_eq_true] at hg
    have hsz := Nat.eq_of_beq_eq_true hg.1
    obtain ⟨hsol, hal⟩ := solid_of_storable hg.2
    obtain ⟨us, Fu, hus, hcells, hFu⟩ := cells_solid hsol (hal c1) hru
    have huslen : us.length = ti.sz := by rw [hus.len, hsz]
    have hone := storables_one hg.2 hus
    have hrun : ∀ b off arr ty', a.eval x = .pointer (some ⟨b, off, none⟩) → c1.w.heap[b]? = some (.cells arr ty' (0, 0)) → off + ti.sz ≤ arr.size →
        (execOp a.eval o).run P c.w = .ok .skip (World.row c1.w b (putCells arr off us) ty') := by
      intro b off arr ty' hv hh hfit
      unfold execOp; rw [ho]
      refine run_u ?_
      unfold Instr.storeAt
      rw [hv]
      simp only [Instr.sureAddr, Sem.run_bind, Sem.run_pure, Result.andThen_ok]
      rw [← hw1, storeVar_ok (hS.tau _ _ ht) hh (by rw [hcells]; simp [huslen]) hfit (by rw [hcells]; simpa using hone), hcells]
    split at h3
    · rename_i q ig off
      obtain ⟨t3, rfl, h4⟩ := h3
      dsimp only at h4
      split at h4
      · rename_i c2 cs ig' cg' heq
        obtain ⟨hg2, h5⟩ := guardM_ex h4
        rw [Bool.and_eq_true] at hg2
        have hig := Nat.eq_of_beq_eq_true hg2.1
        have hfit := Nat.le_of_ble_eq_true hg2.2
        obtain ⟨g1, g2, g3⟩ := hr
        obtain ⟨b, g4, g5⟩ := g3 (by rw [heq]; exact hig.symm)
        have hq := hI1.rep q
        rw [heq] at hq
        obtain ⟨b', arr, ty', F', k1, k2, k3, k4, k5⟩ := hq
        have hb : b' = b := by rw [g4] at k1; injection k1 with k1; injection k1 with k1; injection k1 with k1; exact k1.symm
        subst hb
        have hlen := k3.len
        have harr : off + ti.sz ≤ arr.size := by simp at hlen; omega
        obtain ⟨t4, rfl, h6⟩ := h5
        obtain ⟨G1, G2, m1, m2, m3, m4⟩ := k3.part (off := off) (n := ti.sz) hfit
        have hq1 : ∀ b, c1.Fq q b ↔ b = b' ∨ F' b := k5
        obtain ⟨c', l1, l2, l3, l4, l5, l6⟩ := hI1.writeRow (q := q) (b := b') (arr := arr) (arr' := putCells arr off us) (ty := ty') (p' := .box (splice cs off (cellsOf u))) (F2 := fun b => b = b' ∨ Fu b ∨ G2 b)
          ((hq1 b').2 (.inl rfl)) k2 (by
            rintro b (h | h | h)
            · exact .inl ((hq1 b).2 (.inl h))
            · exact .inr (hFu b h)
            · exact .inl ((hq1 b).2 (.inr ((m3 b).2 (.inr h))))) (by
            intro c' hle hw
            rw [k1]
            have hnb : ∀ b, G2 b → b ≠ b' := fun b h e => by subst e; exact k4 ((m3 _).2 (.inr h))
            have hnu : ∀ b, Fu b → b ≠ b' := fun b h e => by subst e; exact hI1.disF q _ (hFu _ h) ((hq1 _).2 (.inl rfl))
            refine ⟨b', putCells arr off us, ty', fun b => Fu b ∨ G2 b, rfl, by rw [hw]; exact row_get (heap_lt k2), ?_, ?_, fun _ => Iff.rfl⟩
            · have hus' := hus.turn hle (fun b hb => by rw [hw]; exact row_ne (hnu b hb))
              have := m4 c' (cellsOf u) us Fu hle (fun b hb => by rw [hw]; exact row_ne (hnb b hb)) hus' (fun b q1 q2 => hI1.disF q b (hFu b q1) ((hq1 b).2 (.inr ((m3 b).2 (.inr q2))))) hsz.symm
              rw [splice_eq _ _ _ (by rw [← hsz]; exact hfit), ← hsz]
              rw [putCells_list _ _ _ (by rw [huslen]; exact harr), huslen]
              exact this
            · rintro (h | h)
              · exact hnu _ h rfl
              · exact hnb _ h rfl)
        exact skip_done (c := c') hK l6 (by rw [l4]; exact h6) (by rw [l2]; exact hrun b' off arr ty' g5 k2 harr)
      · exact h4.elim
    · rename_i q ig cg d0 i e z off
      obtain ⟨t3, rfl, h4⟩ := h3
      dsimp only at h4
      split at h4
      · rename_i c2 d e' xs ig' cg' heq
        obtain ⟨hg2, h5⟩ := guardM_ex h4
        have hig := Nat.eq_of_beq_eq_true hg2
        split at h5
        · rename_i hbeq
          have hee := Ty.beq_eq hbeq
          subst hee
          obtain ⟨hi, h6⟩ := br_fail h5
          have hi' : i < xs.length := by simpa using hi
          obtain ⟨hg3, h7⟩ := guardM_ex h6
          rw [Bool.and_eq_true] at hg3
          have hfit := Nat.le_of_ble_eq_true hg3.1
          have hflat := Nat.eq_of_beq_eq_true hg3.2
          split at h7
          · rename_i yv hof
            obtain ⟨t4, rfl, h8⟩ := h7
            obtain ⟨g1, g2, g3, g4⟩ := hr
            obtain ⟨b, o0, n0, cap0, m1, m2⟩ := (g4 (by rw [heq]; exact hig.symm)).1 rfl
            have hq := hI1.rep q
            rw [heq] at hq
            obtain ⟨ad, cap, k1, k2, k3⟩ := hq
            simp only [List.cons.injEq, and_true] at k1
            rcases k3 with ⟨k3, _⟩ | ⟨b', o', arr, ty', F', n1, n2, n3, n4, n5, n6⟩
            · subst k3; simp at hi'
            · rw [k1, n1] at m1
              injection m1 with e1 e2 e3
              injection e1 with e1
              injection e1 with e1 e4
              subst e1 e4
              have hsize := n4.len (fun x vs F h => RepC.len h)
              obtain ⟨Fn, Fr, q1, q2, q3, q4⟩ := n4.set (fun x vs F h => RepC.len h) hi'
              have hgd : xs.getD i e.dflt = xs[i] := by simp [List.getD_eq_getElem?_getD, hi']
              have hcl : ((arr.toList.drop o').take (xs.length * e.sz)).length = xs.length * e.sz := hsize
              have hbound : o' + i * e.sz + e.sz ≤ arr.size := by
                have : (i + 1) * e.sz ≤ xs.length * e.sz := Nat.mul_le_mul_right _ hi'
                have h3 : xs.length * e.sz ≤ cap * e.sz := Nat.mul_le_mul_right _ k2
                rw [Nat.succ_mul] at this
                omega
              have hsub : ((((arr.toList.drop o').take (xs.length * e.sz)).drop (i * e.sz)).take e.sz) = (arr.toList.drop (o' + i * e.sz)).take e.sz := by
                rw [List.drop_take, List.take_take, List.drop_drop]
                congr 1
                have : (i + 1) * e.sz ≤ xs.length * e.sz := Nat.mul_le_mul_right _ hi'
                rw [Nat.succ_mul] at this
                omega
              rw [hsub] at q1
              have hfl : Fn.none := q1.flatnone hflat
              have hFn : Fn = Nil := FP.eq_of_none hfl
              subst hFn
              have hcel := RepC.cells (c := c1) q1
              rw [hgd] at hof
              have hcelen : (e.cells d xs[i]).length = e.sz := by rw [← hcel.len, RepC.len q1]
              obtain ⟨G1, G2, p1, p2, p3, p4⟩ := hcel.part (off := off) (n := ti.sz) (by rw [hcelen]; exact hfit)
              have hG2 : G2 = Nil := FP.eq_of_none (fun b hb => (p3 b).2 (.inr hb))
              subst hG2
              have hnew := p4 c1 (cellsOf u) us Fu (.refl c1) (fun _ _ => rfl) hus (fun _ _ h => h) hsz.symm
              have hspl : splice (e.cells d xs[i]) off (cellsOf u) = (e.cells d xs[i]).take off ++ cellsOf u ++ (e.cells d xs[i]).drop (off + ti.sz) := by
                rw [splice_eq _ _ _ (by rw [hcelen, ← hsz]; exact hfit), ← hsz]
              rw [← hspl] at hnew
              obtain ⟨va, vb, Fa, Fb, y1, y2, y3, y4, y5⟩ := ofCells_ok hof hnew
              obtain ⟨rfl, y6⟩ := y3
              rw [List.append_nil] at y1
              have hFa : Fa.none := (y2 d (.inl rfl)).flatnone hflat
              have hFa' : Fa = Nil := FP.eq_of_none hFa
              subst hFa'
              have hyv : ∀ c' : Cx, c1.Le c' → RepC c'.w c'.K e d yv (((arr.toList.drop (o' + i * e.sz)).take e.sz).take off ++ us ++ ((arr.toList.drop (o' + i * e.sz)).take e.sz).drop (off + ti.sz)) Nil := fun c' hle => by
                rw [y1]
                exact RepC.keep (w := c1.w) hle.K (y2 d (.inl rfl)) (fun b hb => hb.elim)
              have hq1 : ∀ b, c1.Fq q b ↔ b = b' ∨ F' b := n6
              have harr : o' + i * e.sz + off + ti.sz ≤ arr.size := by omega
              obtain ⟨c', l1, l2, l3, l4, l5, l6⟩ := hI1.writeRow (q := q) (b := b') (arr := arr) (arr' := putCells arr (o' + i * e.sz + off) us) (ty := ty') (p' := .sl (d + 1) e (xs.set i yv)) (F2 := fun b => b = b' ∨ F' b)
                ((hq1 b').2 (.inl rfl)) n2 (fun b h => .inl ((hq1 b).2 h)) (by
                  intro c' hle hw
                  have hnb : ∀ b, F' b → b ≠ b' := fun b h e => by subst e; exact n5 h
                  refine ⟨some ⟨b', o', none⟩, cap, by rw [k1, n1]; simp, by simpa using k2, .inr ⟨b', o', putCells arr (o' + i * e.sz + off) us, ty', F', rfl, by rw [hw]; exact row_get (heap_lt n2), by rw [putCells_size]; exact n3, ?_, n5, fun _ => Iff.rfl⟩⟩
                  have hset := q4 yv _ Nil (RepC.keep (w := c1.w) (K := c1.K) (fun _ _ _ h => h) (hyv c1 (.refl c1)) (fun b hb => hb.elim)) (fun _ h => h.elim)
                  have e1 : (fun b => Nil b ∨ Fr b) = F' := by
                    rw [nil_or]
                    exact FP.ext fun b => ⟨fun h => (q3 b).2 (.inr h), fun h => ((q3 b).1 h).elim (fun h => h.elim) id⟩
                  rw [e1] at hset
                  have hset' := hset.mono (R' := RepC c'.w c'.K e d) (fun x vs F'' _ hF h => RepC.keep hle.K h (fun b hb => by rw [hw]; exact row_ne (hnb b (hF b hb))))
                  rw [putCells_list _ _ _ (by rw [huslen]; exact harr), huslen, List.length_set]
                  have hisz : i * e.sz + e.sz ≤ xs.length * e.sz := by
                    have : (i + 1) * e.sz ≤ xs.length * e.sz := Nat.mul_le_mul_right _ hi'
                    rwa [Nat.succ_mul] at this
                  rw [list_write huslen hfit hisz (by
                    have h3 : xs.length * e.sz ≤ cap * e.sz := Nat.mul_le_mul_right _ k2
                    simp; omega)]
                  exact hset')
              exact skip_done (c := c') hK l6 (by rw [l4]; exact h8) (by rw [l2]; exact hrun b' _ arr ty' m2 n2 harr)
          · exact h7.elim
        · exact h5.elim
      · exact h4.elim
    · exact h3.elim
end
end Go.VI
