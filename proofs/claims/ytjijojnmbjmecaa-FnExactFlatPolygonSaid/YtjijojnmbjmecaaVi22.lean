/-
  An interpreter of the functions of a program as plain functions of lists and numbers, part 22: what it computes is what the program does. No condition but those that its theorems name.
-/
import Derived.Test.YtjijojnmbjmecaaVi21
set_option linter.unusedVariables false
set_option linter.constructorNameAsVariable false
namespace Go.VI
section
variable {P : Program} {R : FnRel} {st : Sta} {reg idx : Nat} {Q : Exit → Act → World → Prop} {B : Base} {K : Act → World → Prop} {c : Cx} {a : Act} {s' : St} {t : Tr} {o : Oper}
theorem app_grown (hS : StOk P st) {ty T_ : TypeId} {e : Ty} (he : elB st ty e = true) {F Fo Gy : FP} {n : Nat} (hI : InvF B n c a F) {xs ys : List e.D} {D cap cy : Nat} {ad ay : Option Addr} {olds news : List Value}
    (ho : Elems (RepC c.w c.K e D) xs olds Fo) (hn : Elems (RepC c.w c.K e D) ys news Gy) (hF : ∀ b, Fo b ∨ Gy b → F b) (hdis : Fo.dis Gy)
    (hold : (ad = none ∧ xs.length = 0 ∧ cap = 0) ∨ ∃ b, ad = some b ∧ ∀ j u, olds[j]? = some u → c.w.cell? (b.add j) = some u)
    (hnew : ∃ b o, ay = some ⟨b, o, none⟩ ∧ ∀ j u, news[j]? = some u → c.w.cell? ⟨b, o + j, none⟩ = some u) (hm : 0 < ys.length) (hg : cap < xs.length + ys.length) (hlim : xs.length + ys.length ≤ LIM) :
    ∃ c' F' v, c.Le c' ∧ InvF B n c' a F' ∧ RepV c' (.sl (D + 1) e (xs ++ ys)) v F' ∧ (Builtin.append_ #[ty, ty] T_ #[.slice ad xs.length cap, .slice ay ys.length cy]).run P c.w = .ok v c'.w ∧ c'.S = c.S := by
  have hR : ∀ x vs F, RepC c.w c.K e D x vs F → vs.length = e.sz := fun x vs F h => h.len
  obtain ⟨cap', arr', el, w', r1, r2, r3, r4, r5, r6, r7, r8, r9, r10, r11⟩ := run_app_grow (P := P) (T_ := T_) (cy := cy) hS he (ho.len hR) (hn.len hR) hold hnew hm hg hlim
  have happ := ho.append hn hdis
  have hrow := row_ok (st := { st with n := n }) (d := D) (cap := cap') (xs := xs ++ ys) (arr := arr') (ty := el) (w' := w') hI hF (by rw [List.length_append, r3]; exact happ) r4 (by rw [List.length_append]; exact r5) r6 r2
  have hI' : InvF B n { c with w := w' } a (fun b => b = c.w.heap.size ∨ Fo b ∨ Gy b) := hI.grow (hdr := r11) r6 (by omega) r8 r9 r10 (by
    rintro b (h | h)
    · exact .inr (by omega)
    · exact .inl (hF b h))
  refine ⟨{ c with w := w' }, _, _, .grow r6, hI', hrow, ?_, rfl⟩
  rw [r1, List.length_append]
theorem app_own (hS : StOk P st) {ty T_ : TypeId} {e : Ty} (he : elB st ty e = true) {F F1 G : FP} {n : Nat} (hI : InvF B n c a F) {xs ys : List e.D} {d de D cap : Nat} {vx vy : Value} {ad : Option Addr} {news : List Value}
    (hx : RepC c.w c.K (.l e) (d + 1) xs [vx] F1) (hy : Src c e de ys vy G ad cap news) (hF1 : ∀ b, F1 b → F b) (hG : ∀ b, G b → F b) (hdis : F1.dis G) (hD : D ≤ d) (hDe : D ≤ de) (hlim : xs.length + ys.length ≤ LIM) :
    ∃ c' F' v, c.Le c' ∧ InvF B n c' a F' ∧ RepV c' (.sl (D + 1) e (xs ++ ys)) v F' ∧ (Builtin.append_ #[ty, ty] T_ #[vx, vy]).run P c.w = .ok v c'.w ∧ c'.S = c.S := by
  have hfirst := hy.first (P := P)
  have hcell := hy.cell
  have hval := hy.val
  obtain ⟨Fx, hx1, hx2⟩ := RepC.lower (t := .l e) (d := d + 1) (d' := D + 1) (by omega) hx
  obtain ⟨Gy, hy1, hy2⟩ := Elems.lower (fun x vs F h => RepC.lower hDe h) ys news G hy.elems
  obtain ⟨c1, m1, m2, m3, m4, m5, m6⟩ := hI.ghost (F' := fun b => Fx b ∨ Gy b) (fun b hb => hb.elim (fun h => hF1 b (hx1 b h)) (fun h => hG b (hy1 b h)))
  have rx := hx2 c1.K m1.K (fun b o v q1 q2 q3 => m5 b o v (hF1 b q1) (fun h => h.elim q2 (fun h => hdis b q1 (hy1 b h))) q3)
  have ry := hy2 c1.K m1.K (fun b o v q1 q2 q3 => m5 b o v (hG b q1) (fun h => h.elim (fun h => hdis b (hx1 b h) q1) q2) q3)
  have hdxy : Fx.dis Gy := fun b q1 q2 => hdis b (hx1 b q1) (hy1 b q2)
  rw [← m2] at rx ry hfirst hcell
  rw [← m2]
  obtain ⟨adx, capx, h1, h2, h3⟩ := rx
  simp only [List.cons.injEq, and_true] at h1
  have hlen : Builtin.lenOf vy = pure ys.length := by rw [hval]; rfl
  by_cases hroom : xs.length + ys.length ≤ capx
  · rcases h3 with ⟨rfl, h0, h4⟩ | ⟨b, o, arr, tyr, F', k1, k2, k3, k4, k5, k6⟩
    · have hys : ys = [] := by subst h0; exact List.eq_nil_of_length_eq_zero (by simpa using hroom)
      subst hys
      refine ⟨c1, _, vx, m1, m6.sub (F' := Nil) (fun b h => h.elim), ⟨adx, capx, by rw [h1]; rfl, Nat.zero_le _, .inl ⟨rfl, h0, no_none⟩⟩, ?_, m3⟩
      have hnews : news = [] := ry.1
      subst hnews
      have := run_app_room (P := P) (T_ := T_) hS he (n := 0) (cap := capx) (ad := adx) hlen hfirst.2 hroom (w' := c1.w) (by cases adx <;> rfl)
      rw [h1]
      exact this
    · have hsz : news.length = ys.length * e.sz := hfirst.1
      have hfit : o + xs.length * e.sz + news.length ≤ arr.size := by
        have : (xs.length + ys.length) * e.sz ≤ capx * e.sz := Nat.mul_le_mul_right _ hroom
        rw [Nat.add_mul] at this
        omega
      obtain ⟨w1, w2⟩ := m6.writeFloat (b := b) (arr := arr) (arr' := putCells arr (o + xs.length * e.sz) news) (ty := tyr) (.inl ((k6 b).2 (.inl rfl))) k2
      have hnb : ∀ b', Fx b' ∨ Gy b' → b' ≠ b → (World.row c1.w b (putCells arr (o + xs.length * e.sz) news) tyr).heap[b']? = c1.w.heap[b']? := fun b' _ hne => row_ne hne
      have hbG : ¬ Gy b := fun h => hdxy b ((k6 b).2 (.inl rfl)) h
      refine ⟨_, fun b' => b' = b ∨ F' b' ∨ Gy b', .slice adx (xs ++ ys).length capx, m1.trans w1, w2.sub ?_, ?_, ?_, m3⟩
      · rintro b' (q | q | q)
        · subst q; exact .inl ((k6 _).2 (.inl rfl))
        · exact .inl ((k6 _).2 (.inr q))
        · exact .inr q
      · refine ⟨adx, capx, rfl, by rw [List.length_append]; exact hroom, .inr ⟨b, o, putCells arr (o + xs.length * e.sz) news, tyr, fun b' => F' b' ∨ Gy b', k1, row_get (heap_lt k2), by rw [putCells_size]; exact k3, ?_, fun h => h.elim k5 hbG, fun _ => Iff.rfl⟩⟩
        have e1 := putCells_list news arr (o + xs.length * e.sz) hfit
        have e2 : ((putCells arr (o + xs.length * e.sz) news).toList.drop o).take ((xs ++ ys).length * e.sz) = (arr.toList.drop o).take (xs.length * e.sz) ++ news := by
          rw [e1, List.length_append, Nat.add_mul, ← hsz]
          have hl1 : (arr.toList.take (o + xs.length * e.sz)).length = o + xs.length * e.sz := by simp; omega
          rw [List.append_assoc, List.drop_append_of_le_length (by rw [hl1]; omega)]
          have e3 : (arr.toList.take (o + xs.length * e.sz)).drop o = (arr.toList.drop o).take (xs.length * e.sz) := by
            rw [List.drop_take]; congr 1; omega
          rw [e3]
          have hl2 : ((arr.toList.drop o).take (xs.length * e.sz)).length = xs.length * e.sz := by simp; omega
          rw [← List.append_assoc]
          have : xs.length * e.sz + news.length = ((arr.toList.drop o).take (xs.length * e.sz) ++ news).length := by rw [List.length_append, hl2]
          rw [this, List.take_left]
        rw [e2]
        have k4' : Elems (RepC (World.row c1.w b (putCells arr (o + xs.length * e.sz) news) tyr) c1.K e D) xs ((arr.toList.drop o).take (xs.length * e.sz)) F' :=
          k4.mono fun x vs F'' _ hF'' h => h.keep (fun _ _ _ h => h) (fun b' hb' => row_ne (fun e => by subst e; exact k5 (hF'' _ hb')))
        have ry' : Elems (RepC (World.row c1.w b (putCells arr (o + xs.length * e.sz) news) tyr) c1.K e D) ys news Gy :=
          ry.mono fun x vs F'' _ hF'' h => h.keep (fun _ _ _ h => h) (fun b' hb' => row_ne (fun e => by subst e; exact hbG (hF'' _ hb')))
        exact k4'.append ry' (fun b' q1 q2 => hdxy b' ((k6 b').2 (.inr q1)) q2)
      · have hst := storeCells_ok (P := P) news c1.w arr 0 (b := b) (o := o + xs.length * e.sz) k2 (by omega) (Elems.one ry)
        have := run_app_room (P := P) (T_ := T_) hS he (n := xs.length) (cap := capx) (ad := adx) (m := ys.length) (y := vy) (w := c1.w) hlen hfirst.2 hroom (w' := World.row c1.w b (putCells arr (o + xs.length * e.sz) news) tyr) (by
          rw [k1]
          show (storeCells ((⟨b, o, none⟩ : Addr).add (xs.length * e.sz)) news).run P c1.w = _
          rw [add_addr]
          simpa using hst)
        rw [h1, List.length_append]
        exact this
  · have hys : 0 < ys.length := by omega
    have hnew := hcell (fun e => by rw [e] at hys; simp at hys)
    rw [h1, hval]
    rcases h3 with ⟨rfl, h0, h4⟩ | ⟨b, o, arr, tyr, F', k1, k2, k3, k4, k5, k6⟩
    · obtain ⟨c2, F2, v, q1, q2, q3, q4, q5⟩ := app_grown (T_ := T_) (cy := cap) (ad := adx) (cap := capx) hS he m6 (xs := []) (olds := []) (Fo := Nil) ⟨rfl, no_none⟩ ry (fun b h => h.elim (fun h => h.elim) .inr) (fun _ h => h.elim) (by
        cases adx with
        | none => exact .inl ⟨rfl, rfl, h0⟩
        | some ad => exact .inr ⟨ad, rfl, fun j u h => by simp at h⟩) hnew hys (by omega) hlim
      exact ⟨c2, F2, v, m1.trans q1, q2, q3, q4, q5.trans m3⟩
    · obtain ⟨c2, F2, v, q1, q2, q3, q4, q5⟩ := app_grown (T_ := T_) (cy := cap) (ad := adx) (cap := capx) hS he m6 k4 ry (fun b h => h.elim (fun h => .inl ((k6 b).2 (.inr h))) .inr) (fun b q1 q2 => hdxy b ((k6 b).2 (.inr q1)) q2) (.inr ⟨_, k1, fun j u h => by
        rw [add_addr]; exact cell_of_arr k2 j u h⟩) hnew hys (by omega) hlim
      exact ⟨c2, F2, v, m1.trans q1, q2, q3, q4, q5.trans m3⟩
theorem app_cap (hS : StOk P st) {ty T_ : TypeId} {e : Ty} (he : elB st ty e = true) {F G : FP} {n : Nat} (hI : InvF B n c a F) {xs ys : List e.D} {de cap : Nat} {vx vy : Value} {ad : Option Addr} {news : List Value}
    (hx : ∃ F1, RepC c.w c.K (.l e) 0 xs [vx] F1) (hc : ∃ ad, vx = .slice ad xs.length xs.length) (hy : Src c e de ys vy G ad cap news) (hG : ∀ b, G b → F b) (hne : xs.length = 0 ∨ 0 < ys.length) (hlim : xs.length + ys.length ≤ LIM) :
    ∃ c' F' v, c.Le c' ∧ InvF B n c' a F' ∧ RepV c' (.sl 1 e (xs ++ ys)) v F' ∧ (Builtin.append_ #[ty, ty] T_ #[vx, vy]).run P c.w = .ok v c'.w ∧ c'.S = c.S := by
  obtain ⟨F1, hx⟩ := hx
  obtain ⟨adx, h1⟩ := hc
  have hfirst := hy.first (P := P)
  have hval := hy.val
  have hlen : Builtin.lenOf vy = pure ys.length := by rw [hval]; rfl
  by_cases hys : ys.length = 0
  · have hx0 : xs.length = 0 := by omega
    have ex : xs = [] := List.eq_nil_of_length_eq_zero hx0
    have ey : ys = [] := List.eq_nil_of_length_eq_zero hys
    subst ex
    subst ey
    have hnews : news = [] := hy.elems.1
    subst hnews
    refine ⟨c, Nil, vx, .refl c, hI.sub (fun b h => h.elim), ⟨adx, 0, by rw [h1]; rfl, Nat.le_refl _, .inl ⟨rfl, rfl, no_none⟩⟩, ?_, rfl⟩
    have := run_app_room (P := P) (T_ := T_) hS he (n := 0) (cap := 0) (ad := adx) hlen hfirst.2 (Nat.le_refl _) (w' := c.w) (by cases adx <;> rfl)
    rw [h1]
    exact this
  · have hys' : 0 < ys.length := by omega
    obtain ⟨Gy, hy1, hy2⟩ := Elems.lower (d' := 0) (fun x vs F h => RepC.lower (Nat.zero_le _) h) ys news G hy.elems
    obtain ⟨c1, m1, m2, m3, m4, m5, m6⟩ := hI.ghost (F' := Gy) (fun b hb => hG b (hy1 b hb))
    have ry := hy2 c1.K m1.K (fun b o v q1 q2 q3 => m5 b o v (hG b q1) q2 q3)
    have hx' : RepC c1.w c1.K (.l e) 0 xs [vx] F1 := hx.keep m1.K (fun _ _ => by rw [m2])
    obtain ⟨ad', cap', olds, Go, so, hsub⟩ := src_own m6 hx'
    have hnew := hy.cell (fun e => by rw [e] at hys'; simp at hys')
    have hv' := so.val
    rw [h1] at hv'
    injection hv' with hv1 hv2 hv3
    subst hv1
    subst hv3
    rw [← m2] at ry hnew
    rw [← m2, h1, hval]
    have hGo : Go = Nil := FP.ext fun b => ⟨fun h => (hx'.none0 b (hsub b h)).elim, fun h => h.elim⟩
    have se := so.elems
    rw [hGo] at se
    obtain ⟨c2, F2, v, q1, q2, q3, q4, q5⟩ := app_grown (T_ := T_) (cy := cap) (ad := adx) (cap := xs.length) hS he m6 se ry (fun b h => h.elim (fun h => h.elim) id) (fun _ h => h.elim) (by
      by_cases hxs : xs = []
      · cases adx with
        | none => exact .inl ⟨rfl, by rw [hxs]; rfl, by rw [hxs]; rfl⟩
        | some ad =>
          refine .inr ⟨ad, rfl, fun j u h => ?_⟩
          subst hxs
          have : olds = [] := se.1
          rw [this] at h; simp at h
      · obtain ⟨b, o, e1, e2⟩ := so.cell hxs
        exact .inr ⟨_, e1, fun j u h => by rw [add_addr]; exact e2 j u h⟩) hnew hys' (by omega) hlim
    exact ⟨c2, F2, v, m1.trans q1, q2, q3, q4, q5.trans m3⟩
theorem appM_ok (hS : StOk P st) {ty T_ : TypeId} {F1 F2 : FP} {p : PV} {vx vy : Value} {e' : Nat} {t' : Ty} {ys : List t'.D} {ad : Option Addr} {cap : Nat} {news : List Value} {k : PV → M Unit} (hI : InvF B st.n c a (fun b => F1 b ∨ F2 b)) (hx : RepV c p vx F1)
    (hy : Src c t' (e' - 1) ys vy F2 ad cap news) (hd : F1.dis F2) (h : (appM st ty p e' t' ys k).Ex R c.S () s' t) :
    ∃ q v c' F' t', (k q).Ex R c'.S () s' t' ∧ InvF B st.n c' a F' ∧ RepV c' q v F' ∧ (Builtin.append_ #[ty, ty] T_ #[vx, vy]).run P c.w = .ok v c'.w := by
  unfold appM at h
  split at h
  · rename_i d e xs
    obtain ⟨he, h1⟩ := guardM_ex h
    split at h1
    · rename_i hb
      obtain rfl := Ty.beq_eq hb
      obtain ⟨hlim, h2⟩ := br_fail h1
      have hlim := of_decide_eq_true hlim
      obtain ⟨c', F', v, g1, g2, g3, g4, g5⟩ := app_own (T_ := T_) hS he hI hx hy (fun b h => .inl h) (fun b h => .inr h) hd (D := min d (e' - 1)) (Nat.min_le_left _ _) (Nat.min_le_right _ _) hlim
      have e1 : min (d + 1) (max e' 1) = min d (e' - 1) + 1 := by omega
      rw [e1] at h2
      exact ⟨_, v, c', F', t, by rw [g5]; exact h2, g2, g3, g4⟩
    · exact h1.elim
  · rename_i e xs
    obtain ⟨he, h1⟩ := guardM_ex h
    split at h1
    · rename_i hb
      obtain rfl := Ty.beq_eq hb
      obtain ⟨hne, h1⟩ := br_fail h1
      obtain ⟨hlim, h2⟩ := br_fail h1
      have hlim := of_decide_eq_true hlim
      have hne' : xs.length = 0 ∨ 0 < ys.length := by
        rw [Bool.or_eq_true] at hne
        exact hne.imp (fun h => Nat.eq_of_beq_eq_true h) (fun h => of_decide_eq_true h)
      obtain ⟨c', F', v, g1, g2, g3, g4, g5⟩ := app_cap (T_ := T_) hS he hI ⟨_, hx.1⟩ hx.2 hy (fun b h => .inr h) hne' hlim
      exact ⟨_, v, c', F', t, by rw [g5]; exact h2, g2, g3, g4⟩
    · exact h1.elim
  · exact h.elim
theorem op_append (hS : StOk P st) {cl : Call} {x y : Operand} {ty u : TypeId} (ho : o.op = .call cl) (hc : cl.callee = .builtin .append) (hz : cl.args.toList.zip cl.argTypes.toList = [(x, ty), (y, u)]) (hsz : cl.args.size = cl.argTypes.size) (hI : InvF B st.n c a Nil) (hK : ∀ a' w', Inv B st.n s' a' w' → K a' w')
    (h : (builtinM st .append [(x, ty), (y, u)] (putM st o.dst)).Ex R c.S () s' t) : o.wp P a c.w K Q := by
  obtain ⟨ha, hat⟩ := append_args hz hsz
  unfold builtinM at h
  obtain ⟨hu, h⟩ := guardM_ex h
  obtain rfl := Nat.eq_of_beq_eq_true hu
  obtain ⟨p, t1, c1, F1, h1, hle1, hw1, hk1, hr1, hd1, hI1⟩ := ro_ex hI h
  rw [nil_or] at hI1
  obtain ⟨q, t2, c2, F2, h2, hle2, hw2, hk2, hr2, hd2, hI2⟩ := ro_ex hI1 h1
  have hr1' : RepV c2 p (a.eval x) F1 := hr1.turn hle2 (fun _ _ => by rw [hw2])
  have fin : ∀ {e' : Nat} {t' : Ty} {ys : List t'.D} {F2' : FP} {ad : Option Addr} {cap : Nat} {news : List Value} {t3 : Tr}, (∀ b, F2' b → F2 b) → Src c2 t' (e' - 1) ys (a.eval y) F2' ad cap news → (appM st ty p e' t' ys (putM st o.dst)).Ex R c2.S () s' t3 → o.wp P a c.w K Q := by
    intro e' t' ys F2' ad cap news t3 hsub hsrc h3
    obtain ⟨q', v, c', F', t4, g1, g2, g3, g4⟩ := appM_ok (T_ := o.type) hS (hI2.sub (F' := fun b => F1 b ∨ F2' b) (fun b hb => hb.imp id (hsub b))) hr1' hsrc (fun b q1 q2 => hd2 b q1 (hsub b q2)) h3
    refine val_done hK g2 g3 (fun _ h => h) g1 (builtin_run ho hc (fun _ => rfl) ?_)
    rw [ha, hat, ← hw1, ← hw2]
    simpa using g4
  split at h2
  · rename_i e' t' ys
    obtain ⟨ad, cap, news, G, g1, g2⟩ := src_own hI2 hr2
    exact fin g2 g1 h2
  · rename_i t' ys
    obtain ⟨ad, cap, news, G, g1, g2⟩ := src_own hI2 hr2.1
    exact fin (e' := 0) g2 g1 h2
  · rename_i bn t' ys
    obtain ⟨ad, cap, news, G, g1, g2⟩ := src_own hI2 hr2.1
    exact fin (e' := 0) g2 g1 h2
  · rename_i q' path ig cg e' wh base t' ys
    obtain ⟨v1, v2, t3, h3⟩ := valid_ex h2
    obtain ⟨hg, h4⟩ := guardM_ex h3
    rw [Bool.or_eq_true] at hg
    obtain ⟨ad, cap, news, g1⟩ := src_bor hI2 ((hr2.2.2.2 v1).2.1 v2) (hg.imp (fun h => Nat.eq_of_beq_eq_true h) (fun h => Nat.eq_of_beq_eq_true h))
    exact fin (e' := 0) (fun _ h => h.elim) g1 h4
  · exact h2.elim
end
end Go.VI
