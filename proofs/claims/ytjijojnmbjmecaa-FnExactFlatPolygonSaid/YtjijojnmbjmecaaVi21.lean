/-
  An interpreter of the functions of a program as plain functions of lists and numbers, part 21: what it computes is what the program does. No condition but those that its theorems name.
-/
import Derived.Test.YtjijojnmbjmecaaVi20
set_option linter.unusedVariables false
set_option linter.constructorNameAsVariable false
namespace Go.VI
section
variable {P : Program} {R : FnRel} {st : Sta} {reg idx : Nat} {Q : Exit → Act → World → Prop} {B : Base} {K : Act → World → Prop} {c : Cx} {a : Act} {s' : St} {t : Tr} {o : Oper}
theorem RepC.one {w : World} {Kn_ : Kn} : ∀ {t : Ty} {d : Nat} {x : t.D} {vs : List Value} {F : FP}, RepC w Kn_ t d x vs F → ∀ v ∈ vs, oneCell v = true
  | .i _, _, _, _, _, h => by rw [h.1]; simp [oneCell]
  | .b, _, _, _, _, h => by rw [h.1]; simp [oneCell]
  | .s, _, _, _, _, h => by rw [h.1]; simp [oneCell]
  | .p x y, d, v, vs, F, ⟨va, vb, Fa, Fb, h1, h2, h3, _⟩ => by
    subst h1
    intro u hu
    rcases List.mem_append.1 hu with h | h
    · exact h2.one u h
    · exact h3.one u h
  | .l e, d, xs, vs, F, ⟨ad, cap, h1, _⟩ => by rw [h1]; simp [oneCell]
theorem Elems.one {w : World} {Kn_ : Kn} {e : Ty} {d : Nat} : ∀ {xs : List e.D} {vs : List Value} {F : FP}, Elems (RepC w Kn_ e d) xs vs F → ∀ v ∈ vs, oneCell v = true
  | [], vs, F, h => by rw [h.1]; simp
  | x :: xs, vs, F, ⟨va, vb, Fa, Fb, h1, h2, h3, _⟩ => by
    subst h1
    intro u hu
    rcases List.mem_append.1 hu with h | h
    · exact h2.one u h
    · exact h3.one u h
/-- Elements that are appended: what they are, and where they may be read. -/
structure Src (c : Cx) (e : Ty) (d : Nat) (ys : List e.D) (v : Value) (F : FP) (ad : Option Addr) (cap : Nat) (news : List Value) : Prop where
  val : v = .slice ad ys.length cap
  elems : Elems (RepC c.w c.K e d) ys news F
  cell : ys ≠ [] → ∃ b o, ad = some ⟨b, o, none⟩ ∧ ∀ j u, news[j]? = some u → c.w.cell? ⟨b, o + j, none⟩ = some u
theorem src_own {n : Nat} {F0 : FP} (hI : InvF B n c a F0) {e : Ty} {d : Nat} {ys : List e.D} {v : Value} {F : FP} (h : RepC c.w c.K (.l e) d ys [v] F) :
    ∃ ad cap news G, Src c e (d - 1) ys v G ad cap news ∧ ∀ b, G b → F b := by
  obtain ⟨ad, cap, h1, h2, h3⟩ := h
  simp only [List.cons.injEq, and_true] at h1
  cases d with
  | zero =>
    obtain ⟨g1, g2⟩ := h3
    rcases g2 with rfl | ⟨b, o, cs, k1, k2, k3⟩
    · exact ⟨ad, cap, [], Nil, ⟨h1, ⟨rfl, no_none⟩, fun h => (h rfl).elim⟩, fun _ h => h.elim⟩
    · exact ⟨ad, cap, cs, _, ⟨h1, k3, fun _ => ⟨b, o, k1, fun j u hu => hI.holds _ _ _ (k2 j u hu)⟩⟩, fun _ h => h.elim⟩
  | succ d =>
    rcases h3 with ⟨rfl, _, _⟩ | ⟨b, o, arr, ty, F', k1, k2, k3, k4, k5, k6⟩
    · exact ⟨ad, cap, [], Nil, ⟨h1, ⟨rfl, no_none⟩, fun h => (h rfl).elim⟩, fun _ h => h.elim⟩
    · exact ⟨ad, cap, _, F', ⟨h1, k4, fun _ => ⟨b, o, k1, cell_of_arr k2⟩⟩, fun b hb => (k6 b).2 (.inr hb)⟩
theorem src_bor {n : Nat} {F0 : FP} (hI : InvF B n c a F0) {e : Ty} {d : Nat} {ys : List e.D} {v : Value} {q : Loc} (h : RepR (Kx c.w c.K (c.Fq q)) c.K (.l e) d ys [v]) (hd : e.dep = 0 ∨ d = 1) :
    ∃ ad cap news, Src c e 0 ys v Nil ad cap news := by
  obtain ⟨ad, cap, h1, h2, h3⟩ := h
  simp only [List.cons.injEq, and_true] at h1
  rcases h3 with rfl | ⟨b, o, cs, k1, k2, k3⟩
  · exact ⟨ad, cap, [], ⟨h1, ⟨rfl, no_none⟩, fun h => (h rfl).elim⟩⟩
  · refine ⟨ad, cap, cs, ⟨h1, ?_, fun _ => ⟨b, o, k1, fun j u hu => ?_⟩⟩⟩
    · refine k3.mono fun x vs F _ hF h => ?_
      have e1 : F = Nil := FP.ext fun b => ⟨fun h' => (h.2 b h').elim, fun h' => h'.elim⟩
      rw [e1]
      rcases hd with hd | hd
      · exact h.1.flat hd 0
      · subst hd
        exact h.1.zero
    · have := k2 j u hu
      cases d with
      | zero => exact hI.holds _ _ _ this
      | succ d =>
        rcases this with hk | ⟨_, hk⟩
        · exact hI.holds _ _ _ hk
        · exact hk
theorem Src.first {e : Ty} {d : Nat} {ys : List e.D} {v : Value} {F : FP} {ad : Option Addr} {cap : Nat} {news : List Value} (h : Src c e d ys v F ad cap news) :
    news.length = ys.length * e.sz ∧ (Builtin.firstCells e.sz ys.length v).run P c.w = .ok news.toArray c.w := by
  have hl := h.elems.len (fun x vs F (h : RepC c.w c.K e d x vs F) => h.len)
  refine ⟨hl, ?_⟩
  rw [h.val]
  cases ys with
  | nil =>
    have : news = [] := h.elems.1
    subst this
    cases ad with
    | none => rfl
    | some ad => simp [Builtin.firstCells, loadCells, loadCellsFrom]
  | cons y ys =>
    obtain ⟨b, o, e1, e2⟩ := h.cell (by simp)
    subst e1
    unfold Builtin.firstCells
    rw [← hl]
    exact loadCells_ok news e2
theorem append_args {cl : Call} {x y : Operand} {t u : TypeId} (hz : cl.args.toList.zip cl.argTypes.toList = [(x, t), (y, u)]) (hsz : cl.args.size = cl.argTypes.size) : cl.args = #[x, y] ∧ cl.argTypes = #[t, u] := by
  obtain ⟨cb, xs, ts⟩ := cl
  obtain ⟨xs⟩ := xs
  obtain ⟨ts⟩ := ts
  simp only [List.size_toArray] at hsz hz ⊢
  match xs, ts, hsz, hz with
  | [], _, _, hz => simp at hz
  | [_], [], hsz, _ => simp at hsz
  | [_], [_], _, hz => simp at hz
  | [_], _ :: _ :: _, hsz, _ => simp at hsz
  | [_, _], [], hsz, _ => simp at hsz
  | [_, _], [_], hsz, _ => simp at hsz
  | [x1, x2], [t1, t2], _, hz => simp at hz; simp [hz.1, hz.2]
  | [_, _], _ :: _ :: _ :: _, hsz, _ => simp at hsz
  | _ :: _ :: _ :: _, [], hsz, _ => simp at hsz
  | _ :: _ :: _ :: _, [_], hsz, _ => simp at hsz
  | _ :: _ :: _ :: _, [_, _], hsz, _ => simp at hsz
  | _ :: _ :: _ :: _, _ :: _ :: _ :: _, _, hz => simp at hz
theorem run_app_room (hS : StOk P st) {t T_ : TypeId} {e : Ty} (he : elB st t e = true) {n cap m : Nat} {ad : Option Addr} {y : Value} {w : World} {news : List Value} (hl : Builtin.lenOf y = pure m) (hf : (Builtin.firstCells e.sz m y).run P w = .ok news.toArray w) (hroom : n + m ≤ cap)
    {w' : World} (hst : (match ad with | some a => storeCells (a.add (n * e.sz)) news | none => pure () : Sem Unit).run P w = .ok () w') :
    (Builtin.append_ #[t, t] T_ #[.slice ad n cap, y]).run P w = .ok (.slice ad (n + m) cap) w' := by
  obtain ⟨el, te, i, z, g1, g2, g3, g4, g5, g6, g7, g8, g9⟩ := elB_ok2 hS he
  have hso : (sizeOf el).run P w = .ok e.sz w := by rw [run_sizeOf hS g2, g3]
  unfold Builtin.append_
  simp only [List.getElem?_toArray, List.getElem?_cons_zero, List.getElem?_cons_succ, Sem.run_bind, run_underlying g1, Result.andThen_ok, hso, hl, Sem.run_pure]
  simp only [Bool.false_eq_true, if_false, Bool.not_false, if_true, hroom, Sem.run_bind, Sem.run_pure, Result.andThen_ok, hl, hf]
  cases ad with
  | none =>
    simp only [Sem.run_pure, Result.ok.injEq, true_and] at hst
    subst hst
    simp only [Sem.run_bind, Sem.run_pure, Result.andThen_ok]
  | some a =>
    simp only [Sem.run_bind, Sem.run_pure, Result.andThen_ok, hst]
theorem run_app_grow (hS : StOk P st) {t T_ : TypeId} {e : Ty} (he : elB st t e = true) {n cap m cy : Nat} {ad ay : Option Addr} {w : World} {olds news : List Value} (hol : olds.length = n * e.sz) (hnl : news.length = m * e.sz)
    (hold : (ad = none ∧ n = 0 ∧ cap = 0) ∨ ∃ b, ad = some b ∧ ∀ j u, olds[j]? = some u → w.cell? (b.add j) = some u)
    (hnew : ∃ b o, ay = some ⟨b, o, none⟩ ∧ ∀ j u, news[j]? = some u → w.cell? ⟨b, o + j, none⟩ = some u) (hm : 0 < m) (hg : cap < n + m) (hlim : n + m ≤ LIM) :
    ∃ cap' arr' el w', (Builtin.append_ #[t, t] T_ #[.slice ad n cap, .slice ay m cy]).run P w = .ok (.slice (some ⟨w.heap.size, 0, none⟩) (n + m) cap') w' ∧ w'.heap[w.heap.size]? = some (.cells arr' el (0, 0)) ∧
      arr'.toList.take ((n + m) * e.sz) = olds ++ news ∧ cap' * e.sz ≤ arr'.size ∧ n + m ≤ cap' ∧ (∀ b, b < w.heap.size → w'.heap[b]? = w.heap[b]?) ∧ w'.heap.size = w.heap.size + 1 ∧ w'.os = w.os ∧ w'.tape = w.tape ∧ w'.output = w.output ∧ w.drawn ≤ w'.drawn := by
  obtain ⟨el, te, i, z, g1, g2, g3, g4, g5, g6, g7, g8, g9⟩ := elB_ok2 hS he
  obtain ⟨b, o, rfl, hnew⟩ := hnew
  have hnew' : ∀ j u, news[j]? = some u → w.cell? ((⟨b, o, none⟩ : Addr).add j) = some u := fun j u hu => by rw [add_addr]; exact hnew j u hu
  have hlim' : n + m ≤ 1099511627776 := hlim
  have hb : (n + m) * i.bytes ≤ 140737488355328 := Nat.le_trans (Nat.mul_le_mul hlim' g7) (by decide)
  have hzs : z.cells.size = e.sz := by rw [← Array.length_toList, g9, Ty.zeroVals_len]
  have fin : ∀ (arr' : Array Value) (cap' : Nat), arr' = olds.toArray ++ news.toArray ++ Builtin.zeroCells z.cells (cap' - (n + m)) → n + m ≤ cap' →
      (Builtin.append_ #[t, t] T_ #[.slice ad n cap, .slice (some ⟨b, o, none⟩) m cy]).run P w = .ok (.slice (some ⟨w.heap.size, 0, none⟩) (n + m) cap') (w.drew.alloc (.cells arr' el)) → ∃ cap' arr' el w', (Builtin.append_ #[t, t] T_ #[.slice ad n cap, .slice (some ⟨b, o, none⟩) m cy]).run P w = .ok (.slice (some ⟨w.heap.size, 0, none⟩) (n + m) cap') w' ∧ w'.heap[w.heap.size]? = some (.cells arr' el (0, 0)) ∧
      arr'.toList.take ((n + m) * e.sz) = olds ++ news ∧ cap' * e.sz ≤ arr'.size ∧ n + m ≤ cap' ∧ (∀ b, b < w.heap.size → w'.heap[b]? = w.heap[b]?) ∧ w'.heap.size = w.heap.size + 1 ∧ w'.os = w.os ∧ w'.tape = w.tape ∧ w'.output = w.output ∧ w.drawn ≤ w'.drawn := by
    intro arr' cap' ha hc hr
    refine ⟨cap', arr', el, _, hr, heap_alloc_new w.drew _, ?_, ?_, hc, fun k hk => heap_alloc_old w.drew _ k hk, by simp, rfl, rfl, rfl, Nat.le_succ _⟩
    · rw [ha]
      have : (n + m) * e.sz = (olds ++ news).length := by rw [List.length_append, hol, hnl, Nat.add_mul]
      rw [this]
      simp only [Array.toList_append]
      exact List.take_left
    · rw [ha]
      simp only [Array.size_append, List.size_toArray, size_zeroCells, hzs, hol, hnl, ← Nat.add_mul]
      apply Nat.mul_le_mul_right
      omega
  rcases hold with ⟨rfl, rfl, rfl⟩ | ⟨b', rfl, hold⟩
  · have h0 : olds = [] := List.eq_nil_of_length_eq_zero (by simpa using hol)
    subst h0
    have hr := run_append_nil (P := P) w t T_ el i z g1 g5 g8 ⟨b, o, none⟩ m cy news (by rw [g6]; exact hnl) hnew' hm (by omega) (by simp only [Nat.zero_add] at hb; omega)
    refine fin _ (grownCap w m 0 el) rfl (by rw [Nat.zero_add]; exact grownCap_ge w m 0 el) ?_
    simp only [Nat.zero_add, Array.empty_append, List.append_nil] at hr ⊢
    exact hr
  · have hr := run_append_grow (P := P) w t T_ el i z g1 g5 g8 b' n cap olds (by rw [g6]; exact hol) hold ⟨b, o, none⟩ m cy news (by rw [g6]; exact hnl) hnew' hg (by omega) (growslice_fits (by omega) hb)
    exact fin _ (grownCap w (n + m) cap el) rfl (grownCap_ge w (n + m) cap el) hr
end
end Go.VI
