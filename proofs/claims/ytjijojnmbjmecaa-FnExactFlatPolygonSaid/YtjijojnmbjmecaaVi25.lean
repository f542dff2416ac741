/-
  An interpreter of the functions of a program as plain functions of lists and numbers, part 26: what it computes is what the program does. No condition but those that its theorems name.
-/
import Derived.Test.YtjijojnmbjmecaaVi24
set_option linter.unusedVariables false
set_option linter.constructorNameAsVariable false
namespace Go.VI
theorem T_mod (k : Nat) : (T k) % 2 = 0 := by show 2 * k % 2 = 0; omega
theorem T_div (k : Nat) : (T k) / 2 = k := by show 2 * k / 2 = k; omega
theorem O_mod (k : Nat) : (O k) % 2 = 1 := by show (2 * k + 1) % 2 = 1; omega
theorem O_div (k : Nat) : (O k) / 2 = k := by show (2 * k + 1) / 2 = k; omega
theorem loc_cases' (l : Nat) : (∃ k, l = 2 * k) ∨ ∃ j, l = 2 * j + 1 := by
  rcases Nat.mod_two_eq_zero_or_one l with h | h
  · exact .inl ⟨l / 2, by omega⟩
  · exact .inr ⟨l / 2, by omega⟩
theorem loc_cases (l : Loc) : (∃ k, l = T k) ∨ ∃ j, l = O j := loc_cases' l
section
variable {P : Program} {R : FnRel} {st : Sta} {reg idx : Nat} {Q : Exit → Act → World → Prop} {B : Base} {K : Act → World → Prop} {c : Cx} {a : Act} {s' : St} {t : Tr} {o : Oper}
/-- The caller, when a call has come back. -/
theorem call_inv {Fs : List FP} {c1 cE c' : Cx} {refs bors : List Loc} {os' : List PV} {r : PV} {v : Value} {Fr : FP} (hI : InvF B st.n c1 a (Owns Fs)) (hL : Left cE refs.length os' r v c' Fr)
    (hnd : refs.Nodup) (hap : ∀ q ∈ bors, q ∉ refs) (hEw : cE.w = c1.w) (hEK : ∀ b o v, cE.K b o v ↔ c1.K b o v ∨ ∃ q ∈ bors, c1.Fq q b ∧ c1.w.cell? ⟨b, o, none⟩ = some v)
    {rest : Loc → FP} (hEO : ∀ (j : Nat) (q : Loc), refs[j]? = some q → (c1.Fq q).or (cE.Fq (O j)) (rest q) ∧ (cE.Fq (O j)).dis (rest q)) (hEA : ∀ b l, cE.Fq l b → Owns Fs b ∨ ∃ (j : Nat) (q : Loc), refs[j]? = some q ∧ cE.Fq (O j) b)
    {X : Loc → Prop} (hX : ∀ l, X l → l ∈ bors) {K2 : Kn} (hK2 : ∀ b o v, K2 b o v → c'.K b o v) (hK1 : ∀ b o v, c1.K b o v → K2 b o v) (hKb : ∀ l b o v, l ∈ bors → ¬ X l → c1.Fq l b → ¬ K2 b o v)
    (hKx : ∀ l b o v, X l → c1.Fq l b → c1.w.cell? ⟨b, o, none⟩ = some v → K2 b o v) {S2 : St} (hS : ∀ l, l ∉ refs → ¬ X l → S2 l = c1.S l) (hig : ∀ l, (S2 l).ig = (c1.S l).ig) (hcg : ∀ l, l ∈ refs ∨ X l → (c1.S l).cg < (S2 l).cg)
    {new : Loc → PV} (hSo : ∀ (j : Nat) (q : Loc), refs[j]? = some q → (S2 q).pv = new q) (hSx : ∀ l, X l → (S2 l).pv = froz (c1.S l).pv)
    (hout : ∀ (c2 : Cx) (j : Nat) (q : Loc), c2.K = K2 → c2.w = c'.w → refs[j]? = some q → (∀ b, rest q b → c'.w.heap[b]? = c1.w.heap[b]?) → (c'.Fq (O j)).dis (rest q) → RepV c2 (new q) (c1.val q) (fun b => c'.Fq (O j) b ∨ rest q b)) :
    ∃ c2 : Cx, c2.S = S2 ∧ c2.w = c'.w ∧ c2.K = K2 ∧ InvF B st.n c2 a Fr := by
  let c2 : Cx := { S := S2, w := c'.w, K := K2, val := c1.val, Fq := fun l b => ((c1.Fq l b ∧ ¬ X l) ∧ (l ∉ refs ∨ rest l b)) ∨ ∃ j, refs[j]? = some l ∧ c'.Fq (O j) b }
  have hjlt : ∀ (j : Nat) (q : Loc), refs[j]? = some q → j < refs.length := fun j q h => by
    rcases Nat.lt_or_ge j refs.length with hh | hh
    · exact hh
    · rw [List.getElem?_eq_none hh] at h; simp at h
  have hinj : ∀ (i j : Nat) (q : Loc), refs[i]? = some q → refs[j]? = some q → i = j := fun i j q h1 h2 => by
    exact (List.getElem?_inj (j := j) (hjlt i q h1) hnd).1 (h1.trans h2.symm)
  have hXr : ∀ l, X l → l ∉ refs := fun l hx => hap l (hX l hx)
  have hAc : ∀ b l, cE.Fq l b → Owned c1 (Owns Fs) b := fun b l h => (hEA b l h).elim .inr (fun ⟨j, q, hj, h⟩ => .inl ⟨q, ((hEO j q hj).1 b).2 (.inl h)⟩)
  have hU : ∀ l b, c1.Fq l b → l ∉ refs ∨ rest l b → ∀ l', ¬ cE.Fq l' b := by
    intro l b hb hu l' h'
    rcases hEA b l' h' with h | ⟨j, q, hj, h⟩
    · exact hI.disF l b h hb
    · by_cases e : l = q
      · subst e
        rcases hu with hu | hu
        · exact hu (List.mem_of_getElem? hj)
        · exact (hEO j l hj).2 b h hu
      · exact hI.dis l q e b hb (((hEO j q hj).1 b).2 (.inl h))
  have hheap : ∀ l b, c1.Fq l b → l ∉ refs ∨ rest l b → c'.w.heap[b]? = c1.w.heap[b]? := by
    intro l b hb hu
    have hlt := hI.bound b (.inl ⟨l, hb⟩)
    rw [← hEw] at hlt
    rw [hL.frame b hlt (hU l b hb hu), hEw]
  have hle : c1.Le c2 := by
    refine ⟨hK1, fun q => ?_⟩
    by_cases hq : q ∈ refs ∨ X q
    · have := hcg q hq
      exact ⟨⟨Nat.le_of_eq (hig q).symm, Nat.le_of_lt this⟩, fun _ => ⟨rfl, fun e => by have e' : (c1.S q).cg = (S2 q).cg := e; omega⟩⟩
    · rw [not_or] at hq
      have e := hS q hq.1 hq.2
      refine ⟨⟨by show _ ≤ (S2 q).ig; rw [e]; exact Nat.le_refl _, by show _ ≤ (S2 q).cg; rw [e]; exact Nat.le_refl _⟩, fun _ => ⟨rfl, fun _ b o v h1 h2 => .inr ⟨.inl ⟨⟨h1, hq.2⟩, .inl hq.1⟩, ?_⟩⟩⟩
      show c'.w.cell? _ = _
      rw [cell_heap_eq (hheap q b h1 (.inl hq.1))]; exact h2
  have hFo : ∀ (j : Nat) (l : Loc) (b : Nat), refs[j]? = some l → c'.Fq (O j) b → (c1.w.heap.size ≤ b ∧ b < c'.w.heap.size) ∨ (b < c1.w.heap.size ∧ ∃ l, cE.Fq l b) := by
    intro j l b hj hb
    obtain ⟨g1, g2⟩ := hL.obound j b (hjlt j l hj) hb
    rcases Nat.lt_or_ge b c1.w.heap.size with h | h
    · exact .inr ⟨h, g2 (by rw [hEw]; exact h)⟩
    · exact .inl ⟨h, g1⟩
  have hFr : ∀ b, Fr b → (c1.w.heap.size ≤ b ∧ b < c'.w.heap.size) ∨ (b < c1.w.heap.size ∧ ∃ l, cE.Fq l b) := by
    intro b hb
    obtain ⟨g1, g2⟩ := hL.rbound b hb
    rcases Nat.lt_or_ge b c1.w.heap.size with h | h
    · exact .inr ⟨h, g2 (by rw [hEw]; exact h)⟩
    · exact .inl ⟨h, g1⟩
  have hnew : ∀ l b, c1.Fq l b → l ∉ refs ∨ rest l b → ¬ ((c1.w.heap.size ≤ b ∧ b < c'.w.heap.size) ∨ (b < c1.w.heap.size ∧ ∃ l, cE.Fq l b)) := by
    rintro l b hb hu (⟨h, _⟩ | ⟨_, l', h⟩)
    · have := hI.bound b (.inl ⟨l, hb⟩); omega
    · exact hU l b hb hu l' h
  have hsz : c1.w.heap.size ≤ c'.w.heap.size := by rw [← hEw]; exact hL.size
  have howned : ∀ b, Owned c2 Fr b → (∃ l, c1.Fq l b) ∨ ((c1.w.heap.size ≤ b ∧ b < c'.w.heap.size) ∨ (b < c1.w.heap.size ∧ ∃ l, cE.Fq l b)) := by
    rintro b (⟨l, ⟨⟨h1, h2⟩, h3⟩ | ⟨j, h1, h2⟩⟩ | h)
    · exact .inl ⟨l, h1⟩
    · exact .inr (hFo j l b h1 h2)
    · exact .inr (hFr b h)
  have hrest : ∀ (j : Nat) (l : Loc) (b : Nat), refs[j]? = some l → rest l b → c1.Fq l b := fun j l b hj h => ((hEO j l hj).1 b).2 (.inr h)
  refine ⟨c2, rfl, rfl, rfl, ?_⟩
  exact {
    sz := hI.sz
    val_t := hI.val_t
    val_o := hI.val_o
    rep := by
      intro l
      by_cases hl : l ∈ refs
      · obtain ⟨j, hj⟩ := List.mem_iff_getElem?.1 hl
        have e : c2.Fq l = fun b => c'.Fq (O j) b ∨ rest l b := FP.ext fun b => ⟨fun h => h.elim (fun h => .inr (h.2.elim (fun h => (h hl).elim) id)) (fun ⟨i, h1, h2⟩ => by rw [hinj i j l h1 hj] at h2; exact .inl h2), fun h => h.elim (fun h => .inr ⟨j, hj, h⟩) (fun h => .inl ⟨⟨hrest j l b hj h, fun hx => hXr l hx hl⟩, .inr h⟩)⟩
        rw [e]
        show RepV c2 (S2 l).pv (c1.val l) _
        rw [hSo j l hj]
        exact hout c2 j l rfl rfl hj (fun b hb => hheap l b (hrest j l b hj hb) (.inr hb)) (fun b h1 h2 => hnew l b (hrest j l b hj h2) (.inr h2) (hFo j l b hj h1))
      · by_cases hx : X l
        · have e : c2.Fq l = Nil := FP.ext fun b => ⟨fun h => h.elim (fun h => (h.1.2 hx).elim) (fun ⟨i, h1, h2⟩ => (hl (List.mem_iff_getElem?.2 ⟨i, h1⟩)).elim), fun h => h.elim⟩
          rw [e]
          show RepV c2 (S2 l).pv (c1.val l) _
          rw [hSx l hx]
          exact froz_rep hle (hI.rep l) (fun b o v hb hc => hKx l b o v hx hb hc)
        · have e : c2.Fq l = c1.Fq l := FP.ext fun b => ⟨fun h => h.elim (fun h => h.1.1) (fun ⟨i, h1, h2⟩ => (hl (List.mem_iff_getElem?.2 ⟨i, h1⟩)).elim), fun h => .inl ⟨⟨h, hx⟩, .inl hl⟩⟩
          rw [e]
          show RepV c2 (S2 l).pv (c1.val l) _
          rw [hS l hl hx]
          exact (hI.rep l).turn hle (fun b hb => hheap l b hb (.inl hl))
    dis := by
      rintro l l' hne b (⟨⟨h1, h2⟩, h3⟩ | ⟨j, h1, h2⟩) (⟨⟨g1, g2⟩, g3⟩ | ⟨i, g1, g2⟩)
      · exact hI.dis l l' hne b h1 g1
      · exact hnew l b h1 h3 (hFo i l' b g1 g2)
      · exact hnew l' b g1 g3 (hFo j l b h1 h2)
      · by_cases e : j = i
        · subst e
          rw [h1] at g1
          exact hne (Option.some.inj g1)
        · exact hL.odis j i (hjlt j l h1) (hjlt i l' g1) e b h2 g2
    disF := by
      rintro l b hb (⟨⟨g1, g2⟩, g3⟩ | ⟨i, g1, g2⟩)
      · exact hnew l b g1 g3 (hFr b hb)
      · exact hL.rdis i (hjlt i l g1) b hb g2
    holds := fun b o v hk => hL.holds b o v (hK2 b o v hk)
    kdis := by
      rintro b o v (⟨l, ⟨⟨h1, h2⟩, h3⟩ | ⟨j, h1, h2⟩⟩ | h) hk
      · by_cases hb : l ∈ bors
        · exact hKb l b o v hb h2 h1 hk
        · rcases hL.knew b o v (hK2 b o v hk) with g | ⟨l', g⟩ | g
          · rcases (hEK b o v).1 g with g | ⟨q, hq, g, _⟩
            · exact hI.kdis b o v (.inl ⟨l, h1⟩) g
            · exact hI.dis l q (fun e => hb (e ▸ hq)) b h1 g
          · exact hU l b h1 h3 l' g
          · rw [hEw] at g
            have := hI.bound b (.inl ⟨l, h1⟩); omega
      · exact hL.ok j b o v (hjlt j l h1) h2 (hK2 b o v hk)
      · exact hL.rk b o v h (hK2 b o v hk)
    bound := by
      intro b hb
      show b < c'.w.heap.size
      rcases howned b hb with ⟨l, h⟩ | ⟨h, h'⟩ | ⟨h, _⟩
      · exact Nat.lt_of_lt_of_le (hI.bound b (.inl ⟨l, h⟩)) hsz
      · exact h'
      · exact Nat.lt_of_lt_of_le h hsz
    allowed := by
      intro b hb hlt
      rcases howned b hb with ⟨l, h⟩ | ⟨h, h'⟩ | ⟨h, l, h'⟩
      · exact hI.allowed b (.inl ⟨l, h⟩) hlt
      · have := hI.size; omega
      · exact hI.allowed b (hAc b l h') hlt
    os := by show c'.w.os = _; rw [hL.os, hEw]; exact hI.os
    tape := by show c'.w.tape = _; rw [hL.tape, hEw]; exact hI.tape
    output := by show c'.w.output = _; rw [hL.output, hEw]; exact hI.output
    drawn := Nat.le_trans hI.drawn (by rw [← hEw]; exact hL.drawn)
    size := Nat.le_trans hI.size hsz
    frame := by
      intro b hlt hnA
      show c'.w.heap[b]? = _
      rw [hL.frame b (by rw [hEw]; exact Nat.lt_of_lt_of_le hlt hI.size) (fun l h => hnA (hI.allowed b (hAc b l h) hlt)), hEw]
      exact hI.frame b hlt hnA
    K0 := fun b o v h => hK1 b o v (hI.K0 b o v h)
    knew := by
      intro b o v hk
      rcases hL.knew b o v (hK2 b o v hk) with g | ⟨l, g⟩ | g
      · rcases (hEK b o v).1 g with g | ⟨q, hq, g, _⟩
        · exact hI.knew b o v g
        · rcases Nat.lt_or_ge b B.w0.heap.size with h | h
          · exact .inr (.inl (hI.allowed b (.inl ⟨q, g⟩) h))
          · exact .inr (.inr h)
      · rcases Nat.lt_or_ge b B.w0.heap.size with h | h
        · exact .inr (.inl (hI.allowed b (hAc b l g) h))
        · exact .inr (.inr h)
      · rw [hEw] at g
        exact .inr (.inr (Nat.le_trans hI.size g))
    defers := hI.defers }
end
end Go.VI
