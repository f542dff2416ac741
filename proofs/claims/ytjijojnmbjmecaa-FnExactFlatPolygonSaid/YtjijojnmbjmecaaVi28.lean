/-
  An interpreter of the functions of a program as plain functions of lists and numbers, part 30: what it computes is what the program does. No condition but those that its theorems name.
-/
import Derived.Test.YtjijojnmbjmecaaVi27
set_option linter.unusedVariables false
set_option linter.constructorNameAsVariable false
namespace Go.VI
def X.toExit : X → Exit
  | .normal => .normal | .ret => .ret | .exit i => .exit i
def loopsOf : Code → List Code
  | .seq x y => loopsOf x ++ loopsOf y
  | .cond _ x y => loopsOf x ++ loopsOf y
  | .block _ x => loopsOf x
  | .loop b => [b]
  | _ => []
section
variable {P : Program} {R : FnRel} {L : LpRel} {st : Sta} {B : Base}
/-- From one state of the slots a piece of code comes to another one. -/
def CodeOk (P : Program) (st : Sta) (B : Base) (code : Code) (s : St) (e : X) (s' : St) : Prop :=
  ∀ (Q : Exit → Act → World → Prop) (a : Act) (w : World), Inv B st.n s a w → (∀ a' w', Inv B st.n s' a' w' → Q e.toExit a' w') → code.wp P Q a w
def LoopOk (P : Program) (st : Sta) (B : Base) (L : LpRel) (b : Code) : Prop := ∀ s e s', L (firstReg b) s e s' → CodeOk P st B (.loop b) s e s'
theorem den_ok {ρ : Type} {φ : Phi ρ} (hS : StOk P st) (hR : FnOk P R) (hφ : PhiOk φ R L) : ∀ (code : Code), (∀ B, ∀ b ∈ loopsOf code, LoopOk P st B L b) → ∀ (K : X → St → Option ρ) (s : St) (x : ρ),
    den φ st code K s = some x → ∃ e s', K e s' = some x ∧ ∀ B, CodeOk P st B code s e s' := by
  intro code
  induction code with
  | skip => exact fun _ K s x h => ⟨.normal, s, h, fun B Q a w hI hQ => wp_skip (hQ a w hI)⟩
  | region id ops draw =>
    intro _ K s x h
    obtain ⟨s', h1, h2⟩ := region_ok hφ hS.mixed (I := fun B => Inv B st.n) (fun B Q => OpOk.inv (B := B) hS hR) (fun _ _ _ _ hI => hI.drew) h
    exact ⟨.normal, s', h1, h2⟩
  | seq u v ihu ihv =>
    intro hL K s x h
    obtain ⟨e, s1, h1, h2⟩ := ihu (fun B b hb => hL B b (List.mem_append.2 (.inl hb))) _ s x h
    cases e with
    | normal =>
      obtain ⟨e2, s2, h3, h4⟩ := ihv (fun B b hb => hL B b (List.mem_append.2 (.inr hb))) _ s1 x h1
      exact ⟨e2, s2, h3, fun B Q a w hI hQ => wp_seq (h2 B _ a w hI (fun a' w' hI' => h4 B Q a' w' hI' hQ))⟩
    | ret => exact ⟨.ret, s1, h1, fun B Q a w hI hQ => wp_seq (h2 B _ a w hI hQ)⟩
    | exit i => exact ⟨.exit i, s1, h1, fun B Q a w hI hQ => wp_seq (h2 B _ a w hI hQ)⟩
  | cond op u v ihu ihv =>
    intro hL K s x h
    have go : ∀ b : Bool, (bif b then den φ st u K s else den φ st v K s) = some x → (∀ B a w, Inv B st.n s a w → a.eval op = .bool b) → ∃ e s', K e s' = some x ∧ ∀ B, CodeOk P st B (.cond op u v) s e s' := by
      intro b hb hv
      cases b with
      | true =>
        obtain ⟨e, s1, h1, h2⟩ := ihu (fun B b hb => hL B b (List.mem_append.2 (.inl hb))) K s x hb
        exact ⟨e, s1, h1, fun B Q a w hI hQ => wp_cond_true (hv B a w hI) (h2 B Q a w hI hQ)⟩
      | false =>
        obtain ⟨e, s1, h1, h2⟩ := ihv (fun B b hb => hL B b (List.mem_append.2 (.inr hb))) K s x hb
        exact ⟨e, s1, h1, fun B Q a w hI hQ => wp_cond_false (hv B a w hI) (h2 B Q a w hI hQ)⟩
    cases op with
    | tmp n =>
      have h' : (match (s (T n)).pv with | .bool b => bif b then den φ st u K s else den φ st v K s | _ => none) = some x := h
      split at h'
      · rename_i b hb
        refine go b h' ?_
        rintro B a w ⟨c, rfl, rfl, hI⟩
        have hr := hI.rep (T n)
        rw [hb] at hr
        exact (hI.val_t n).symm.trans hr.1
      · simp at h'
    | const v => cases v with
      | bool b => exact go b h (fun B a w _ => rfl)
      | _ => simp [den] at h
    | global g => simp [den] at h
    | func f => simp [den] at h
  | block id u ihu =>
    intro hL K s x h
    obtain ⟨e, s1, h1, h2⟩ := ihu hL _ s x h
    cases e with
    | normal => exact ⟨.normal, s1, h1, fun B Q a w hI hQ => wp_block (h2 B _ a w hI hQ)⟩
    | ret => exact ⟨.ret, s1, h1, fun B Q a w hI hQ => wp_block (h2 B _ a w hI hQ)⟩
    | exit i =>
      have h1' : (bif Nat.beq i id then K .normal s1 else K (.exit i) s1) = some x := h1
      cases hb : Nat.beq i id with
      | true =>
        rw [hb] at h1'
        have := Nat.eq_of_beq_eq_true hb
        subst this
        exact ⟨.normal, s1, h1', fun B Q a w hI hQ => wp_block (h2 B _ a w hI (fun a' w' hI' => by
          show (if i = i then Q .normal a' w' else Q (.exit i) a' w')
          rw [if_pos rfl]; exact hQ a' w' hI'))⟩
      | false =>
        rw [hb] at h1'
        have hne : i ≠ id := fun e => by subst e; rw [Nat.beq_refl] at hb; simp at hb
        exact ⟨.exit i, s1, h1', fun B Q a w hI hQ => wp_block (h2 B _ a w hI (fun a' w' hI' => by
          show (if i = id then Q .normal a' w' else Q (.exit i) a' w')
          rw [if_neg hne]; exact hQ a' w' hI'))⟩
  | loop b ihb =>
    intro hL K s x h
    obtain ⟨e, s', h1, h2⟩ := hφ.lp _ _ _ _ h
    exact ⟨e, s', h2, fun B => hL B b (by simp [loopsOf]) s e s' h1⟩
  | exit i => exact fun _ K s x h => ⟨.exit i, s, h, fun B Q a w hI hQ => wp_exit (hQ a w hI)⟩
  | ret => exact fun _ K s x h => ⟨.ret, s, h, fun B Q a w hI hQ => wp_ret (hQ a w hI)⟩
  | _ => intro _ K s x h; simp [den] at h
/-! ### loops -/
/-- The places that count, with what refers to them. -/
def keeps : PV → Bool
  | .box cs => cleans cs
  | .agg cs => cleans cs
  | .tup cs => cleans cs
  | _ => true
def keptB (live : List Loc) (s : St) (q : Loc) : Bool := memN q live && keeps (s q).pv
def rebP (live : List Loc) (s : St) (q : Loc) (ig off : Nat) : PV := match keptB live s q && Nat.beq (s q).ig ig with
  | true => .ptr q 0 off
  | false => .undef
def reb1 (live : List Loc) (s : St) (p : PV) : PV := match p with
  | .ptr q ig off => rebP live s q ig off
  | .kel none d i t x off => .kel none d i t x off
  | p => match clean p with | true => p | false => .undef
def rebase (live : List Loc) (s : St) : PV → PV
  | .bor q path ig cg d wh base t xs => match keptB live s q && (Nat.beq (s q).ig ig && Nat.beq (s q).cg cg) with
    | true => .bor q path 0 0 d wh base t xs
    | false => .undef
  | .ptr q ig off => rebP live s q ig off
  | .kel none d i t x off => .kel none d i t x off
  | .als q ig => match keptB live s q && Nat.beq (s q).ig ig with
    | true => .als q 0
    | false => .undef
  | .bool b => .bool b
  | .int k n => .int k n
  | .str x => .str x
  | .sl d t xs => .sl d t xs
  | .cap t xs => .cap t xs
  | .nilF => .nilF
  | .nilI => .nilI
  | .someI => .someI
  | .box cs => match cleans cs with | true => .box cs | false => .undef
  | .agg cs => match cleans cs with | true => .agg cs | false => .undef
  | .tup cs => match cleans cs with | true => .tup cs | false => .undef
  | .clo f cs => .clo f (cs.map (reb1 live s))
  | .bnd f cs => .bnd f (cs.map (reb1 live s))
  | _ => .undef
def mk : List (Loc × PV) → St
  | [], _ => ⟨.undef, 0, 0⟩
  | (l, p) :: r, l' => match Nat.beq l' l with
    | true => ⟨p, 0, 0⟩
    | false => mk r l'
def norm (live : List Loc) (s : St) : St := mk (live.map fun l => (l, rebase live s (s l).pv))
theorem mk_gen (f : Loc → PV) (live : List Loc) (l : Loc) : (mk (live.map fun l => (l, f l)) l).ig = 0 ∧ (mk (live.map fun l => (l, f l)) l).cg = 0 := by
  induction live with
  | nil => exact ⟨rfl, rfl⟩
  | cons x r ih =>
    rw [List.map_cons, mk]
    split
    · exact ⟨rfl, rfl⟩
    · exact ih
theorem mk_pv (f : Loc → PV) (live : List Loc) (l : Loc) : (mk (live.map fun l => (l, f l)) l).pv = match memN l live with | true => f l | false => .undef := by
  induction live with
  | nil => rfl
  | cons x r ih =>
    rw [List.map_cons, mk, memN]
    cases h : Nat.beq l x with
    | true =>
      have := Nat.eq_of_beq_eq_true h
      subst this
      rfl
    | false => rw [Bool.false_or]; exact ih
theorem Inv.norm {S : St} {n : Nat} {a : Act} {w : World} (h : Inv B n S a w) (live : List Loc) : Inv B n (norm live S) a w := by
  obtain ⟨c, rfl, rfl, hI⟩ := h
  let c' : Cx := { c with S := Go.VI.norm live c.S, Fq := fun l b => keptB live c.S l = true ∧ c.Fq l b }
  have hg : ∀ l, (c'.S l).ig = 0 ∧ (c'.S l).cg = 0 := fun l => mk_gen _ live l
  have hpv : ∀ l, (c'.S l).pv = match memN l live with | true => rebase live c.S (c.S l).pv | false => .undef := fun l => mk_pv _ live l
  have hkept : ∀ l, keptB live c.S l = true → c'.Fq l = c.Fq l := fun l h => FP.ext fun b => ⟨fun h => h.2, fun h' => ⟨h, h'⟩⟩
  have cl : ∀ {p : PV} {v : Value} {F : FP}, clean p = true → RepV c p v F → RepV c' p v F := fun {p v F} hp h => clean_turn (c1 := c) (c2 := c') (fun _ _ _ h => h) hp h (fun _ _ => rfl)
  have ptr : ∀ {q : Loc} {ig off : Nat} {v : Value} {F : FP}, RepV c (.ptr q ig off) v F → RepV c' (rebP live c.S q ig off) v F := by
    intro q ig off v F h
    unfold rebP
    split
    · rename_i he
      rw [Bool.and_eq_true] at he
      exact ⟨h.1, Nat.zero_le _, fun _ => h.2.2 (Nat.eq_of_beq_eq_true he.2)⟩
    · exact h.1
  have kelN : ∀ {d i : Nat} {t : Ty} {x : t.D} {off : Nat} {v : Value} {F : FP}, RepV c (.kel none d i t x off) v F → RepV c' (.kel none d i t x off) v F := by
    rintro d i t x off v F ⟨g1, b, o, cs, g2, g3, g4⟩
    exact ⟨g1, b, o, cs, g2, g3, g4⟩
  have clos : ∀ {cs : List PV} {vs : List Value} {F : FP}, RepVs c cs vs F → F.none → RepVs c' (cs.map (reb1 live c.S)) vs F := by
    intro cs
    induction cs with
    | nil => exact fun h _ => h
    | cons p ps ih =>
      rintro vs F ⟨v, vs', Fa, Fb, e, h2, h3, h4, h5⟩ hF
      refine ⟨v, vs', Fa, Fb, e, ?_, ih h3 (fun b hb => hF b ((h5 b).2 (.inr hb))), h4, h5⟩
      unfold reb1
      split
      · exact ptr h2
      · exact kelN h2
      · split
        · rename_i hc; exact cl hc h2
        · exact fun b hb => hF b ((h5 b).2 (.inl hb))
  have key : ∀ p v F, keeps p = true → RepV c p v F → RepV c' (rebase live c.S p) v F := by
    intro p v F hp h
    cases p with
    | bor q path ig cg d wh base t xs =>
      cases he : (keptB live c.S q && (Nat.beq (c.S q).ig ig && Nat.beq (c.S q).cg cg)) with
      | true =>
        rw [show rebase live c.S (.bor q path ig cg d wh base t xs) = .bor q path 0 0 d wh base t xs by simp only [rebase, he]]
        rw [Bool.and_eq_true, Bool.and_eq_true] at he
        have e1 := Nat.eq_of_beq_eq_true he.2.1
        have e2 := Nat.eq_of_beq_eq_true he.2.2
        refine ⟨h.1, Nat.zero_le _, Nat.zero_le _, fun _ => ⟨(h.2.2.2 e1).1, fun _ => ?_, fun _ => ?_⟩⟩
        · rw [hkept q he.1]
          exact (h.2.2.2 e1).2.1 e2
        · rw [hkept q he.1]
          exact (h.2.2.2 e1).2.2 e2
      | false =>
        rw [show rebase live c.S (.bor q path ig cg d wh base t xs) = .undef by simp only [rebase, he]]
        exact h.1
    | ptr q ig off => exact ptr h
    | als q ig =>
      cases he : (keptB live c.S q && Nat.beq (c.S q).ig ig) with
      | true =>
        rw [show rebase live c.S (.als q ig) = .als q 0 by simp only [rebase, he]]
        rw [Bool.and_eq_true] at he
        exact ⟨h.1, Nat.zero_le _, fun _ => h.2.2 (Nat.eq_of_beq_eq_true he.2)⟩
      | false =>
        rw [show rebase live c.S (.als q ig) = .undef by simp only [rebase, he]]
        exact h.1
    | box cs =>
      have hp' : cleans cs = true := hp
      rw [show rebase live c.S (.box cs) = .box cs by simp only [rebase, hp']]
      exact cl (p := .box cs) (by simpa [clean] using hp') h
    | agg cs =>
      have hp' : cleans cs = true := hp
      rw [show rebase live c.S (.agg cs) = .agg cs by simp only [rebase, hp']]
      exact cl (p := .agg cs) (by simpa [clean] using hp') h
    | tup cs =>
      have hp' : cleans cs = true := hp
      rw [show rebase live c.S (.tup cs) = .tup cs by simp only [rebase, hp']]
      exact cl (p := .tup cs) (by simpa [clean] using hp') h
    | clo f cs =>
      refine ⟨h.1, ?_⟩
      obtain ⟨vs, e, hv⟩ := h.2
      exact ⟨vs, e, clos hv no_none⟩
    | bnd f cs =>
      refine ⟨h.1, ?_⟩
      obtain ⟨vs, e, hv⟩ := h.2
      exact ⟨vs, e, clos hv no_none⟩
    | bool _ => exact h
    | int _ _ => exact h
    | str _ => exact h
    | sl d t xs => exact h
    | cap t xs => exact h
    | nilF => exact h
    | nilI => exact h
    | someI => exact h
    | nsl _ _ _ => exact RepC.none0 (t := .l _) h.1
    | undef => exact h
    | nov => exact h.2
    | kel fr _ _ _ _ _ =>
      cases fr with
      | none => exact kelN h
      | some y => obtain ⟨_, _, _, _⟩ := y; exact h.1
  have hown : ∀ b, Owned c' Nil b → Owned c Nil b := by
    rintro b (⟨l, _, h⟩ | h)
    · exact .inl ⟨l, h⟩
    · exact h.elim
  refine ⟨c', rfl, rfl, { hI with rep := fun l => ?_, dis := fun l l' hne b h1 h2 => hI.dis l l' hne b h1.2 h2.2, disF := fun l b h => h.elim, kdis := fun b o v hb => hI.kdis b o v (hown b hb), bound := fun b hb => hI.bound b (hown b hb), allowed := fun b hb => hI.allowed b (hown b hb) }⟩
  rw [hpv l]
  have undef_ok : keptB live c.S l = false → RepV c' .undef (c'.val l) (c'.Fq l) := fun h b hb => by have h2 := hb.1; rw [h] at h2; simp at h2
  cases hm : memN l live with
  | false => exact undef_ok (by unfold keptB; rw [hm]; rfl)
  | true =>
    cases hk : keeps (c.S l).pv with
    | true =>
      rw [hkept l (by unfold keptB; rw [hm, hk]; rfl)]
      exact key _ _ _ hk (hI.rep l)
    | false =>
      have hu : rebase live c.S (c.S l).pv = .undef := by
        generalize (c.S l).pv = p at hk
        cases p <;> simp only [keeps] at hk <;> first | (simp at hk; done) | (simp only [rebase, hk])
      show RepV c' (rebase live c.S (c.S l).pv) _ _
      rw [hu]
      exact undef_ok (by unfold keptB; rw [hm, hk]; rfl)
theorem CodeOk.norm {code : Code} {s s' : St} {e : X} (live liveOut : List Loc) (h : CodeOk P st B code (Go.VI.norm live s) e s') : CodeOk P st B code s e (Go.VI.norm liveOut s') :=
  fun Q a w hI hQ => h Q a w (hI.norm live) (fun a' w' hI' => hQ a' w' (hI'.norm liveOut))
theorem exists_least (p : Nat → Prop) (h : ∃ n, p n) : ∃ n, p n ∧ ∀ m, p m → n ≤ m := by
  obtain ⟨n, hn⟩ := h
  induction n using Nat.strongRecOn with
  | _ n ih =>
    by_cases hm : ∃ m, m < n ∧ p m
    · obtain ⟨m, h1, h2⟩ := hm
      exact ih m h1 h2
    · exact ⟨n, hn, fun m h => by
        rcases Nat.lt_or_ge m n with h' | h'
        · exact (hm ⟨m, h', h⟩).elim
        · exact h'⟩
open Classical in
noncomputable def least (p : Nat → Prop) : Nat := if h : ∃ n, p n then Classical.choose (exists_least p h) else 0
theorem least_ok {p : Nat → Prop} {n : Nat} (h : p n) : p (least p) ∧ least p ≤ n := by
  have he : ∃ n, p n := ⟨n, h⟩
  unfold least
  rw [dif_pos he]
  have := Classical.choose_spec (exists_least p he)
  exact ⟨this.1, this.2 n h⟩
/-- A loop, round after round. -/
theorem loop_ok {b : Code} {W : Nat → St → X → St → Prop} (h0 : ∀ s e s', ¬ W 0 s e s')
    (h1 : ∀ n s e s', W (n + 1) s e s' → ∃ e1 s1, CodeOk P st B b s e1 s1 ∧ match e1 with | .normal => W n s1 e s' | e1 => e1 = e ∧ ∀ a w, Inv B st.n s1 a w → Inv B st.n s' a w) :
    ∀ n s e s', W n s e s' → CodeOk P st B (.loop b) s e s' := by
  intro n s e s' hW Q a w hI hQ
  refine wp_loop (I := fun a w => ∃ n s, W n s e s' ∧ Inv B st.n s a w) (μ := fun a w => least fun n => ∃ s, W n s e s' ∧ Inv B st.n s a w) ⟨n, s, hW, hI⟩ ?_
  rintro a w ⟨n, s, hW, hI⟩
  obtain ⟨⟨s2, hW2, hI2⟩, _⟩ := least_ok (p := fun n => ∃ s, W n s e s' ∧ Inv B st.n s a w) (n := n) ⟨s, hW, hI⟩
  generalize hm : (least fun n => ∃ s, W n s e s' ∧ Inv B st.n s a w) = m at hW2
  cases m with
  | zero => exact (h0 _ _ _ hW2).elim
  | succ m =>
    obtain ⟨e1, s1, g1, g2⟩ := h1 m s2 e s' hW2
    refine g1 _ a w hI2 (fun a' w' hI' => ?_)
    cases e1 with
    | normal =>
      refine ⟨⟨m, s1, g2, hI'⟩, ?_⟩
      have := (least_ok (p := fun n => ∃ s, W n s e s' ∧ Inv B st.n s a' w') (n := m) ⟨s1, g2, hI'⟩).2
      omega
    | ret =>
      obtain ⟨rfl, h⟩ := g2
      exact hQ a' w' (h a' w' hI')
    | exit i =>
      obtain ⟨rfl, h⟩ := g2
      exact hQ a' w' (h a' w' hI')
end
end Go.VI
