/-
  An interpreter of the functions of a program as plain functions of lists and numbers, part 2: what it computes is what the program does. No condition but those that its theorems name.
-/
import Derived.Test.YtjijojnmbjmecaaVi1
set_option linter.unusedVariables false
set_option linter.constructorNameAsVariable false
namespace Go.VI
abbrev FnRel := FuncId → List PV → List PV → PV → List PV → Prop
abbrev LpRel := Nat → St → X → St → Prop
def St.wr (s : St) (l : Loc) (v : PV) : St := s.upd l ⟨v, (s l).ig + 1, (s l).cg + 1⟩
def St.md (s : St) (l : Loc) (v : PV) : St := s.upd l ⟨v, (s l).ig, (s l).cg + 1⟩
theorem upd_same (s : St) (l : Loc) (c : Cont) : s.upd l c l = c := by simp [St.upd]
theorem upd_ne (s : St) {l l' : Loc} (c : Cont) (h : l' ≠ l) : s.upd l c l' = s l' := by
  have : Nat.beq l' l = false := by rw [Bool.eq_false_iff]; intro e; exact h (Nat.eq_of_beq_eq_true e)
  simp [St.upd, this]
/-- One run of a small program, with all that it looked at and wrote. -/
def M.Ex (R : FnRel) {α : Type} : M α → St → α → St → Tr → Prop
  | .ret a, s, b, s', t => b = a ∧ s' = s ∧ t = []
  | .fail, _, _, _, _ => False
  | .rd l k, s, b, s', t => ∃ t', t = (l, false) :: t' ∧ (k (s l)).Ex R s b s' t'
  | .wr l v k, s, b, s', t => ∃ t', t = (l, true) :: t' ∧ k.Ex R (s.wr l v) b s' t'
  | .md l v k, s, b, s', t => ∃ t', t = (l, true) :: t' ∧ k.Ex R (s.md l v) b s' t'
  | .br c x y, s, b, s', t => (c = true ∧ x.Ex R s b s' t) ∨ (c = false ∧ y.Ex R s b s' t)
  | .test l x y z, s, b, s', t => ∃ t', t = (l, false) :: t' ∧ (((s l).pv = .bool true ∧ x.Ex R s b s' t') ∨ ((s l).pv = .bool false ∧ y.Ex R s b s' t') ∨ ((s l).pv = .nov ∧ z.Ex R s b s' t'))
  | .call f as os k, s, b, s', t => ∃ r os', R f as os r os' ∧ (k r os').Ex R s b s' t
theorem upd_self (s : St) (l : Loc) : s.upd l (s l) = s := by
  funext l'
  by_cases h : l' = l
  · subst h; rw [upd_same]
  · rw [upd_ne _ _ h]
structure PhiOk {ρ : Type} (φ : Phi ρ) (R : FnRel) (L : LpRel) : Prop where
  fn : ∀ f as os K x, φ.fn f as os K = some x → ∃ r os', R f as os r os' ∧ K r os' = some x
  lp : ∀ key s K x, φ.lp key s K = some x → ∃ e s', L key s e s' ∧ K e s' = some x
theorem run_ex {ρ α : Type} {φ : Phi ρ} {R : FnRel} {L : LpRel} (hφ : PhiOk φ R L) : ∀ (m : M α) (K : α → St → Option ρ) (s : St) (x : ρ),
    m.run φ K s = some x → ∃ a s' t, m.Ex R s a s' t ∧ K a s' = some x
  | .ret a, K, s, x, h => ⟨a, s, [], ⟨rfl, rfl, rfl⟩, h⟩
  | .fail, K, s, x, h => by simp [M.run] at h
  | .rd l k, K, s, x, h => by
    obtain ⟨a, s', t, he, hk⟩ := run_ex hφ (k (s l)) K s x h
    exact ⟨a, s', _, ⟨t, rfl, he⟩, hk⟩
  | .wr l v k, K, s, x, h => by
    have h' : k.run φ K (s.wr l v) = some x := h
    obtain ⟨a, s', t, he, hk⟩ := run_ex hφ k K _ x h'
    exact ⟨a, s', _, ⟨t, rfl, he⟩, hk⟩
  | .md l v k, K, s, x, h => by
    have h' : k.run φ K (s.md l v) = some x := h
    obtain ⟨a, s', t, he, hk⟩ := run_ex hφ k K _ x h'
    exact ⟨a, s', _, ⟨t, rfl, he⟩, hk⟩
  | .br c u v, K, s, x, h => by
    cases c with
    | true => obtain ⟨a, s', t, he, hk⟩ := run_ex hφ u K s x h; exact ⟨a, s', t, .inl ⟨rfl, he⟩, hk⟩
    | false => obtain ⟨a, s', t, he, hk⟩ := run_ex hφ v K s x h; exact ⟨a, s', t, .inr ⟨rfl, he⟩, hk⟩
  | .test l u v z, K, s, x, h => by
    unfold M.run at h
    split at h
    · rename_i b ig cg e
      cases b with
      | true =>
        have h' : u.run φ K (s.upd l ⟨.bool true, ig, cg⟩) = some x := h
        rw [← e, upd_self] at h'
        obtain ⟨a, s', t, he, hk⟩ := run_ex hφ u K s x h'
        exact ⟨a, s', _, ⟨t, rfl, .inl ⟨by rw [e], he⟩⟩, hk⟩
      | false =>
        have h' : v.run φ K (s.upd l ⟨.bool false, ig, cg⟩) = some x := h
        rw [← e, upd_self] at h'
        obtain ⟨a, s', t, he, hk⟩ := run_ex hφ v K s x h'
        exact ⟨a, s', _, ⟨t, rfl, .inr (.inl ⟨by rw [e], he⟩)⟩, hk⟩
    · rename_i e
      obtain ⟨a, s', t, he, hk⟩ := run_ex hφ z K s x h
      exact ⟨a, s', _, ⟨t, rfl, .inr (.inr ⟨by rw [e], he⟩)⟩, hk⟩
    · simp at h
  | .call f as os k, K, s, x, h => by
    obtain ⟨r, os', hr, h2⟩ := hφ.fn _ _ _ _ _ h
    obtain ⟨a, s', t, he, hk⟩ := run_ex hφ (k r os') K s x h2
    exact ⟨a, s', t, ⟨r, os', hr, he⟩, hk⟩

/-! ### what was not looked at does not matter -/
def Reads (t : Tr) (l : Loc) : Prop := ∃ b, (l, b) ∈ t
def Writes (t : Tr) (l : Loc) : Prop := (l, true) ∈ t
theorem Writes.reads {t : Tr} {l : Loc} (h : Writes t l) : Reads t l := ⟨true, h⟩
theorem ex_local {α : Type} {R : FnRel} : ∀ (m : M α) (s : St) (a : α) (s' : St) (t : Tr), m.Ex R s a s' t → ∀ s0 : St, (∀ l, Reads t l → s0 l = s l) →
    ∃ s0', m.Ex R s0 a s0' t ∧ ∀ l, (Writes t l → s0' l = s' l) ∧ (¬ Writes t l → s0' l = s0 l ∧ s' l = s l)
  | .ret a, s, b, s', t, h, s0, hs => by
    obtain ⟨rfl, rfl, rfl⟩ := h
    exact ⟨s0, ⟨rfl, rfl, rfl⟩, fun l => ⟨fun h => by simp [Writes] at h, fun _ => ⟨rfl, rfl⟩⟩⟩
  | .fail, s, b, s', t, h, s0, hs => h.elim
  | .rd l k, s, b, s', t, h, s0, hs => by
    obtain ⟨t', rfl, h⟩ := h
    have e : s0 l = s l := hs l ⟨false, by simp⟩
    obtain ⟨s0', h1, h2⟩ := ex_local (k (s l)) s b s' t' h s0 (fun l' ⟨b, hb⟩ => hs l' ⟨b, by simp [hb]⟩)
    refine ⟨s0', ⟨t', rfl, by rw [e]; exact h1⟩, fun l' => ⟨fun hw => (h2 l').1 (by simpa [Writes] using hw), fun hw => (h2 l').2 (by simpa [Writes] using hw)⟩⟩
  | .wr l v k, s, b, s', t, h, s0, hs => by
    obtain ⟨t', rfl, h⟩ := h
    have e : s0 l = s l := hs l ⟨true, by simp⟩
    obtain ⟨s0', h1, h2⟩ := ex_local k (s.wr l v) b s' t' h (s0.wr l v) (fun l' ⟨b, hb⟩ => by
      by_cases hl : l' = l
      · subst hl; simp [St.wr, upd_same, e]
      · simp only [St.wr, upd_ne _ _ hl]; exact hs l' ⟨b, by simp [hb]⟩)
    refine ⟨s0', ⟨t', rfl, h1⟩, fun l' => ⟨fun hw => ?_, fun hw => ?_⟩⟩
    · by_cases hw' : Writes t' l'
      · exact (h2 l').1 hw'
      · have hl : l' = l := by
          rcases List.mem_cons.1 hw with h | h
          · exact congrArg Prod.fst h
          · exact (hw' h).elim
        subst hl
        rw [((h2 l').2 hw').1, ((h2 l').2 hw').2]; simp [St.wr, upd_same, e]
    · have hl : l' ≠ l := fun h => hw (by simp [Writes, h])
      have hw' : ¬ Writes t' l' := fun h => hw (List.mem_cons_of_mem _ h)
      have := (h2 l').2 hw'
      simp only [St.wr, upd_ne _ _ hl] at this
      exact this
  | .md l v k, s, b, s', t, h, s0, hs => by
    obtain ⟨t', rfl, h⟩ := h
    have e : s0 l = s l := hs l ⟨true, by simp⟩
    obtain ⟨s0', h1, h2⟩ := ex_local k (s.md l v) b s' t' h (s0.md l v) (fun l' ⟨b, hb⟩ => by
      by_cases hl : l' = l
      · subst hl; simp [St.md, upd_same, e]
      · simp only [St.md, upd_ne _ _ hl]; exact hs l' ⟨b, by simp [hb]⟩)
    refine ⟨s0', ⟨t', rfl, h1⟩, fun l' => ⟨fun hw => ?_, fun hw => ?_⟩⟩
    · by_cases hw' : Writes t' l'
      · exact (h2 l').1 hw'
      · have hl : l' = l := by
          rcases List.mem_cons.1 hw with h | h
          · exact congrArg Prod.fst h
          · exact (hw' h).elim
        subst hl
        rw [((h2 l').2 hw').1, ((h2 l').2 hw').2]; simp [St.md, upd_same, e]
    · have hl : l' ≠ l := fun h => hw (by simp [Writes, h])
      have hw' : ¬ Writes t' l' := fun h => hw (List.mem_cons_of_mem _ h)
      have := (h2 l').2 hw'
      simp only [St.md, upd_ne _ _ hl] at this
      exact this
  | .br c u v, s, b, s', t, h, s0, hs => by
    rcases h with ⟨hc, h⟩ | ⟨hc, h⟩
    · obtain ⟨s0', h1, h2⟩ := ex_local u s b s' t h s0 hs; exact ⟨s0', .inl ⟨hc, h1⟩, h2⟩
    · obtain ⟨s0', h1, h2⟩ := ex_local v s b s' t h s0 hs; exact ⟨s0', .inr ⟨hc, h1⟩, h2⟩
  | .test l u v z, s, b, s', t, h, s0, hs => by
    obtain ⟨t', rfl, h⟩ := h
    have e : s0 l = s l := hs l ⟨false, by simp⟩
    have go : ∀ (m : M α), m.Ex R s b s' t' → (∀ s0', m.Ex R s0 b s0' t' → (M.test l u v z).Ex R s0 b s0' ((l, false) :: t')) → (∃ s0', m.Ex R s0 b s0' t' ∧ ∀ l, (Writes t' l → s0' l = s' l) ∧ (¬ Writes t' l → s0' l = s0 l ∧ s' l = s l)) →
        ∃ s0', (M.test l u v z).Ex R s0 b s0' ((l, false) :: t') ∧ ∀ l_1, (Writes ((l, false) :: t') l_1 → s0' l_1 = s' l_1) ∧ (¬ Writes ((l, false) :: t') l_1 → s0' l_1 = s0 l_1 ∧ s' l_1 = s l_1) := by
      rintro m _ h1 ⟨s0', h2, h3⟩
      exact ⟨s0', h1 s0' h2, fun l' => ⟨fun hw => (h3 l').1 (by simpa [Writes] using hw), fun hw => (h3 l').2 (by simpa [Writes] using hw)⟩⟩
    rcases h with ⟨hb, h⟩ | ⟨hb, h⟩ | ⟨hb, h⟩
    · exact go u h (fun s0' h' => ⟨t', rfl, .inl ⟨by rw [e]; exact hb, h'⟩⟩) (ex_local u s b s' t' h s0 (fun l' ⟨b, hb⟩ => hs l' ⟨b, by simp [hb]⟩))
    · exact go v h (fun s0' h' => ⟨t', rfl, .inr (.inl ⟨by rw [e]; exact hb, h'⟩)⟩) (ex_local v s b s' t' h s0 (fun l' ⟨b, hb⟩ => hs l' ⟨b, by simp [hb]⟩))
    · exact go z h (fun s0' h' => ⟨t', rfl, .inr (.inr ⟨by rw [e]; exact hb, h'⟩)⟩) (ex_local z s b s' t' h s0 (fun l' ⟨b, hb⟩ => hs l' ⟨b, by simp [hb]⟩))
  | .call f as os k, s, b, s', t, h, s0, hs => by
    obtain ⟨r, os', hr, h⟩ := h
    obtain ⟨s0', h1, h2⟩ := ex_local (k r os') s b s' t h s0 hs
    exact ⟨s0', ⟨r, os', hr, h1⟩, h2⟩
def Dis (t u : Tr) : Prop := ∀ l, (Writes t l → ¬ Reads u l) ∧ (Writes u l → ¬ Reads t l)
theorem ex_comm {α β : Type} {R : FnRel} {m1 : M α} {m2 : M β} {s s1 s2 : St} {a : α} {b : β} {t1 t2 : Tr}
    (h1 : m1.Ex R s a s1 t1) (h2 : m2.Ex R s1 b s2 t2) (hd : Dis t1 t2) : ∃ s1', m2.Ex R s b s1' t2 ∧ m1.Ex R s1' a s2 t1 := by
  have f1 : ∀ l, ¬ Writes t1 l → s1 l = s l := fun l hl => by
    obtain ⟨_, _, h⟩ := ex_local m1 s a s1 t1 h1 s (fun _ _ => rfl)
    exact ((h l).2 hl).2
  have f2 : ∀ l, ¬ Writes t2 l → s2 l = s1 l := fun l hl => by
    obtain ⟨_, _, h⟩ := ex_local m2 s1 b s2 t2 h2 s1 (fun _ _ => rfl)
    exact ((h l).2 hl).2
  obtain ⟨s1', g2, e2⟩ := ex_local m2 s1 b s2 t2 h2 s (fun l hr => (f1 l (fun hw => (hd l).1 hw hr)).symm)
  obtain ⟨s2', g1, e1⟩ := ex_local m1 s a s1 t1 h1 s1' (fun l hr => ((e2 l).2 (fun hw => (hd l).2 hw hr)).1)
  have : s2' = s2 := by
    funext l
    by_cases hw1 : Writes t1 l
    · have hn2 : ¬ Writes t2 l := fun h => (hd l).1 hw1 h.reads
      rw [(e1 l).1 hw1, f2 l hn2]
    · rw [((e1 l).2 hw1).1]
      by_cases hw2 : Writes t2 l
      · exact (e2 l).1 hw2
      · rw [((e2 l).2 hw2).1, f2 l hw2, f1 l hw1]
  subst this
  exact ⟨s1', g2, g1⟩

/-! ### regions -/
theorem disB_dis {t u : Tr} (h : disB t u = true) : Dis t u := by
  have key : ∀ l b c, (l, b) ∈ t → (l, c) ∈ u → b = false ∧ c = false := by
    intro l b c hb hc
    have h1 := List.all_eq_true.1 h _ hb
    have h2 : (!(Nat.beq l l) || (!b && !c)) = true := List.all_eq_true.1 h1 _ hc
    rw [Nat.beq_refl] at h2
    cases b <;> cases c <;> simp_all
  intro l
  refine ⟨fun hw ⟨c, hr⟩ => ?_, fun hw ⟨c, hr⟩ => ?_⟩
  · have := (key l true c hw hr).1; simp at this
  · have := (key l c true hr hw).2; simp at this
theorem runT_ex {ρ α : Type} {φ : Phi ρ} {R : FnRel} {L : LpRel} (hφ : PhiOk φ R L) : ∀ (m : M α) (K : α → St → Tr → Option ρ) (t0 : Tr) (s : St) (x : ρ),
    m.runT φ K t0 s = some x → ∃ a s' t, m.Ex R s a s' t ∧ K a s' (t.reverse ++ t0) = some x
  | .ret a, K, t0, s, x, h => ⟨a, s, [], ⟨rfl, rfl, rfl⟩, h⟩
  | .fail, K, t0, s, x, h => by simp [M.runT] at h
  | .rd l k, K, t0, s, x, h => by
    obtain ⟨a, s', t, he, hk⟩ := runT_ex hφ (k (s l)) K _ s x h
    exact ⟨a, s', _, ⟨t, rfl, he⟩, by simpa using hk⟩
  | .wr l v k, K, t0, s, x, h => by
    have h' : k.runT φ K ((l, true) :: t0) (s.wr l v) = some x := h
    obtain ⟨a, s', t, he, hk⟩ := runT_ex hφ k K _ _ x h'
    exact ⟨a, s', _, ⟨t, rfl, he⟩, by simpa using hk⟩
  | .md l v k, K, t0, s, x, h => by
    have h' : k.runT φ K ((l, true) :: t0) (s.md l v) = some x := h
    obtain ⟨a, s', t, he, hk⟩ := runT_ex hφ k K _ _ x h'
    exact ⟨a, s', _, ⟨t, rfl, he⟩, by simpa using hk⟩
  | .br c u v, K, t0, s, x, h => by
    cases c with
    | true => obtain ⟨a, s', t, he, hk⟩ := runT_ex hφ u K t0 s x h; exact ⟨a, s', t, .inl ⟨rfl, he⟩, hk⟩
    | false => obtain ⟨a, s', t, he, hk⟩ := runT_ex hφ v K t0 s x h; exact ⟨a, s', t, .inr ⟨rfl, he⟩, hk⟩
  | .test l u v z, K, t0, s, x, h => by
    unfold M.runT at h
    split at h
    · rename_i b ig cg e
      cases b with
      | true =>
        have h' : u.runT φ K ((l, false) :: t0) (s.upd l ⟨.bool true, ig, cg⟩) = some x := h
        rw [← e, upd_self] at h'
        obtain ⟨a, s', t, he, hk⟩ := runT_ex hφ u K _ s x h'
        exact ⟨a, s', _, ⟨t, rfl, .inl ⟨by rw [e], he⟩⟩, by simpa using hk⟩
      | false =>
        have h' : v.runT φ K ((l, false) :: t0) (s.upd l ⟨.bool false, ig, cg⟩) = some x := h
        rw [← e, upd_self] at h'
        obtain ⟨a, s', t, he, hk⟩ := runT_ex hφ v K _ s x h'
        exact ⟨a, s', _, ⟨t, rfl, .inr (.inl ⟨by rw [e], he⟩)⟩, by simpa using hk⟩
    · rename_i e
      obtain ⟨a, s', t, he, hk⟩ := runT_ex hφ z K _ s x h
      exact ⟨a, s', _, ⟨t, rfl, .inr (.inr ⟨by rw [e], he⟩)⟩, by simpa using hk⟩
    · simp at h
  | .call f as os k, K, t0, s, x, h => by
    obtain ⟨r, os', hr, h2⟩ := hφ.fn _ _ _ _ _ h
    obtain ⟨a, s', t, he, hk⟩ := runT_ex hφ (k r os') K t0 s x h2
    exact ⟨a, s', t, ⟨r, os', hr, he⟩, hk⟩
/-- Runs of operations in some order, each with its number and what it looked at. -/
def ExP (R : FnRel) (st : Sta) (reg : Nat) (ops : List Oper) : List (Nat × Tr) → St → St → Prop
  | [], s, s' => s' = s
  | (i, t) :: r, s, s' => ∃ o s1, ops[i]? = some o ∧ (stepM st reg ops i o).Ex R s () s1 t ∧ ExP R st reg ops r s1 s'
theorem bubble {R : FnRel} {st : Sta} {reg : Nat} {ops : List Oper} {i : Nat} {t : Tr} {post : List (Nat × Tr)} :
    ∀ (pre : List (Nat × Tr)) (s s' : St), ExP R st reg ops (pre ++ (i, t) :: post) s s' → (∀ p ∈ pre, Dis p.2 t) → ExP R st reg ops ((i, t) :: (pre ++ post)) s s'
  | [], s, s', h, _ => h
  | (j, u) :: pre, s, s', h, hd => by
    obtain ⟨o, s1, ho, hx, hr⟩ := h
    obtain ⟨oi, s2, hoi, hxi, hr2⟩ := bubble pre s1 s' hr (fun p hp => hd p (List.mem_cons_of_mem _ hp))
    obtain ⟨s1', g1, g2⟩ := ex_comm hx hxi (hd (j, u) (by simp))
    exact ⟨oi, s1', hoi, g1, o, s2, ho, g2, hr2⟩
end Go.VI
