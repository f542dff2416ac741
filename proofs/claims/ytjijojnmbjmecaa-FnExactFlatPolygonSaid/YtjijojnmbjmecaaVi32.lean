/-
  An interpreter of the functions of a program as plain functions of lists and numbers, part 34: what it computes is what the program does. No condition but those that its theorems name.
-/
import Derived.Test.YtjijojnmbjmecaaVi31
set_option linter.unusedVariables false
set_option linter.constructorNameAsVariable false
namespace Go.VI
/-! ### data and slots, there and back -/
structure Cod (α : Type) where
  enc : α → PV
  dec : PV → Option α
  ok : ∀ p a, dec p = some a → p = enc a
  back : ∀ a, dec (enc a) = some a
def cInt (k : IntKind) : Cod Int := ⟨.int k, fun | .int k' n => bif kbeq k' k then some n else none | _ => none, by
  intro p a h
  split at h
  · rename_i k' n
    cases hb : kbeq k' k with
    | true => rw [hb] at h; simp at h; rw [kbeq_eq hb, h]
    | false => rw [hb] at h; simp at h
  · simp at h, fun a => by cases k <;> rfl⟩
def cBool : Cod Bool := ⟨.bool, fun | .bool b => some b | _ => none, by
  intro p a h; split at h <;> simp at h; rw [h], fun _ => rfl⟩
def cStr : Cod (List UInt8) := ⟨.str, fun | .str b => some b | _ => none, by
  intro p a h; split at h <;> simp at h; rw [h], fun _ => rfl⟩
theorem Ty.beq_refl : ∀ t : Ty, t.beq t = true
  | .i k => by cases k <;> rfl
  | .b => rfl
  | .s => rfl
  | .p x y => by show (x.beq x && y.beq y) = true; rw [x.beq_refl, y.beq_refl]; rfl
  | .l x => x.beq_refl
theorem castL_self {t : Ty} (h : t.beq t = true) (xs : List t.D) : castL h xs = xs := rfl
def decL (t t' : Ty) (xs : List t'.D) : Option (List t.D) := match h : t'.beq t with
  | true => some (castL h xs)
  | false => none
theorem decL_ok {t t' : Ty} {xs : List t'.D} {a : List t.D} (h : decL t t' xs = some a) : ∃ e : t' = t, a = e ▸ xs := by
  unfold decL at h
  split at h
  · rename_i hb
    obtain rfl := Ty.beq_eq hb
    exact ⟨rfl, (Option.some.inj h).symm⟩
  · simp at h
theorem decL_self (t : Ty) (xs : List t.D) : decL t t xs = some xs := by
  unfold decL
  split
  · rfl
  · rename_i h; rw [Ty.beq_refl] at h; simp at h
def cSl (d : Nat) (t : Ty) : Cod (List t.D) := ⟨.sl d t, fun | .sl d' t' xs => bif Nat.beq d' d then decL t t' xs else none | _ => none, by
  intro p a h
  split at h
  · rename_i d' t' xs
    cases hb : Nat.beq d' d with
    | true =>
      rw [hb] at h
      obtain ⟨rfl, e⟩ := decL_ok (show decL t t' xs = some a from h)
      rw [Nat.eq_of_beq_eq_true hb, e]
    | false => rw [hb] at h; simp at h
  · simp at h, fun a => by
  show (bif Nat.beq d d then decL t t a else none) = _
  rw [Nat.beq_refl, decL_self]; rfl⟩
def cCap (t : Ty) : Cod (List t.D) := ⟨.cap t, fun | .cap t' xs => decL t t' xs | _ => none, by
  intro p a h
  split at h
  · rename_i t' xs
    obtain ⟨rfl, e⟩ := decL_ok h
    rw [e]
  · simp at h, fun a => decL_self t a⟩
def stepBeq : List Step → List Step → Bool
  | [], [] => true
  | .cell n :: r, .cell m :: q => Nat.beq n m && stepBeq r q
  | .elem n :: r, .elem m :: q => Nat.beq n m && stepBeq r q
  | _, _ => false
theorem stepBeq_eq : ∀ {a b : List Step}, stepBeq a b = true → a = b
  | [], [], _ => rfl
  | .cell n :: r, .cell m :: q, h => by
    simp only [stepBeq, Bool.and_eq_true] at h
    rw [Nat.eq_of_beq_eq_true h.1, stepBeq_eq h.2]
  | .elem n :: r, .elem m :: q, h => by
    simp only [stepBeq, Bool.and_eq_true] at h
    rw [Nat.eq_of_beq_eq_true h.1, stepBeq_eq h.2]
  | [], _ :: _, h => by simp [stepBeq] at h
  | _ :: _, [], h => by simp [stepBeq] at h
  | .cell _ :: _, .elem _ :: _, h => by simp [stepBeq] at h
  | .elem _ :: _, .cell _ :: _, h => by simp [stepBeq] at h
theorem stepBeq_refl : ∀ a : List Step, stepBeq a a = true
  | [] => rfl
  | .cell n :: r => by simp [stepBeq, stepBeq_refl r]
  | .elem n :: r => by simp [stepBeq, stepBeq_refl r]
/-- What lies in a place that counts, looked at: with its first number. -/
def cBor (q : Loc) (path : List Step) (d : Nat) (wh : Bool) (t : Ty) : Cod (Nat × List t.D) := ⟨fun x => .bor q path 0 0 d wh x.1 t x.2,
  fun | .bor q' path' ig cg d' wh' base t' xs => bif Nat.beq q' q && (stepBeq path' path && (Nat.beq ig 0 && (Nat.beq cg 0 && (Nat.beq d' d && bEq wh' wh)))) then (decL t t' xs).map (fun a => (base, a)) else none | _ => none, by
  intro p a h
  split at h
  · rename_i q' path' ig cg d' wh' base t' xs
    cases hb : (Nat.beq q' q && (stepBeq path' path && (Nat.beq ig 0 && (Nat.beq cg 0 && (Nat.beq d' d && bEq wh' wh))))) with
    | true =>
      rw [hb] at h
      simp only [Bool.and_eq_true] at hb
      obtain ⟨h1, h2, h3, h4, h5, h6⟩ := hb
      simp only [cond_true, Option.map_eq_some_iff] at h
      obtain ⟨b, hb, rfl⟩ := h
      obtain ⟨rfl, e⟩ := decL_ok hb
      rw [Nat.eq_of_beq_eq_true h1, stepBeq_eq h2, Nat.eq_of_beq_eq_true h3, Nat.eq_of_beq_eq_true h4, Nat.eq_of_beq_eq_true h5, bEq_ok h6, e]
    | false => rw [hb] at h; simp at h
  · simp at h, fun a => by
  show (bif Nat.beq q q && (stepBeq path path && (Nat.beq 0 0 && (Nat.beq 0 0 && (Nat.beq d d && bEq wh wh)))) then (decL t t a.2).map (fun b => (a.1, b)) else none) = _
  have : bEq wh wh = true := by cases wh <;> rfl
  simp only [Nat.beq_refl, stepBeq_refl, this, decL_self]; rfl⟩
def cUndef : Cod Unit := ⟨fun _ => .undef, fun | .undef => some () | _ => none, by
  intro p a h; split at h <;> simp at h; rfl, fun _ => rfl⟩
def cNov : Cod Unit := ⟨fun _ => .nov, fun | .nov => some () | _ => none, by
  intro p a h; split at h <;> simp at h; rfl, fun _ => rfl⟩
def cNilI : Cod Unit := ⟨fun _ => .nilI, fun | .nilI => some () | _ => none, by
  intro p a h; split at h <;> simp at h; rfl, fun _ => rfl⟩
def cSomeI : Cod Unit := ⟨fun _ => .someI, fun | .someI => some () | _ => none, by
  intro p a h; split at h <;> simp at h; rfl, fun _ => rfl⟩
def cNilF : Cod Unit := ⟨fun _ => .nilF, fun | .nilF => some () | _ => none, by
  intro p a h; split at h <;> simp at h; rfl, fun _ => rfl⟩
def cPtr (q : Loc) (off : Nat) : Cod Unit := ⟨fun _ => .ptr q 0 off, fun | .ptr q' ig off' => bif Nat.beq q' q && (Nat.beq ig 0 && Nat.beq off' off) then some () else none | _ => none, by
  intro p a h
  split at h
  · rename_i q' ig off'
    cases hb : (Nat.beq q' q && (Nat.beq ig 0 && Nat.beq off' off)) with
    | true =>
      simp only [Bool.and_eq_true] at hb
      rw [Nat.eq_of_beq_eq_true hb.1, Nat.eq_of_beq_eq_true hb.2.1, Nat.eq_of_beq_eq_true hb.2.2]
    | false => rw [hb] at h; simp at h
  · simp at h, fun _ => by
  show (bif Nat.beq q q && (Nat.beq 0 0 && Nat.beq off off) then some () else none) = _
  simp only [Nat.beq_refl]; rfl⟩
def cAls (q : Loc) : Cod Unit := ⟨fun _ => .als q 0, fun | .als q' ig => bif Nat.beq q' q && Nat.beq ig 0 then some () else none | _ => none, by
  intro p a h
  split at h
  · rename_i q' ig
    cases hb : (Nat.beq q' q && Nat.beq ig 0) with
    | true =>
      simp only [Bool.and_eq_true] at hb
      rw [Nat.eq_of_beq_eq_true hb.1, Nat.eq_of_beq_eq_true hb.2]
    | false => rw [hb] at h; simp at h
  · simp at h, fun _ => by
  show (bif Nat.beq q q && Nat.beq 0 0 then some () else none) = _
  simp only [Nat.beq_refl]; rfl⟩
/-- Several values. -/
structure CodL (α : Type) where
  enc : α → List PV
  dec : List PV → Option α
  ok : ∀ p a, dec p = some a → p = enc a
  back : ∀ a, dec (enc a) = some a
def lNil : CodL Unit := ⟨fun _ => [], fun | [] => some () | _ => none, by
  intro p a h; split at h <;> simp at h; rfl, fun _ => rfl⟩
def lOne {α : Type} (c : Cod α) : CodL α := ⟨fun a => [c.enc a], fun | [p] => c.dec p | _ => none, by
  intro p a h; split at h
  · rw [c.ok _ _ h]
  · simp at h, fun a => c.back a⟩
def lCons {α β : Type} (c : Cod α) (r : CodL β) : CodL (α × β) := ⟨fun x => c.enc x.1 :: r.enc x.2, fun | p :: ps => (match c.dec p with | some a => (match r.dec ps with | some b => some (a, b) | none => none) | none => none) | [] => none, by
  intro p a h; split at h
  · split at h
    · rename_i x hx
      split at h
      · rename_i y hy
        obtain rfl := Option.some.inj h
        rw [c.ok _ _ hx, r.ok _ _ hy]
      · simp at h
    · simp at h
  · simp at h, fun a => by
  show (match c.dec (c.enc a.1) with | some x => (match r.dec (r.enc a.2) with | some b => some (x, b) | none => none) | none => none) = _
  rw [c.back, r.back]⟩
/-- A value without data of its own before others. -/
def lSkip {β : Type} (c : Cod Unit) (r : CodL β) : CodL β := ⟨fun x => c.enc () :: r.enc x, fun | p :: ps => (match c.dec p with | some _ => r.dec ps | none => none) | [] => none, by
  intro p a h; split at h
  · split at h
    · rename_i x hx
      rw [c.ok _ _ hx, r.ok _ _ h]
    · simp at h
  · simp at h, fun a => by
  show (match c.dec (c.enc ()) with | some _ => r.dec (r.enc a) | none => none) = _
  rw [c.back, r.back]⟩
def cAgg {α : Type} (c : CodL α) : Cod α := ⟨fun a => .agg (c.enc a), fun | .agg cs => c.dec cs | _ => none, by
  intro p a h; split at h
  · rw [c.ok _ _ h]
  · simp at h, fun a => c.back a⟩
def cTup {α : Type} (c : CodL α) : Cod α := ⟨fun a => .tup (c.enc a), fun | .tup cs => c.dec cs | _ => none, by
  intro p a h; split at h
  · rw [c.ok _ _ h]
  · simp at h, fun a => c.back a⟩
def cBox {α : Type} (c : CodL α) : Cod α := ⟨fun a => .box (c.enc a), fun | .box cs => c.dec cs | _ => none, by
  intro p a h; split at h
  · rw [c.ok _ _ h]
  · simp at h, fun a => c.back a⟩
def cClo {α : Type} (f : FuncId) (c : CodL α) : Cod α := ⟨fun a => .clo f (c.enc a), fun | .clo g cs => bif Nat.beq g f then c.dec cs else none | _ => none, by
  intro p a h; split at h
  · rename_i g cs
    cases hb : Nat.beq g f with
    | true => rw [hb] at h; rw [c.ok _ _ (show c.dec cs = some a from h), Nat.eq_of_beq_eq_true hb]
    | false => rw [hb] at h; simp at h
  · simp at h, fun a => by
  show (bif Nat.beq f f then c.dec (c.enc a) else none) = _
  rw [Nat.beq_refl, c.back]; rfl⟩
def cBnd {α : Type} (f : FuncId) (c : CodL α) : Cod α := ⟨fun a => .bnd f (c.enc a), fun | .bnd g cs => bif Nat.beq g f then c.dec cs else none | _ => none, by
  intro p a h; split at h
  · rename_i g cs
    cases hb : Nat.beq g f with
    | true => rw [hb] at h; rw [c.ok _ _ (show c.dec cs = some a from h), Nat.eq_of_beq_eq_true hb]
    | false => rw [hb] at h; simp at h
  · simp at h, fun a => by
  show (bif Nat.beq f f then c.dec (c.enc a) else none) = _
  rw [Nat.beq_refl, c.back]; rfl⟩
/-- Places with what they hold. -/
structure CodS (α : Type) where
  live : List Loc
  cs : CodL α
def CodS.enc {α : Type} (c : CodS α) (a : α) : St := Go.VI.mk (c.live.zip (c.cs.enc a))
def CodS.dec {α : Type} (c : CodS α) (s : St) : Option α := c.cs.dec (c.live.map fun l => (s l).pv)
/-- A loop in plain Lean: at most so many rounds. -/
def loopN {V E ρ : Type} (R : V → (V → Option ρ) → (E → Option ρ) → Option ρ) : Nat → V → (E → Option ρ) → Option ρ
  | 0, _, _ => none
  | n + 1, v, ke => R v (fun v' => loopN R n v' ke) ke
/-- The number of rounds that a loop is given; the kernel does not look into it. -/
noncomputable def LIMN : Nat := Classical.choose (⟨LIM, rfl⟩ : ∃ n, n = LIM)
theorem LIMN_eq : LIMN = 1099511627776 := Classical.choose_spec (⟨LIM, rfl⟩ : ∃ n, n = LIM)
/-- What follows a round. -/
def after {ρ : Type} (liveIn liveOut : List Loc) (KN : St → Option ρ) (KE : X → St → Option ρ) : X → St → Option ρ
  | .normal, s => KN (norm liveIn s)
  | .ret, s => KE .ret (norm liveOut s)
  | .exit i, s => KE (.exit i) (norm liveOut s)
section
variable {P : Program} {R : FnRel} {L : LpRel} {st : Sta}
/-- Rounds, one behind the other. -/
def WR (P : Program) (st : Sta) (b : Code) (liveIn liveOut : List Loc) : Nat → St → X → St → Prop
  | 0, _, _, _ => False
  | n + 1, s, e, s' => ∃ e1 s1, (∀ B, CodeOk P st B b s e1 s1) ∧ match e1 with
    | .normal => WR P st b liveIn liveOut n (norm liveIn s1) e s'
    | e1 => e1 = e ∧ s' = norm liveOut s1
theorem WR.ok {b : Code} {liveIn liveOut : List Loc} {n : Nat} {s : St} {e : X} {s' : St} (h : WR P st b liveIn liveOut n s e s') (B : Base) : CodeOk P st B (.loop b) s e s' := by
  refine loop_ok (W := WR P st b liveIn liveOut) (fun s e s' h => h) ?_ n s e s' h
  rintro n s e s' ⟨e1, s1, h1, h2⟩
  cases e1 with
  | normal => exact ⟨.normal, norm liveIn s1, fun Q a w hI hQ => h1 B Q a w hI (fun a' w' hI' => hQ a' w' (hI'.norm _)), h2⟩
  | ret =>
    obtain ⟨rfl, rfl⟩ := h2
    exact ⟨.ret, s1, h1 B, rfl, fun _ _ hI => hI.norm _⟩
  | exit i =>
    obtain ⟨rfl, rfl⟩ := h2
    exact ⟨.exit i, s1, h1 B, rfl, fun _ _ hI => hI.norm _⟩
theorem mk_ext {f g : Loc → PV} {live : List Loc} (h : ∀ l, l ∈ live → f l = g l) : mk (live.map fun l => (l, f l)) = mk (live.map fun l => (l, g l)) := by
  have : (live.map fun l => (l, f l)) = (live.map fun l => (l, g l)) := List.map_congr_left (fun l hl => by rw [h l hl])
  rw [this]
theorem memN_of {l : Nat} : ∀ {r : List Nat}, l ∈ r → memN l r = true
  | [], h => by simp at h
  | m :: r, h => by
    rw [memN]
    rcases List.mem_cons.1 h with h | h
    · subst h; rw [Nat.beq_refl]; rfl
    · rw [memN_of h]; simp
theorem norm_again (live : List Loc) (s : St) : mk (live.map fun l => (l, (norm live s l).pv)) = norm live s := by
  unfold norm
  refine mk_ext fun l hl => ?_
  rw [mk_pv, memN_of hl]
theorem zip_self (f : Loc → PV) : ∀ ls : List Loc, (ls.map fun l => (l, f l)) = ls.zip (ls.map f)
  | [] => rfl
  | l :: r => by rw [List.map_cons, List.map_cons, List.zip_cons_cons, zip_self f r]
theorem CodS.dec_norm {V : Type} (c : CodS V) {s : St} {v : V} (h : c.dec (norm c.live s) = some v) : norm c.live s = c.enc v := by
  have h1 := c.cs.ok _ _ h
  unfold CodS.enc
  rw [← h1, ← zip_self (fun l => (norm c.live s l).pv)]
  exact (norm_again c.live s).symm
theorem loopN_sound {ρ V E : Type} {φ : Phi ρ} (hS : StOk P st) (hR : FnOk P R) (hφ : PhiOk φ R L) {b : Code} (hL : ∀ B, ∀ c ∈ loopsOf b, LoopOk P st B L c) (ci : CodS V) (liveOut : List Loc) (xk : (X → St → Option ρ) → E → Option ρ)
    (Rd : V → (V → Option ρ) → (E → Option ρ) → Option ρ) (hdec : ∀ v, ci.dec (ci.enc v) = some v)
    (hround : ∀ v (KN : St → Option ρ) (KE : X → St → Option ρ), den φ st b (after ci.live liveOut KN KE) (ci.enc v) = Rd v (fun v' => KN (ci.enc v')) (xk KE)) :
    ∀ n v (K : X → St → Option ρ) x, loopN Rd n v (xk K) = some x → ∃ e s', K e s' = some x ∧ WR P st b ci.live liveOut n (ci.enc v) e s' := by
  intro n
  induction n with
  | zero => intro v K x h; have h' : (none : Option ρ) = some x := h; cases h'
  | succ n ih =>
    intro v K x h
    rw [loopN] at h
    have hr := hround v (fun s => match ci.dec s with | some v' => loopN Rd n v' (xk K) | none => none) K
    have e1 : (fun v' => (match ci.dec (ci.enc v') with | some v' => loopN Rd n v' (xk K) | none => none)) = fun v' => loopN Rd n v' (xk K) := by
      funext v'; rw [hdec]
    rw [e1] at hr
    rw [← hr] at h
    obtain ⟨e1, s1, h1, h2⟩ := den_ok hS hR hφ b hL _ _ _ h
    cases e1 with
    | normal =>
      have h1' : (match ci.dec (norm ci.live s1) with | some v' => loopN Rd n v' (xk K) | none => none) = some x := h1
      split at h1'
      · rename_i v' hv'
        obtain ⟨e, s', h3, h4⟩ := ih v' K x h1'
        rw [← ci.dec_norm hv'] at h4
        exact ⟨e, s', h3, .normal, s1, h2, h4⟩
      · simp at h1'
    | ret => exact ⟨.ret, _, h1, .ret, s1, h2, rfl, rfl⟩
    | exit i => exact ⟨.exit i, _, h1, .exit i, s1, h2, rfl, rfl⟩
/-- What a loop comes to, from whatever state: for the table. -/
noncomputable def lpC {ρ V E : Type} (ci : CodS V) (xk : (X → St → Option ρ) → E → Option ρ) (Rd : V → (V → Option ρ) → (E → Option ρ) → Option ρ) (s : St) (K : X → St → Option ρ) : Option ρ :=
  match ci.dec (norm ci.live s) with
  | some v => loopN Rd LIMN v (xk K)
  | none => none
/-- The loop's clause tells what the loop does. -/
def LpSound {ρ : Type} (P : Program) (st : Sta) (b : Code) (cl : St → (X → St → Option ρ) → Option ρ) : Prop := ∀ s K x, cl s K = some x → ∃ e s', K e s' = some x ∧ ∀ B, CodeOk P st B (.loop b) s e s'
theorem lp_sound {ρ V E : Type} {φ : Phi ρ} (hS : StOk P st) (hR : FnOk P R) (hφ : PhiOk φ R L) {b : Code} (hL : ∀ B, ∀ c ∈ loopsOf b, LoopOk P st B L c) (ci : CodS V) (liveOut : List Loc) (xk : (X → St → Option ρ) → E → Option ρ)
    (Rd : V → (V → Option ρ) → (E → Option ρ) → Option ρ) (hdec : ∀ v, ci.dec (ci.enc v) = some v)
    (hround : ∀ v (KN : St → Option ρ) (KE : X → St → Option ρ), den φ st b (after ci.live liveOut KN KE) (ci.enc v) = Rd v (fun v' => KN (ci.enc v')) (xk KE)) :
    LpSound P st b (lpC ci xk Rd) := by
  intro s K x h
  unfold lpC at h
  split at h
  · rename_i v hv
    obtain ⟨e, s', h1, h2⟩ := loopN_sound hS hR hφ hL ci liveOut xk Rd hdec hround _ _ _ _ h
    rw [← ci.dec_norm hv] at h2
    exact ⟨e, s', h1, fun B => CodeOk.from rfl (h2.ok B)⟩
  · simp at h
end
/-! ### tables -/
structure FnCl (ρ : Type) where
  f : FuncId
  fits : List PV → List PV → Bool
  run : List PV → List PV → (PV → List PV → Option ρ) → Option ρ
def tabFn {ρ : Type} : List (FnCl ρ) → FuncId → List PV → List PV → (PV → List PV → Option ρ) → Option ρ
  | [], _, _, _, _ => none
  | c :: r, f, as_, os, K => bif Nat.beq f c.f && c.fits as_ os then c.run as_ os K else tabFn r f as_ os K
def tabLp {ρ : Type} : List (Nat × (St → (X → St → Option ρ) → Option ρ)) → Nat → St → (X → St → Option ρ) → Option ρ
  | [], _, _, _ => none
  | c :: r, key, s, K => bif Nat.beq key c.1 then c.2 s K else tabLp r key s K
def FnSound {ρ : Type} (P : Program) (c : FnCl ρ) : Prop := ∀ as_ os K x, c.run as_ os K = some x → ∃ r os', Meets P c.f as_ os r os' ∧ K r os' = some x
/-- A function's clause. -/
def fnC {ρ α ω ε : Type} (f : FuncId) (ca : CodL α) (co : CodL ω) (encR : ε → PV × List PV) (F : α → ω → (ε → Option ρ) → Option ρ) : FnCl ρ where
  f := f
  fits := fun as_ os => (ca.dec as_).isSome && (co.dec os).isSome
  run := fun as_ os K => match ca.dec as_ with
    | some a => match co.dec os with
      | some o => F a o (fun r => K (encR r).1 (encR r).2)
      | none => none
    | none => none
theorem tabFn_ok {ρ : Type} {P : Program} : ∀ {tab : List (FnCl ρ)}, (∀ c ∈ tab, FnSound P c) → ∀ f as_ os K x, tabFn tab f as_ os K = some x → ∃ r os', Meets P f as_ os r os' ∧ K r os' = some x
  | [], _, f, as_, os, K, x, h => by simp [tabFn] at h
  | c :: r, ht, f, as_, os, K, x, h => by
    rw [tabFn] at h
    cases hb : (Nat.beq f c.f && c.fits as_ os) with
    | true =>
      rw [hb] at h
      rw [Bool.and_eq_true] at hb
      rw [Nat.eq_of_beq_eq_true hb.1]
      exact ht c (by simp) as_ os K x h
    | false =>
      rw [hb] at h
      exact tabFn_ok (fun c hc => ht c (List.mem_cons_of_mem _ hc)) f as_ os K x h
/-- Loops by their keys. -/
def LpIs (P : Program) (st : Sta) (ls : List (Nat × Code)) : LpRel := fun key s e s' => ∀ b, (key, b) ∈ ls → ∀ B, CodeOk P st B (.loop b) s e s'
structure LpEnt (ρ : Type) where
  key : Nat
  code : Code
  cl : St → (X → St → Option ρ) → Option ρ
def LpEnts (P : Program) (st : Sta) {ρ : Type} (l : List (LpEnt ρ)) : Prop := ∀ e ∈ l, LpSound P st e.code e.cl
def noKey (k : Nat) : List Nat → Bool
  | [] => true
  | m :: r => !Nat.beq k m && noKey k r
def keysOk : List Nat → Bool
  | [] => true
  | k :: r => noKey k r && keysOk r
theorem noKey_ok {ρ : Type} {k : Nat} : ∀ {l : List (LpEnt ρ)}, noKey k (l.map (·.key)) = true → ∀ b, (k, b) ∉ l.map (fun e => (e.key, e.code))
  | [], _, b => by simp
  | c :: r, h, b => by
    simp only [List.map_cons, noKey, Bool.and_eq_true, Bool.not_eq_true'] at h
    intro hm
    rw [List.map_cons] at hm
    rcases List.mem_cons.1 hm with hm | hm
    · have := congrArg Prod.fst hm
      simp only at this
      rw [this, Nat.beq_refl] at h
      simp at h
    · exact noKey_ok h.2 b hm
theorem tabLp_ok {ρ : Type} {P : Program} {st : Sta} {l : List (LpEnt ρ)} (hl : LpEnts P st l) (hk : keysOk (l.map (·.key)) = true) : ∀ key s K x, tabLp (l.map fun e => (e.key, e.cl)) key s K = some x →
    ∃ e s', LpIs P st (l.map fun e => (e.key, e.code)) key s e s' ∧ K e s' = some x := by
  induction l with
  | nil => intro key s K x h; simp [tabLp] at h
  | cons c r ih =>
    intro key s K x h
    simp only [List.map_cons, keysOk, Bool.and_eq_true] at hk
    rw [List.map_cons, tabLp] at h
    cases hb : Nat.beq key c.key with
    | true =>
      rw [hb] at h
      obtain ⟨e, s', h1, h2⟩ := hl c (by simp) s K x h
      refine ⟨e, s', fun b hb' B => ?_, h1⟩
      rw [List.map_cons] at hb'
      rcases List.mem_cons.1 hb' with hb' | hb'
      · have := congrArg Prod.snd hb'
        simp only at this
        rw [this]; exact h2 B
      · rw [Nat.eq_of_beq_eq_true hb] at hb'
        exact (noKey_ok hk.1 b hb').elim
    | false =>
      rw [hb] at h
      obtain ⟨e, s', h1, h2⟩ := ih (fun e he => hl e (List.mem_cons_of_mem _ he)) hk.2 key s K x h
      refine ⟨e, s', fun b hb' B => ?_, h2⟩
      rw [List.map_cons] at hb'
      rcases List.mem_cons.1 hb' with hb' | hb'
      · have := congrArg Prod.fst hb'
        simp only at this
        rw [this, Nat.beq_refl] at hb
        simp at hb
      · exact h1 b hb' B
/-- The table of a function's run: the functions it calls, its loops so far. -/
def phi {ρ : Type} (fns : List (FnCl ρ)) (lps : List (LpEnt ρ)) : Phi ρ := ⟨tabFn fns, tabLp (lps.map fun e => (e.key, e.cl))⟩
theorem phi_ok {ρ : Type} {P : Program} {st : Sta} {fns : List (FnCl ρ)} {lps : List (LpEnt ρ)} (hf : ∀ c ∈ fns, FnSound P c) (hl : LpEnts P st lps) (hk : keysOk (lps.map (·.key)) = true) :
    PhiOk (phi fns lps) (Meets P) (LpIs P st (lps.map fun e => (e.key, e.code))) := ⟨tabFn_ok hf, tabLp_ok hl hk⟩
theorem meets_fnok (P : Program) : FnOk P (Meets P) := fun _ _ _ _ _ h => h
/-- The loops of a piece of code are in the table. -/
theorem lps_has {P : Program} {st : Sta} {ls : List (Nat × Code)} {bs : List Code} (h : ∀ b ∈ bs, (firstReg b, b) ∈ ls) : ∀ B, ∀ b ∈ bs, LoopOk P st B (LpIs P st ls) b := fun B b hb s e s' hL => hL b (h b hb) B
/-- One loop more. -/
theorem loop_more {ρ V E : Type} {P : Program} {st : Sta} {fns : List (FnCl ρ)} {lps : List (LpEnt ρ)} (hS : StOk P st) (hf : ∀ c ∈ fns, FnSound P c) (hl : LpEnts P st lps) (hk : keysOk (lps.map (·.key)) = true) {b : Code}
    (hb : ∀ c ∈ loopsOf b, (firstReg c, c) ∈ lps.map fun e => (e.key, e.code)) (ci : CodS V) (liveOut : List Loc) (xk : (X → St → Option ρ) → E → Option ρ) (Rd : V → (V → Option ρ) → (E → Option ρ) → Option ρ)
    (hdec : ∀ v, ci.dec (ci.enc v) = some v)
    (hround : ∀ v (KN : St → Option ρ) (KE : X → St → Option ρ), den (phi fns lps) st b (after ci.live liveOut KN KE) (ci.enc v) = Rd v (fun v' => KN (ci.enc v')) (xk KE)) (key : Nat) :
    LpEnts P st (⟨key, b, lpC ci xk Rd⟩ :: lps) := by
  intro e he
  rcases List.mem_cons.1 he with rfl | he
  · exact lp_sound hS (meets_fnok P) (phi_ok hf hl hk) (lps_has hb) ci liveOut xk Rd hdec hround
  · exact hl e he
/-- A function, by its run. -/
theorem fn_sound {ρ α ω ε : Type} {P : Program} {st : Sta} {fns : List (FnCl ρ)} {lps : List (LpEnt ρ)} (hS : StOk P st) (hf : ∀ c ∈ fns, FnSound P c) (hl : LpEnts P st lps) (hk : keysOk (lps.map (·.key)) = true)
    {f : FuncId} {fn : Func} (hP : P.funcs[f]? = some fn) (hfn : fnB P f st.n = true) (hb : ∀ c ∈ loopsOf (bodyOf fn), (firstReg c, c) ∈ lps.map fun e => (e.key, e.code))
    (ca : CodL α) (co : CodL ω) (encR : ε → PV × List PV) (F : α → ω → (ε → Option ρ) → Option ρ) (hlen : ∀ a, Nat.ble (ca.enc a).length st.n = true)
    (hden : ∀ a o K, denFn (phi fns lps) st fn (ca.enc a) (co.enc o) K = F a o (fun r => K (encR r).1 (encR r).2)) : FnSound P (fnC f ca co encR F) := by
  intro as_ os K x h
  change (match ca.dec as_ with | some a => (match co.dec os with | some o => F a o (fun r => K (encR r).1 (encR r).2) | none => none) | none => none) = some x at h
  split at h
  · rename_i a ha
    split at h
    · rename_i o ho
      rw [← hden] at h
      rw [ca.ok _ _ ha, co.ok _ _ ho]
      exact meets_of hS (meets_fnok P) (phi_ok hf hl hk) hP hfn (lps_has hb) (hlen a) h
    · simp at h
  · simp at h
end Go.VI
