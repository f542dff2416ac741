/-
  The functions that the law reaches, as plain functions. No condition.
-/
import Derived.Test.YtjijojnmbjmecaaVi38
set_option linter.unusedVariables false
set_option linter.constructorNameAsVariable false
namespace Go.VI
/-! ### small laws for the printed texts -/
theorem w64_eq {n : Int} (h1 : -9223372036854775808 ≤ n) (h2 : n < 9223372036854775808) : w64 n = n := by
  show IntKind.i64.wrap n = n
  rw [IntKind.wrap_i64]; omega
@[simp] theorem chk_true {ρ : Type} (x : Option ρ) : chk true x = x := rfl
@[simp] theorem nchk_false {ρ : Type} (x : Option ρ) : nchk false x = x := rfl
theorem chk_dec {ρ : Type} {p : Prop} [Decidable p] (h : p) (x : Option ρ) : chk (decide p) x = x := by rw [decide_eq_true h]; rfl
theorem nchk_dec {ρ : Type} {p : Prop} [Decidable p] (h : ¬ p) (x : Option ρ) : nchk (decide p) x = x := by rw [decide_eq_false h]; rfl
theorem inB_of {i : Int} {n : Nat} (h1 : 0 ≤ i) (h2 : i < n) : inB i n = true := by simp [inB, h1, h2]
theorem inB_nat {i n : Nat} (h : i < n) : inB (i : Int) n = true := inB_of (by omega) (by omega)
theorem bif_dec {α : Type} {p : Prop} [Decidable p] (x y : α) : (bif decide p then x else y) = if p then x else y := by
  by_cases h : p <;> simp [h]
theorem bif_ndec {α : Type} {p : Prop} [Decidable p] (x y : α) : (bif !(decide p) then x else y) = if p then y else x := by
  by_cases h : p <;> simp [h]
theorem w64_nat {n : Nat} (h : n < 9223372036854775807) : w64 ((n : Int) + 1) = ((n + 1 : Nat) : Int) := by rw [w64_eq (by omega) (by omega)]; omega
theorem getD_mem {α : Type} {xs : List α} {i : Nat} {d : α} (h : i < xs.length) : xs.getD i d ∈ xs := by
  rw [List.getD_eq_getElem?_getD, List.getElem?_eq_getElem h]; exact List.getElem_mem h
theorem getD_eq {α : Type} {xs : List α} {i : Nat} {d : α} (h : i < xs.length) : xs.getD i d = xs[i] := by
  rw [List.getD_eq_getElem?_getD, List.getElem?_eq_getElem h]; rfl
theorem drop_cons {α : Type} {xs : List α} {i : Nat} (d : α) (h : i < xs.length) : xs.drop i = xs.getD i d :: xs.drop (i + 1) := by
  rw [getD_eq h]; exact List.drop_eq_getElem_cons h
/-! ### loops -/
open Classical in
/-- A loop that looks for something. -/
theorem search_loop {ρ : Type} {g : Nat → Nat → Option ρ} {lo len : Nat} {c : Nat → Prop} {A B : Option ρ} (h1 : ∀ n i, lo ≤ i → i < len → g (n + 1) i = if c i then A else g n (i + 1)) (h2 : ∀ n, g (n + 1) len = B) :
    ∀ m n i, lo ≤ i → i + m = len → m < n → g n i = if (∃ j, i ≤ j ∧ j < len ∧ c j) then A else B
  | 0, 0, i, _, _, h => by omega
  | 0, n + 1, i, _, hi, _ => by
    have : i = len := by omega
    subst this
    rw [h2, if_neg]
    rintro ⟨j, h1, h2, _⟩
    omega
  | m + 1, 0, i, _, _, h => by omega
  | m + 1, n + 1, i, hlo, hi, hn => by
    rw [h1 n i hlo (by omega)]
    by_cases hc : c i
    · rw [if_pos hc, if_pos ⟨i, Nat.le_refl _, by omega, hc⟩]
    · rw [if_neg hc, search_loop h1 h2 m n (i + 1) (by omega) (by omega) (by omega)]
      have : (∃ j, i + 1 ≤ j ∧ j < len ∧ c j) ↔ (∃ j, i ≤ j ∧ j < len ∧ c j) := by
        constructor
        · rintro ⟨j, a, b, c⟩
          exact ⟨j, by omega, b, c⟩
        · rintro ⟨j, a, b, c'⟩
          refine ⟨j, ?_, b, c'⟩
          rcases Nat.lt_or_ge i j with h | h
          · omega
          · have : i = j := by omega
            subst this
            exact (hc c').elim
      by_cases hx : ∃ j, i + 1 ≤ j ∧ j < len ∧ c j
      · rw [if_pos hx, if_pos (this.1 hx)]
      · rw [if_neg hx, if_neg (fun h => hx (this.2 h))]
/-- Steps one behind the other. -/
def itr {σ : Type} (f : Nat → σ → σ) : Nat → Nat → σ → σ
  | _, 0, s => s
  | i, m + 1, s => itr f (i + 1) m (f i s)
/-- A loop that goes on to the end. -/
theorem fold_loop {ρ σ : Type} {g : Nat → Nat → σ → Option ρ} {len : Nat} {f : Nat → σ → σ} {I : Nat → σ → Prop} {K : σ → Option ρ} (h1 : ∀ n i s, i < len → I i s → g (n + 1) i s = g n (i + 1) (f i s)) (hI : ∀ i s, i < len → I i s → I (i + 1) (f i s)) (h2 : ∀ n s, I len s → g (n + 1) len s = K s) :
    ∀ m n i s, i + m = len → m < n → I i s → g n i s = K (itr f i m s)
  | 0, 0, i, s, _, h, _ => by omega
  | 0, n + 1, i, s, hi, _, hs => by
    have : i = len := by omega
    subst this
    rw [h2 _ _ hs]; rfl
  | m + 1, 0, i, s, _, h, _ => by omega
  | m + 1, n + 1, i, s, hi, hn, hs => by
    rw [h1 n i s (by omega) hs, fold_loop h1 hI h2 m n (i + 1) (f i s) (by omega) (by omega) (hI i s (by omega) hs)]
    rfl
theorem limn_lt {m : Nat} (h : m < 1099511627776) : m < LIMN := by rw [LIMN_eq]; exact h
end Go.VI

namespace Go.Proofs.Ga
open Go.VI
/-- laws.szPegS -/
noncomputable def laws_szPegS {ρ : Type} (a : List (Int × Int)) (left : Int) (K : Int → Option ρ) : Option ρ :=
 bif decide ((w64 (left - (a.length : Int))) < (0 : Int)) then
  K (-1 : Int)
 else
  K (w64 (left - (a.length : Int)))
/-- laws.toPeg -/
noncomputable def laws_toPeg {ρ : Type} (a : Int × Int) (K : (Int × Int) → Option ρ) : Option ρ :=
 K a
noncomputable def laws_toPegS_R3 {ρ : Type} (a : List (Int × Int)) (out : List (Int × Int)) (i : Int) (kn : (List (Int × Int)) → (List (Int × Int)) → Int → Option ρ) (k0 : (List (Int × Int)) → Option ρ) : Option ρ :=
 bif decide (i < (a.length : Int)) then
  chk (inB i a.length) <|
  laws_toPeg (a.getD (Int.toNat i) ((0 : Int), (0 : Int))) fun r =>
  chk (inB i out.length) <|
  chk (decide ((0 + (Int.toNat i)) < out.length)) <|
  kn a (out.set (0 + (Int.toNat i)) r) (w64 (i + (1 : Int)))
 else
  k0 out
noncomputable def laws_toPegS_L3 {ρ : Type} (n : Nat) (a : List (Int × Int)) (out : List (Int × Int)) (i : Int) (k0 : (List (Int × Int)) → Option ρ) : Option ρ :=
 loopN (fun v kn ke => laws_toPegS_R3 v.1 v.2.1 v.2.2 (fun a0 a1 a2 => kn (a0, a1, a2)) (fun a0 => ke a0)) n (a, out, i) (fun x => k0 x)
theorem laws_toPegS_L3_s {ρ : Type} (n : Nat) (a : List (Int × Int)) (out : List (Int × Int)) (i : Int) (k0 : (List (Int × Int)) → Option ρ) : laws_toPegS_L3 (n + 1) a out i k0 = laws_toPegS_R3 a out i (fun a out i => laws_toPegS_L3 n a out i k0) k0 := rfl
/-- laws.toPegS -/
noncomputable def laws_toPegS {ρ : Type} (a : List (Int × Int)) (K : (List (Int × Int)) → Option ρ) : Option ρ :=
 chk (decide (0 ≤ (a.length : Int)) && (decide ((a.length : Int) ≤ (a.length : Int)) && decide ((a.length : Int) ≤ (LIM : Int)))) <|
 laws_toPegS_L3 LIMN a (List.replicate (Int.toNat (a.length : Int)) ((0 : Int), (0 : Int))) (0 : Int)
  (fun out =>
  K out)
/-- spec.l1In -/
noncomputable def spec_l1In {ρ : Type} (nv : Int) (lo : Int) (hi : Int) (K : Bool → Option ρ) : Option ρ :=
 bif decide (nv ≥ lo) then
  K (decide (nv ≤ hi))
 else
  K false
/-- spec.pgIs -/
noncomputable def spec_pgIs {ρ : Type} (p : Int × Int) (K : Bool → Option ρ) : Option ρ :=
 spec_l1In p.1 (-40 : Int) (40 : Int) fun r =>
 bif r then
  spec_l1In p.2 (-40 : Int) (40 : Int) fun r1 =>
  K r1
 else
  K false
/-- spec.pgTurn -/
noncomputable def spec_pgTurn {ρ : Type} (a : Int × Int) (b : Int × Int) (c : Int × Int) (K : Int → Option ρ) : Option ρ :=
 K (w64 ((w64 ((w64 (b.1 - a.1)) * (w64 (c.2 - a.2)))) - (w64 ((w64 (b.2 - a.2)) * (w64 (c.1 - a.1))))))
/-- spec.pgOn -/
noncomputable def spec_pgOn {ρ : Type} (a : Int × Int) (b : Int × Int) (p : Int × Int) (K : Bool → Option ρ) : Option ρ :=
 spec_pgTurn a b p fun r =>
 bif decide (r = (0 : Int)) then
  bif decide ((w64 ((w64 (a.1 - p.1)) * (w64 (b.1 - p.1)))) ≤ (0 : Int)) then
   K (decide ((w64 ((w64 (a.2 - p.2)) * (w64 (b.2 - p.2)))) ≤ (0 : Int)))
  else
   K false
 else
  K false
/-- spec.l1Sign -/
noncomputable def spec_l1Sign {ρ : Type} (nv : Int) (K : Int → Option ρ) : Option ρ :=
 bif decide (nv > (0 : Int)) then
  K (1 : Int)
 else
  bif decide (nv < (0 : Int)) then
   K (-1 : Int)
  else
   K (0 : Int)
/-- spec.pgMeet -/
noncomputable def spec_pgMeet {ρ : Type} (a : Int × Int) (b : Int × Int) (c : Int × Int) (d : Int × Int) (K : Bool → Option ρ) : Option ρ :=
 spec_pgOn a b c fun r =>
 bif r then
  K true
 else
  spec_pgOn a b d fun r1 =>
  bif r1 then
   K true
  else
   spec_pgOn c d a fun r2 =>
   bif r2 then
    K true
   else
    spec_pgOn c d b fun r3 =>
    bif r3 then
     K true
    else
     spec_pgTurn a b c fun r4 =>
     spec_l1Sign r4 fun r5 =>
     spec_pgTurn a b d fun r6 =>
     spec_l1Sign r6 fun r7 =>
     bif decide ((w64 (r5 * r7)) < (0 : Int)) then
      spec_pgTurn c d a fun r8 =>
      spec_l1Sign r8 fun r9 =>
      spec_pgTurn c d b fun r10 =>
      spec_l1Sign r10 fun r11 =>
      K (decide ((w64 (r9 * r11)) < (0 : Int)))
     else
      K false
noncomputable def spec_pgGood_R10 {ρ : Type} (corners : List (Int × Int)) (nv : Int) (p : Int × Int) (t17 : List (Int × Int)) (t18 : Int) (t19 : Int) (t29 : List (Int × Int)) (t30 : Int) (t31 : Int) (kn : (List (Int × Int)) → Int → (Int × Int) → (List (Int × Int)) → Int → Int → (List (Int × Int)) → Int → Int → Option ρ) (k0 : (List (Int × Int)) → Bool → Int → (List (Int × Int)) → Int → Int → Option ρ) (k1 : (List (Int × Int)) → Int → (List (Int × Int)) → Int → Int → Option ρ) : Option ρ :=
 bif decide (t31 < t30) then
  chk (inB t31 t29.length) <|
  bif (decide (p.1 = (t29.getD (Int.toNat t31) ((0 : Int), (0 : Int))).1)) && (decide (p.2 = (t29.getD (Int.toNat t31) ((0 : Int), (0 : Int))).2)) then
   k0 corners false nv t17 t18 t19
  else
   kn corners nv p t17 t18 t19 t29 t30 (w64 (t31 + (1 : Int)))
 else
  k1 corners nv t17 t18 t19
noncomputable def spec_pgGood_L10 {ρ : Type} (n : Nat) (corners : List (Int × Int)) (nv : Int) (p : Int × Int) (t17 : List (Int × Int)) (t18 : Int) (t19 : Int) (t29 : List (Int × Int)) (t30 : Int) (t31 : Int) (k0 : (List (Int × Int)) → Bool → Int → (List (Int × Int)) → Int → Int → Option ρ) (k1 : (List (Int × Int)) → Int → (List (Int × Int)) → Int → Int → Option ρ) : Option ρ :=
 loopN (fun v kn ke => spec_pgGood_R10 v.1 v.2.1 v.2.2.1 v.2.2.2.1 v.2.2.2.2.1 v.2.2.2.2.2.1 v.2.2.2.2.2.2.1 v.2.2.2.2.2.2.2.1 v.2.2.2.2.2.2.2.2 (fun a0 a1 a2 a3 a4 a5 a6 a7 a8 => kn (a0, a1, a2, a3, a4, a5, a6, a7, a8)) (fun a0 a1 a2 a3 a4 a5 => ke (.inl (a0, a1, a2, a3, a4, a5))) (fun a0 a1 a2 a3 a4 => ke (.inr (a0, a1, a2, a3, a4)))) n (corners, nv, p, t17, t18, t19, t29, t30, t31) (Sum.elim (fun x => k0 x.1 x.2.1 x.2.2.1 x.2.2.2.1 x.2.2.2.2.1 x.2.2.2.2.2) (fun x => k1 x.1 x.2.1 x.2.2.1 x.2.2.2.1 x.2.2.2.2))
theorem spec_pgGood_L10_s {ρ : Type} (n : Nat) (corners : List (Int × Int)) (nv : Int) (p : Int × Int) (t17 : List (Int × Int)) (t18 : Int) (t19 : Int) (t29 : List (Int × Int)) (t30 : Int) (t31 : Int) (k0 : (List (Int × Int)) → Bool → Int → (List (Int × Int)) → Int → Int → Option ρ) (k1 : (List (Int × Int)) → Int → (List (Int × Int)) → Int → Int → Option ρ) : spec_pgGood_L10 (n + 1) corners nv p t17 t18 t19 t29 t30 t31 k0 k1 = spec_pgGood_R10 corners nv p t17 t18 t19 t29 t30 t31 (fun corners nv p t17 t18 t19 t29 t30 t31 => spec_pgGood_L10 n corners nv p t17 t18 t19 t29 t30 t31 k0 k1) k0 k1 := rfl
noncomputable def spec_pgGood_R5 {ρ : Type} (corners : List (Int × Int)) (nv : Int) (t17 : List (Int × Int)) (t18 : Int) (t19 : Int) (kn : (List (Int × Int)) → Int → (List (Int × Int)) → Int → Int → Option ρ) (k0 : (List (Int × Int)) → Bool → Int → Option ρ) (k1 : (List (Int × Int)) → Int → Option ρ) : Option ρ :=
 bif decide (t19 < t18) then
  chk (inB t19 t17.length) <|
  spec_pgIs (t17.getD (Int.toNat t19) ((0 : Int), (0 : Int))) fun r =>
  bif !r then
   k0 corners false nv
  else
   chk (decide (0 ≤ t19) && decide (t19 ≤ (corners.length : Int))) <|
   spec_pgGood_L10 LIMN corners nv (t17.getD (Int.toNat t19) ((0 : Int), (0 : Int))) t17 t18 t19 (corners.take (Int.toNat t19)) ((corners.take (Int.toNat t19)).length : Int) (0 : Int)
    (fun corners1 t2 nv1 t171 t181 t191 =>
    k0 corners1 t2 nv1)
    (fun corners2 nv2 t172 t182 t192 =>
    kn corners2 nv2 t172 t182 (w64 (t192 + (1 : Int))))
 else
  k1 corners nv
noncomputable def spec_pgGood_L5 {ρ : Type} (n : Nat) (corners : List (Int × Int)) (nv : Int) (t17 : List (Int × Int)) (t18 : Int) (t19 : Int) (k0 : (List (Int × Int)) → Bool → Int → Option ρ) (k1 : (List (Int × Int)) → Int → Option ρ) : Option ρ :=
 loopN (fun v kn ke => spec_pgGood_R5 v.1 v.2.1 v.2.2.1 v.2.2.2.1 v.2.2.2.2 (fun a0 a1 a2 a3 a4 => kn (a0, a1, a2, a3, a4)) (fun a0 a1 a2 => ke (.inl (a0, a1, a2))) (fun a0 a1 => ke (.inr (a0, a1)))) n (corners, nv, t17, t18, t19) (Sum.elim (fun x => k0 x.1 x.2.1 x.2.2) (fun x => k1 x.1 x.2))
theorem spec_pgGood_L5_s {ρ : Type} (n : Nat) (corners : List (Int × Int)) (nv : Int) (t17 : List (Int × Int)) (t18 : Int) (t19 : Int) (k0 : (List (Int × Int)) → Bool → Int → Option ρ) (k1 : (List (Int × Int)) → Int → Option ρ) : spec_pgGood_L5 (n + 1) corners nv t17 t18 t19 k0 k1 = spec_pgGood_R5 corners nv t17 t18 t19 (fun corners nv t17 t18 t19 => spec_pgGood_L5 n corners nv t17 t18 t19 k0 k1) k0 k1 := rfl
noncomputable def spec_pgGood_R23 {ρ : Type} (corners : List (Int × Int)) (nv : Int) (i : Int) (p : Int × Int) (q : Int × Int) (k : Int) (t40 : List (Int × Int)) (t41 : Int) (t42 : Int) (kn : (List (Int × Int)) → Int → Int → (Int × Int) → (Int × Int) → Int → (List (Int × Int)) → Int → Int → Option ρ) (k0 : (List (Int × Int)) → Bool → Int → (List (Int × Int)) → Int → Int → Option ρ) (k1 : (List (Int × Int)) → Int → (List (Int × Int)) → Int → Int → Option ρ) : Option ρ :=
 bif decide (k < nv) then
  bif decide ((w64 (k - i)) < (w64 (nv - (1 : Int)))) then
   chk (inB k corners.length) <|
   nchk (decide (nv = (0 : Int))) <|
   chk (inB (Int.tmod (w64 (k + (1 : Int))) nv) corners.length) <|
   spec_pgMeet p q (corners.getD (Int.toNat k) ((0 : Int), (0 : Int))) (corners.getD (Int.toNat (Int.tmod (w64 (k + (1 : Int))) nv)) ((0 : Int), (0 : Int))) fun r =>
   bif r then
    k0 corners false nv t40 t41 t42
   else
    kn corners nv i p q (w64 (k + (1 : Int))) t40 t41 t42
  else
   k1 corners nv t40 t41 t42
 else
  k1 corners nv t40 t41 t42
noncomputable def spec_pgGood_L23 {ρ : Type} (n : Nat) (corners : List (Int × Int)) (nv : Int) (i : Int) (p : Int × Int) (q : Int × Int) (k : Int) (t40 : List (Int × Int)) (t41 : Int) (t42 : Int) (k0 : (List (Int × Int)) → Bool → Int → (List (Int × Int)) → Int → Int → Option ρ) (k1 : (List (Int × Int)) → Int → (List (Int × Int)) → Int → Int → Option ρ) : Option ρ :=
 loopN (fun v kn ke => spec_pgGood_R23 v.1 v.2.1 v.2.2.1 v.2.2.2.1 v.2.2.2.2.1 v.2.2.2.2.2.1 v.2.2.2.2.2.2.1 v.2.2.2.2.2.2.2.1 v.2.2.2.2.2.2.2.2 (fun a0 a1 a2 a3 a4 a5 a6 a7 a8 => kn (a0, a1, a2, a3, a4, a5, a6, a7, a8)) (fun a0 a1 a2 a3 a4 a5 => ke (.inl (a0, a1, a2, a3, a4, a5))) (fun a0 a1 a2 a3 a4 => ke (.inr (a0, a1, a2, a3, a4)))) n (corners, nv, i, p, q, k, t40, t41, t42) (Sum.elim (fun x => k0 x.1 x.2.1 x.2.2.1 x.2.2.2.1 x.2.2.2.2.1 x.2.2.2.2.2) (fun x => k1 x.1 x.2.1 x.2.2.1 x.2.2.2.1 x.2.2.2.2))
theorem spec_pgGood_L23_s {ρ : Type} (n : Nat) (corners : List (Int × Int)) (nv : Int) (i : Int) (p : Int × Int) (q : Int × Int) (k : Int) (t40 : List (Int × Int)) (t41 : Int) (t42 : Int) (k0 : (List (Int × Int)) → Bool → Int → (List (Int × Int)) → Int → Int → Option ρ) (k1 : (List (Int × Int)) → Int → (List (Int × Int)) → Int → Int → Option ρ) : spec_pgGood_L23 (n + 1) corners nv i p q k t40 t41 t42 k0 k1 = spec_pgGood_R23 corners nv i p q k t40 t41 t42 (fun corners nv i p q k t40 t41 t42 => spec_pgGood_L23 n corners nv i p q k t40 t41 t42 k0 k1) k0 k1 := rfl
noncomputable def spec_pgGood_R17 {ρ : Type} (corners : List (Int × Int)) (nv : Int) (t40 : List (Int × Int)) (t41 : Int) (t42 : Int) (kn : (List (Int × Int)) → Int → (List (Int × Int)) → Int → Int → Option ρ) (k0 : Bool → Option ρ) (k1 : Option ρ) : Option ρ :=
 bif decide (t42 < t41) then
  chk (inB t42 t40.length) <|
  nchk (decide (nv = (0 : Int))) <|
  chk (inB (Int.tmod (w64 (t42 + (1 : Int))) nv) corners.length) <|
  nchk (decide (nv = (0 : Int))) <|
  chk (inB (Int.tmod (w64 (t42 + (2 : Int))) nv) corners.length) <|
  spec_pgTurn (t40.getD (Int.toNat t42) ((0 : Int), (0 : Int))) (corners.getD (Int.toNat (Int.tmod (w64 (t42 + (1 : Int))) nv)) ((0 : Int), (0 : Int))) (corners.getD (Int.toNat (Int.tmod (w64 (t42 + (2 : Int))) nv)) ((0 : Int), (0 : Int))) fun r =>
  bif decide (r = (0 : Int)) then
   k0 false
  else
   spec_pgGood_L23 LIMN corners nv t42 (t40.getD (Int.toNat t42) ((0 : Int), (0 : Int))) (corners.getD (Int.toNat (Int.tmod (w64 (t42 + (1 : Int))) nv)) ((0 : Int), (0 : Int))) (w64 (t42 + (2 : Int))) t40 t41 t42
    (fun corners1 t2 nv1 t401 t411 t421 =>
    k0 t2)
    (fun corners2 nv2 t402 t412 t422 =>
    kn corners2 nv2 t402 t412 (w64 (t422 + (1 : Int))))
 else
  k1
noncomputable def spec_pgGood_L17 {ρ : Type} (n : Nat) (corners : List (Int × Int)) (nv : Int) (t40 : List (Int × Int)) (t41 : Int) (t42 : Int) (k0 : Bool → Option ρ) (k1 : Option ρ) : Option ρ :=
 loopN (fun v kn ke => spec_pgGood_R17 v.1 v.2.1 v.2.2.1 v.2.2.2.1 v.2.2.2.2 (fun a0 a1 a2 a3 a4 => kn (a0, a1, a2, a3, a4)) (fun a0 => ke (.inl a0)) (ke (.inr ()))) n (corners, nv, t40, t41, t42) (Sum.elim (fun x => k0 x) (fun _ => k1))
theorem spec_pgGood_L17_s {ρ : Type} (n : Nat) (corners : List (Int × Int)) (nv : Int) (t40 : List (Int × Int)) (t41 : Int) (t42 : Int) (k0 : Bool → Option ρ) (k1 : Option ρ) : spec_pgGood_L17 (n + 1) corners nv t40 t41 t42 k0 k1 = spec_pgGood_R17 corners nv t40 t41 t42 (fun corners nv t40 t41 t42 => spec_pgGood_L17 n corners nv t40 t41 t42 k0 k1) k0 k1 := rfl
/-- spec.pgGood -/
noncomputable def spec_pgGood {ρ : Type} (corners : List (Int × Int)) (K : Bool → Option ρ) : Option ρ :=
 spec_l1In (corners.length : Int) (3 : Int) (10 : Int) fun r =>
 bif !r then
  K false
 else
  spec_pgGood_L5 LIMN corners (corners.length : Int) corners (corners.length : Int) (0 : Int)
   (fun corners1 t2 nv =>
   K t2)
   (fun corners2 nv1 =>
   spec_pgGood_L17 LIMN corners2 nv1 corners2 (corners2.length : Int) (0 : Int)
    (fun t21 =>
    K t21)
    (
    K true))
/-- spec.l1Most -/
noncomputable def spec_l1Most {ρ : Type} (a : Int) (b : Int) (K : Int → Option ρ) : Option ρ :=
 bif decide (a > b) then
  K a
 else
  K b
/-- spec.l1Abs -/
noncomputable def spec_l1Abs {ρ : Type} (nv : Int) (K : Int → Option ρ) : Option ρ :=
 spec_l1Most nv (w64 (0 - nv)) fun r =>
 K r
noncomputable def spec_pgCommon_R3 {ρ : Type} (a : Int) (b : Int) (kn : Int → Int → Option ρ) (k0 : Int → Option ρ) : Option ρ :=
 bif decide (b > (0 : Int)) then
  nchk (decide (b = (0 : Int))) <|
  kn b (Int.tmod a b)
 else
  k0 a
noncomputable def spec_pgCommon_L3 {ρ : Type} (n : Nat) (a : Int) (b : Int) (k0 : Int → Option ρ) : Option ρ :=
 loopN (fun v kn ke => spec_pgCommon_R3 v.1 v.2 (fun a0 a1 => kn (a0, a1)) (fun a0 => ke a0)) n (a, b) (fun x => k0 x)
theorem spec_pgCommon_L3_s {ρ : Type} (n : Nat) (a : Int) (b : Int) (k0 : Int → Option ρ) : spec_pgCommon_L3 (n + 1) a b k0 = spec_pgCommon_R3 a b (fun a b => spec_pgCommon_L3 n a b k0) k0 := rfl
/-- spec.pgCommon -/
noncomputable def spec_pgCommon {ρ : Type} (a : Int) (b : Int) (K : Int → Option ρ) : Option ρ :=
 spec_l1Abs a fun r =>
 spec_l1Abs b fun r1 =>
 spec_pgCommon_L3 LIMN r r1
  (fun a1 =>
  K a1)
/-- spec.l1Least -/
noncomputable def spec_l1Least {ρ : Type} (a : Int) (b : Int) (K : Int → Option ρ) : Option ρ :=
 bif decide (a < b) then
  K a
 else
  K b
noncomputable def spec_wiRange_R4 {ρ : Type} (u : Int) (v : Int) (lowv : Int) (high : Int) (t27 : List (Int × Int)) (t28 : Int) (t29 : Int) (kn : Int → Int → Int → Int → (List (Int × Int)) → Int → Int → Option ρ) (k0 : Int → Int → Option ρ) : Option ρ :=
 bif decide (t29 < t28) then
  chk (inB t29 t27.length) <|
  spec_l1Least lowv (w64 ((w64 (u * (t27.getD (Int.toNat t29) ((0 : Int), (0 : Int))).1)) + (w64 (v * (t27.getD (Int.toNat t29) ((0 : Int), (0 : Int))).2)))) fun r =>
  spec_l1Most high (w64 ((w64 (u * (t27.getD (Int.toNat t29) ((0 : Int), (0 : Int))).1)) + (w64 (v * (t27.getD (Int.toNat t29) ((0 : Int), (0 : Int))).2)))) fun r1 =>
  kn u v r r1 t27 t28 (w64 (t29 + (1 : Int)))
 else
  k0 lowv high
noncomputable def spec_wiRange_L4 {ρ : Type} (n : Nat) (u : Int) (v : Int) (lowv : Int) (high : Int) (t27 : List (Int × Int)) (t28 : Int) (t29 : Int) (k0 : Int → Int → Option ρ) : Option ρ :=
 loopN (fun v kn ke => spec_wiRange_R4 v.1 v.2.1 v.2.2.1 v.2.2.2.1 v.2.2.2.2.1 v.2.2.2.2.2.1 v.2.2.2.2.2.2 (fun a0 a1 a2 a3 a4 a5 a6 => kn (a0, a1, a2, a3, a4, a5, a6)) (fun a0 a1 => ke (a0, a1))) n (u, v, lowv, high, t27, t28, t29) (fun x => k0 x.1 x.2)
theorem spec_wiRange_L4_s {ρ : Type} (n : Nat) (u : Int) (v : Int) (lowv : Int) (high : Int) (t27 : List (Int × Int)) (t28 : Int) (t29 : Int) (k0 : Int → Int → Option ρ) : spec_wiRange_L4 (n + 1) u v lowv high t27 t28 t29 k0 = spec_wiRange_R4 u v lowv high t27 t28 t29 (fun u v lowv high t27 t28 t29 => spec_wiRange_L4 n u v lowv high t27 t28 t29 k0) k0 := rfl
/-- spec.wiRange -/
noncomputable def spec_wiRange {ρ : Type} (corners : List (Int × Int)) (u : Int) (v : Int) (K : Int → Int → Option ρ) : Option ρ :=
 chk (inB (0 : Int) corners.length) <|
 chk (inB (0 : Int) corners.length) <|
 spec_wiRange_L4 LIMN u v (w64 ((w64 (u * (corners.getD 0 ((0 : Int), (0 : Int))).1)) + (w64 (v * (corners.getD 0 ((0 : Int), (0 : Int))).2)))) (w64 ((w64 (u * (corners.getD 0 ((0 : Int), (0 : Int))).1)) + (w64 (v * (corners.getD 0 ((0 : Int), (0 : Int))).2)))) corners (corners.length : Int) (0 : Int)
  (fun lowv high =>
  K lowv high)
/-- spec.wiWidth -/
noncomputable def spec_wiWidth {ρ : Type} (corners : List (Int × Int)) (u : Int) (v : Int) (K : Int → Option ρ) : Option ρ :=
 spec_wiRange corners u v fun r r1 =>
 K (w64 (r1 - r))
noncomputable def spec_wiAll_R16 {ρ : Type} (corners : List (Int × Int)) (most : Int) (a : Int × Int) (b : Int × Int) (area : Int) (out : List (List Int)) (m : Int) (nv : Int) (u : Int) (v : Int) (k : Int) (kn : (List (Int × Int)) → Int → (Int × Int) → (Int × Int) → Int → (List (List Int)) → Int → Int → Int → Int → Int → Option ρ) (k0 : (List (Int × Int)) → Int → (Int × Int) → (Int × Int) → Int → (List (List Int)) → Int → Int → Int → Int → Int → Option ρ) : Option ρ :=
 bif decide (k > (0 : Int)) then
  chk (inB (w64 (k - (1 : Int))) out.length) <|
  chk (inB (0 : Int) (out.getD (Int.toNat (w64 (k - (1 : Int)))) ([] : List Int)).length) <|
  bif decide (u < ((out.getD (Int.toNat (w64 (k - (1 : Int)))) ([] : List Int)).getD 0 (0 : Int))) then
   kn corners most a b area out m nv u v (w64 (k - (1 : Int)))
  else
   chk (inB (w64 (k - (1 : Int))) out.length) <|
   chk (inB (0 : Int) (out.getD (Int.toNat (w64 (k - (1 : Int)))) ([] : List Int)).length) <|
   bif decide (u = ((out.getD (Int.toNat (w64 (k - (1 : Int)))) ([] : List Int)).getD 0 (0 : Int))) then
    chk (inB (w64 (k - (1 : Int))) out.length) <|
    chk (inB (1 : Int) (out.getD (Int.toNat (w64 (k - (1 : Int)))) ([] : List Int)).length) <|
    bif decide (v < ((out.getD (Int.toNat (w64 (k - (1 : Int)))) ([] : List Int)).getD 1 (0 : Int))) then
     kn corners most a b area out m nv u v (w64 (k - (1 : Int)))
    else
     k0 corners most a b area out m nv u v k
   else
    k0 corners most a b area out m nv u v k
 else
  k0 corners most a b area out m nv u v k
noncomputable def spec_wiAll_L16 {ρ : Type} (n : Nat) (corners : List (Int × Int)) (most : Int) (a : Int × Int) (b : Int × Int) (area : Int) (out : List (List Int)) (m : Int) (nv : Int) (u : Int) (v : Int) (k : Int) (k0 : (List (Int × Int)) → Int → (Int × Int) → (Int × Int) → Int → (List (List Int)) → Int → Int → Int → Int → Int → Option ρ) : Option ρ :=
 loopN (fun v kn ke => spec_wiAll_R16 v.1 v.2.1 v.2.2.1 v.2.2.2.1 v.2.2.2.2.1 v.2.2.2.2.2.1 v.2.2.2.2.2.2.1 v.2.2.2.2.2.2.2.1 v.2.2.2.2.2.2.2.2.1 v.2.2.2.2.2.2.2.2.2.1 v.2.2.2.2.2.2.2.2.2.2 (fun a0 a1 a2 a3 a4 a5 a6 a7 a8 a9 a10 => kn (a0, a1, a2, a3, a4, a5, a6, a7, a8, a9, a10)) (fun a0 a1 a2 a3 a4 a5 a6 a7 a8 a9 a10 => ke (a0, a1, a2, a3, a4, a5, a6, a7, a8, a9, a10))) n (corners, most, a, b, area, out, m, nv, u, v, k) (fun x => k0 x.1 x.2.1 x.2.2.1 x.2.2.2.1 x.2.2.2.2.1 x.2.2.2.2.2.1 x.2.2.2.2.2.2.1 x.2.2.2.2.2.2.2.1 x.2.2.2.2.2.2.2.2.1 x.2.2.2.2.2.2.2.2.2.1 x.2.2.2.2.2.2.2.2.2.2)
theorem spec_wiAll_L16_s {ρ : Type} (n : Nat) (corners : List (Int × Int)) (most : Int) (a : Int × Int) (b : Int × Int) (area : Int) (out : List (List Int)) (m : Int) (nv : Int) (u : Int) (v : Int) (k : Int) (k0 : (List (Int × Int)) → Int → (Int × Int) → (Int × Int) → Int → (List (List Int)) → Int → Int → Int → Int → Int → Option ρ) : spec_wiAll_L16 (n + 1) corners most a b area out m nv u v k k0 = spec_wiAll_R16 corners most a b area out m nv u v k (fun corners most a b area out m nv u v k => spec_wiAll_L16 n corners most a b area out m nv u v k k0) k0 := rfl
noncomputable def spec_wiAll_R9 {ρ : Type} (corners : List (Int × Int)) (most : Int) (a : Int × Int) (b : Int × Int) (area : Int) (out : List (List Int)) (m : Int) (nv : Int) (kn : (List (Int × Int)) → Int → (Int × Int) → (Int × Int) → Int → (List (List Int)) → Int → Int → Option ρ) (k0 : (List (Int × Int)) → Int → (Int × Int) → (Int × Int) → Int → (List (List Int)) → Int → Option ρ) : Option ρ :=
 bif decide (nv ≤ most) then
  nchk (decide (area = (0 : Int))) <|
  bif !(decide ((Int.tmod (w64 ((w64 (m * b.2)) - (w64 (nv * a.2)))) area) = (0 : Int))) then
   kn corners most a b area out m (w64 (nv + (1 : Int)))
  else
   nchk (decide (area = (0 : Int))) <|
   bif !(decide ((Int.tmod (w64 ((w64 (nv * a.1)) - (w64 (m * b.1)))) area) = (0 : Int))) then
    kn corners most a b area out m (w64 (nv + (1 : Int)))
   else
    nchk (decide (area = (0 : Int))) <|
    nchk (decide (area = (0 : Int))) <|
    bif decide ((w64 (Int.tdiv (w64 ((w64 (m * b.2)) - (w64 (nv * a.2)))) area)) < (0 : Int)) then
     kn corners most a b area out m (w64 (nv + (1 : Int)))
    else
     bif decide ((w64 (Int.tdiv (w64 ((w64 (m * b.2)) - (w64 (nv * a.2)))) area)) = (0 : Int)) then
      bif decide ((w64 (Int.tdiv (w64 ((w64 (nv * a.1)) - (w64 (m * b.1)))) area)) < (1 : Int)) then
       kn corners most a b area out m (w64 (nv + (1 : Int)))
      else
       spec_pgCommon (w64 (Int.tdiv (w64 ((w64 (m * b.2)) - (w64 (nv * a.2)))) area)) (w64 (Int.tdiv (w64 ((w64 (nv * a.1)) - (w64 (m * b.1)))) area)) fun r =>
       bif !(decide (r = (1 : Int))) then
        kn corners most a b area out m (w64 (nv + (1 : Int)))
       else
        spec_wiWidth corners (w64 (Int.tdiv (w64 ((w64 (m * b.2)) - (w64 (nv * a.2)))) area)) (w64 (Int.tdiv (w64 ((w64 (nv * a.1)) - (w64 (m * b.1)))) area)) fun r1 =>
        bif decide (r1 > most) then
         kn corners most a b area out m (w64 (nv + (1 : Int)))
        else
         spec_wiAll_L16 LIMN corners most a b area out m nv (w64 (Int.tdiv (w64 ((w64 (m * b.2)) - (w64 (nv * a.2)))) area)) (w64 (Int.tdiv (w64 ((w64 (nv * a.1)) - (w64 (m * b.1)))) area)) (out.length : Int)
          (fun corners1 most1 a1 b1 area1 out1 m1 nv1 u v k =>
          chk (decide (0 ≤ k) && decide (k ≤ (out1.length : Int))) <|
          chk (decide (([] : List (List Int)).length + (out1.take (Int.toNat k)).length ≤ LIM)) <|
          chk (decide ((([] : List (List Int)) ++ (out1.take (Int.toNat k))).length + ([([u, v] : List Int)] : List (List Int)).length ≤ LIM)) <|
          chk (decide (0 ≤ k) && decide (k ≤ (out1.length : Int))) <|
          chk (decide (((([] : List (List Int)) ++ (out1.take (Int.toNat k))) ++ ([([u, v] : List Int)] : List (List Int))).length + (out1.drop (Int.toNat k)).length ≤ LIM)) <|
          kn corners1 most1 a1 b1 area1 (((([] : List (List Int)) ++ (out1.take (Int.toNat k))) ++ ([([u, v] : List Int)] : List (List Int))) ++ (out1.drop (Int.toNat k))) m1 (w64 (nv1 + (1 : Int))))
     else
      spec_pgCommon (w64 (Int.tdiv (w64 ((w64 (m * b.2)) - (w64 (nv * a.2)))) area)) (w64 (Int.tdiv (w64 ((w64 (nv * a.1)) - (w64 (m * b.1)))) area)) fun r2 =>
      bif !(decide (r2 = (1 : Int))) then
       kn corners most a b area out m (w64 (nv + (1 : Int)))
      else
       spec_wiWidth corners (w64 (Int.tdiv (w64 ((w64 (m * b.2)) - (w64 (nv * a.2)))) area)) (w64 (Int.tdiv (w64 ((w64 (nv * a.1)) - (w64 (m * b.1)))) area)) fun r3 =>
       bif decide (r3 > most) then
        kn corners most a b area out m (w64 (nv + (1 : Int)))
       else
        spec_wiAll_L16 LIMN corners most a b area out m nv (w64 (Int.tdiv (w64 ((w64 (m * b.2)) - (w64 (nv * a.2)))) area)) (w64 (Int.tdiv (w64 ((w64 (nv * a.1)) - (w64 (m * b.1)))) area)) (out.length : Int)
         (fun corners2 most2 a2 b2 area2 out2 m2 nv2 u1 v1 k1 =>
         chk (decide (0 ≤ k1) && decide (k1 ≤ (out2.length : Int))) <|
         chk (decide (([] : List (List Int)).length + (out2.take (Int.toNat k1)).length ≤ LIM)) <|
         chk (decide ((([] : List (List Int)) ++ (out2.take (Int.toNat k1))).length + ([([u1, v1] : List Int)] : List (List Int)).length ≤ LIM)) <|
         chk (decide (0 ≤ k1) && decide (k1 ≤ (out2.length : Int))) <|
         chk (decide (((([] : List (List Int)) ++ (out2.take (Int.toNat k1))) ++ ([([u1, v1] : List Int)] : List (List Int))).length + (out2.drop (Int.toNat k1)).length ≤ LIM)) <|
         kn corners2 most2 a2 b2 area2 (((([] : List (List Int)) ++ (out2.take (Int.toNat k1))) ++ ([([u1, v1] : List Int)] : List (List Int))) ++ (out2.drop (Int.toNat k1))) m2 (w64 (nv2 + (1 : Int))))
 else
  k0 corners most a b area out m
noncomputable def spec_wiAll_L9 {ρ : Type} (n : Nat) (corners : List (Int × Int)) (most : Int) (a : Int × Int) (b : Int × Int) (area : Int) (out : List (List Int)) (m : Int) (nv : Int) (k0 : (List (Int × Int)) → Int → (Int × Int) → (Int × Int) → Int → (List (List Int)) → Int → Option ρ) : Option ρ :=
 loopN (fun v kn ke => spec_wiAll_R9 v.1 v.2.1 v.2.2.1 v.2.2.2.1 v.2.2.2.2.1 v.2.2.2.2.2.1 v.2.2.2.2.2.2.1 v.2.2.2.2.2.2.2 (fun a0 a1 a2 a3 a4 a5 a6 a7 => kn (a0, a1, a2, a3, a4, a5, a6, a7)) (fun a0 a1 a2 a3 a4 a5 a6 => ke (a0, a1, a2, a3, a4, a5, a6))) n (corners, most, a, b, area, out, m, nv) (fun x => k0 x.1 x.2.1 x.2.2.1 x.2.2.2.1 x.2.2.2.2.1 x.2.2.2.2.2.1 x.2.2.2.2.2.2)
theorem spec_wiAll_L9_s {ρ : Type} (n : Nat) (corners : List (Int × Int)) (most : Int) (a : Int × Int) (b : Int × Int) (area : Int) (out : List (List Int)) (m : Int) (nv : Int) (k0 : (List (Int × Int)) → Int → (Int × Int) → (Int × Int) → Int → (List (List Int)) → Int → Option ρ) : spec_wiAll_L9 (n + 1) corners most a b area out m nv k0 = spec_wiAll_R9 corners most a b area out m nv (fun corners most a b area out m nv => spec_wiAll_L9 n corners most a b area out m nv k0) k0 := rfl
noncomputable def spec_wiAll_R6 {ρ : Type} (corners : List (Int × Int)) (most : Int) (a : Int × Int) (b : Int × Int) (area : Int) (out : List (List Int)) (m : Int) (kn : (List (Int × Int)) → Int → (Int × Int) → (Int × Int) → Int → (List (List Int)) → Int → Option ρ) (k0 : (List (List Int)) → Option ρ) : Option ρ :=
 bif decide (m ≤ most) then
  spec_wiAll_L9 LIMN corners most a b area out m (w64 (0 - most))
   (fun corners1 most1 a1 b1 area1 out1 m1 =>
   kn corners1 most1 a1 b1 area1 out1 (w64 (m1 + (1 : Int))))
 else
  k0 out
noncomputable def spec_wiAll_L6 {ρ : Type} (n : Nat) (corners : List (Int × Int)) (most : Int) (a : Int × Int) (b : Int × Int) (area : Int) (out : List (List Int)) (m : Int) (k0 : (List (List Int)) → Option ρ) : Option ρ :=
 loopN (fun v kn ke => spec_wiAll_R6 v.1 v.2.1 v.2.2.1 v.2.2.2.1 v.2.2.2.2.1 v.2.2.2.2.2.1 v.2.2.2.2.2.2 (fun a0 a1 a2 a3 a4 a5 a6 => kn (a0, a1, a2, a3, a4, a5, a6)) (fun a0 => ke a0)) n (corners, most, a, b, area, out, m) (fun x => k0 x)
theorem spec_wiAll_L6_s {ρ : Type} (n : Nat) (corners : List (Int × Int)) (most : Int) (a : Int × Int) (b : Int × Int) (area : Int) (out : List (List Int)) (m : Int) (k0 : (List (List Int)) → Option ρ) : spec_wiAll_L6 (n + 1) corners most a b area out m k0 = spec_wiAll_R6 corners most a b area out m (fun corners most a b area out m => spec_wiAll_L6 n corners most a b area out m k0) k0 := rfl
/-- spec.wiAll -/
noncomputable def spec_wiAll {ρ : Type} (corners : List (Int × Int)) (most : Int) (K : (List (List Int)) → Option ρ) : Option ρ :=
 chk (inB (1 : Int) corners.length) <|
 chk (inB (0 : Int) corners.length) <|
 chk (inB (1 : Int) corners.length) <|
 chk (inB (0 : Int) corners.length) <|
 chk (inB (2 : Int) corners.length) <|
 chk (inB (0 : Int) corners.length) <|
 chk (inB (2 : Int) corners.length) <|
 chk (inB (0 : Int) corners.length) <|
 spec_wiAll_L6 LIMN corners most ((w64 ((corners.getD 1 ((0 : Int), (0 : Int))).1 - (corners.getD 0 ((0 : Int), (0 : Int))).1)), (w64 ((corners.getD 1 ((0 : Int), (0 : Int))).2 - (corners.getD 0 ((0 : Int), (0 : Int))).2))) ((w64 ((corners.getD 2 ((0 : Int), (0 : Int))).1 - (corners.getD 0 ((0 : Int), (0 : Int))).1)), (w64 ((corners.getD 2 ((0 : Int), (0 : Int))).2 - (corners.getD 0 ((0 : Int), (0 : Int))).2))) (w64 ((w64 ((w64 ((corners.getD 1 ((0 : Int), (0 : Int))).1 - (corners.getD 0 ((0 : Int), (0 : Int))).1)) * (w64 ((corners.getD 2 ((0 : Int), (0 : Int))).2 - (corners.getD 0 ((0 : Int), (0 : Int))).2)))) - (w64 ((w64 ((corners.getD 1 ((0 : Int), (0 : Int))).2 - (corners.getD 0 ((0 : Int), (0 : Int))).2)) * (w64 ((corners.getD 2 ((0 : Int), (0 : Int))).1 - (corners.getD 0 ((0 : Int), (0 : Int))).1)))))) ([] : List (List Int)) (w64 (0 - most))
  (fun out =>
  K out)
noncomputable def spec_wiLeast_R3 {ρ : Type} (corners : List (Int × Int)) (most : Int) (kn : (List (Int × Int)) → Int → Option ρ) (k0 : Int → (List (List Int)) → Option ρ) : Option ρ :=
 spec_wiAll corners most fun r =>
 bif decide ((r.length : Int) > (0 : Int)) then
  k0 most r
 else
  kn corners (w64 (most + (1 : Int)))
noncomputable def spec_wiLeast_L3 {ρ : Type} (n : Nat) (corners : List (Int × Int)) (most : Int) (k0 : Int → (List (List Int)) → Option ρ) : Option ρ :=
 loopN (fun v kn ke => spec_wiLeast_R3 v.1 v.2 (fun a0 a1 => kn (a0, a1)) (fun a0 a1 => ke (a0, a1))) n (corners, most) (fun x => k0 x.1 x.2)
theorem spec_wiLeast_L3_s {ρ : Type} (n : Nat) (corners : List (Int × Int)) (most : Int) (k0 : Int → (List (List Int)) → Option ρ) : spec_wiLeast_L3 (n + 1) corners most k0 = spec_wiLeast_R3 corners most (fun corners most => spec_wiLeast_L3 n corners most k0) k0 := rfl
/-- spec.wiLeast -/
noncomputable def spec_wiLeast {ρ : Type} (corners : List (Int × Int)) (K : Int → (List (List Int)) → Option ρ) : Option ρ :=
 spec_wiLeast_L3 LIMN corners (1 : Int)
  (fun t2 t3 =>
  K t2 t3)
/-- spec.DirectionsOfWidth -/
noncomputable def spec_DirectionsOfWidth {ρ : Type} (corners : List (Int × Int)) (K : (List (List Int)) → Bool → Option ρ) : Option ρ :=
 spec_pgGood corners fun r =>
 bif !r then
  K ([] : List (List Int)) false
 else
  spec_wiLeast corners fun r1 r2 =>
  K r2 true
/-- impl.within -/
noncomputable def impl_within {ρ : Type} (nv : Int) (lowv : Int) (high : Int) (K : Bool → Option ρ) : Option ρ :=
 bif decide (nv ≥ lowv) then
  K (decide (nv ≤ high))
 else
  K false
/-- impl.IsPeg -/
noncomputable def impl_IsPeg {ρ : Type} (p : Int × Int) (K : Bool → Option ρ) : Option ρ :=
 impl_within p.1 (-40 : Int) (40 : Int) fun r =>
 bif r then
  impl_within p.2 (-40 : Int) (40 : Int) fun r1 =>
  K r1
 else
  K false
/-- impl.arePegs$1 -/
noncomputable def impl_arePegs_1 {ρ : Type} (p : Int × Int) (K : Bool → Option ρ) : Option ρ :=
 impl_IsPeg p fun r =>
 K (!r)
noncomputable def slices_IndexFunc_Peg_at_arePegs_1_R2 {ρ : Type} (s : List (Int × Int)) (t7 : Int) (t8 : Int) (kn : (List (Int × Int)) → Int → Int → Option ρ) (k0 : Int → Option ρ) (k1 : Option ρ) : Option ρ :=
 bif decide (t8 < t7) then
  chk (inB t8 s.length) <|
  impl_arePegs_1 (s.getD (Int.toNat t8) ((0 : Int), (0 : Int))) fun r =>
  bif r then
   k0 t8
  else
   kn s t7 (w64 (t8 + (1 : Int)))
 else
  k1
noncomputable def slices_IndexFunc_Peg_at_arePegs_1_L2 {ρ : Type} (n : Nat) (s : List (Int × Int)) (t7 : Int) (t8 : Int) (k0 : Int → Option ρ) (k1 : Option ρ) : Option ρ :=
 loopN (fun v kn ke => slices_IndexFunc_Peg_at_arePegs_1_R2 v.1 v.2.1 v.2.2 (fun a0 a1 a2 => kn (a0, a1, a2)) (fun a0 => ke (.inl a0)) (ke (.inr ()))) n (s, t7, t8) (Sum.elim (fun x => k0 x) (fun _ => k1))
theorem slices_IndexFunc_Peg_at_arePegs_1_L2_s {ρ : Type} (n : Nat) (s : List (Int × Int)) (t7 : Int) (t8 : Int) (k0 : Int → Option ρ) (k1 : Option ρ) : slices_IndexFunc_Peg_at_arePegs_1_L2 (n + 1) s t7 t8 k0 k1 = slices_IndexFunc_Peg_at_arePegs_1_R2 s t7 t8 (fun s t7 t8 => slices_IndexFunc_Peg_at_arePegs_1_L2 n s t7 t8 k0 k1) k0 k1 := rfl
/-- slices.IndexFunc[s.impl.Peg,impl.Peg] -/
noncomputable def slices_IndexFunc_Peg_at_arePegs_1 {ρ : Type} (s : List (Int × Int)) (K : Int → Option ρ) : Option ρ :=
 slices_IndexFunc_Peg_at_arePegs_1_L2 LIMN s (s.length : Int) (0 : Int)
  (fun t4 =>
  K t4)
  (
  K (-1 : Int))
/-- slices.ContainsFunc[s.impl.Peg,impl.Peg] -/
noncomputable def slices_ContainsFunc_Peg_at_arePegs_1 {ρ : Type} (s : List (Int × Int)) (K : Bool → Option ρ) : Option ρ :=
 slices_IndexFunc_Peg_at_arePegs_1 s fun r =>
 K (decide (r ≥ (0 : Int)))
/-- impl.arePegs -/
noncomputable def impl_arePegs {ρ : Type} (list : List (Int × Int)) (K : Bool → Option ρ) : Option ρ :=
 slices_ContainsFunc_Peg_at_arePegs_1 list fun r =>
 K (!r)
noncomputable def slices_Index_Peg_R2 {ρ : Type} (s : List (Int × Int)) (v : Int × Int) (t7 : Int) (t8 : Int) (kn : (List (Int × Int)) → (Int × Int) → Int → Int → Option ρ) (k0 : Int → Option ρ) (k1 : Option ρ) : Option ρ :=
 bif decide (t8 < t7) then
  chk (inB t8 s.length) <|
  bif (decide (v.1 = (s.getD (Int.toNat t8) ((0 : Int), (0 : Int))).1)) && (decide (v.2 = (s.getD (Int.toNat t8) ((0 : Int), (0 : Int))).2)) then
   k0 t8
  else
   kn s v t7 (w64 (t8 + (1 : Int)))
 else
  k1
noncomputable def slices_Index_Peg_L2 {ρ : Type} (n : Nat) (s : List (Int × Int)) (v : Int × Int) (t7 : Int) (t8 : Int) (k0 : Int → Option ρ) (k1 : Option ρ) : Option ρ :=
 loopN (fun v kn ke => slices_Index_Peg_R2 v.1 v.2.1 v.2.2.1 v.2.2.2 (fun a0 a1 a2 a3 => kn (a0, a1, a2, a3)) (fun a0 => ke (.inl a0)) (ke (.inr ()))) n (s, v, t7, t8) (Sum.elim (fun x => k0 x) (fun _ => k1))
theorem slices_Index_Peg_L2_s {ρ : Type} (n : Nat) (s : List (Int × Int)) (v : Int × Int) (t7 : Int) (t8 : Int) (k0 : Int → Option ρ) (k1 : Option ρ) : slices_Index_Peg_L2 (n + 1) s v t7 t8 k0 k1 = slices_Index_Peg_R2 s v t7 t8 (fun s v t7 t8 => slices_Index_Peg_L2 n s v t7 t8 k0 k1) k0 k1 := rfl
/-- slices.Index[s.impl.Peg,impl.Peg] -/
noncomputable def slices_Index_Peg {ρ : Type} (s : List (Int × Int)) (v : Int × Int) (K : Int → Option ρ) : Option ρ :=
 slices_Index_Peg_L2 LIMN s v (s.length : Int) (0 : Int)
  (fun t4 =>
  K t4)
  (
  K (-1 : Int))
/-- slices.Contains[s.impl.Peg,impl.Peg] -/
noncomputable def slices_Contains_Peg {ρ : Type} (s : List (Int × Int)) (v : Int × Int) (K : Bool → Option ρ) : Option ρ :=
 slices_Index_Peg s v fun r =>
 K (decide (r ≥ (0 : Int)))
/-- impl.at -/
noncomputable def impl_at {ρ : Type} (corners : List (Int × Int)) (i : Int) (K : (Int × Int) → Option ρ) : Option ρ :=
 nchk (decide ((corners.length : Int) = (0 : Int))) <|
 nchk (decide ((corners.length : Int) = (0 : Int))) <|
 chk (inB (Int.tmod (w64 ((Int.tmod i (corners.length : Int)) + (corners.length : Int))) (corners.length : Int)) corners.length) <|
 K (corners.getD (Int.toNat (Int.tmod (w64 ((Int.tmod i (corners.length : Int)) + (corners.length : Int))) (corners.length : Int))) ((0 : Int), (0 : Int)))
/-- (impl.Peg).less -/
noncomputable def impl_Peg_less {ρ : Type} (p : Int × Int) (q : Int × Int) (K : (Int × Int) → Option ρ) : Option ρ :=
 K ((w64 (p.1 - q.1)), (w64 (p.2 - q.2)))
/-- impl.cross -/
noncomputable def impl_cross {ρ : Type} (p : Int × Int) (q : Int × Int) (K : Int → Option ρ) : Option ρ :=
 K (w64 ((w64 (p.1 * q.2)) - (w64 (p.2 * q.1))))
/-- impl.turn -/
noncomputable def impl_turn {ρ : Type} (a : Int × Int) (b : Int × Int) (c : Int × Int) (K : Int → Option ρ) : Option ρ :=
 impl_Peg_less b a fun r =>
 impl_Peg_less c a fun r1 =>
 impl_cross r r1 fun r2 =>
 K r2
/-- impl.sign -/
noncomputable def impl_sign {ρ : Type} (nv : Int) (K : Int → Option ρ) : Option ρ :=
 K (min (1 : Int) (max (-1 : Int) nv))
/-- impl.isOn -/
noncomputable def impl_isOn {ρ : Type} (a : Int × Int) (b : Int × Int) (p : Int × Int) (K : Bool → Option ρ) : Option ρ :=
 impl_turn a b p fun r =>
 bif decide (r = (0 : Int)) then
  impl_within p.1 (min a.1 b.1) (max a.1 b.1) fun r1 =>
  bif r1 then
   impl_within p.2 (min a.2 b.2) (max a.2 b.2) fun r2 =>
   K r2
  else
   K false
 else
  K false
/-- impl.meet -/
noncomputable def impl_meet {ρ : Type} (a : Int × Int) (b : Int × Int) (c : Int × Int) (d : Int × Int) (K : Bool → Option ρ) : Option ρ :=
 impl_turn a b c fun r =>
 impl_sign r fun r1 =>
 impl_turn a b d fun r2 =>
 impl_sign r2 fun r3 =>
 bif decide ((w64 (r1 * r3)) < (0 : Int)) then
  impl_turn c d a fun r4 =>
  impl_sign r4 fun r5 =>
  impl_turn c d b fun r6 =>
  impl_sign r6 fun r7 =>
  bif decide ((w64 (r5 * r7)) < (0 : Int)) then
   K true
  else
   impl_isOn a b c fun r8 =>
   bif r8 then
    K true
   else
    impl_isOn a b d fun r9 =>
    bif r9 then
     K true
    else
     impl_isOn c d a fun r10 =>
     bif r10 then
      K true
     else
      impl_isOn c d b fun r11 =>
      K r11
 else
  impl_isOn a b c fun r12 =>
  bif r12 then
   K true
  else
   impl_isOn a b d fun r13 =>
   bif r13 then
    K true
   else
    impl_isOn c d a fun r14 =>
    bif r14 then
     K true
    else
     impl_isOn c d b fun r15 =>
     K r15
noncomputable def impl_IsPolygon_R10 {ρ : Type} (corners : List (Int × Int)) (nv : Int) (i : Int) (p : Int × Int) (t17 : List (Int × Int)) (t18 : Int) (t19 : Int) (t42 : Int) (t43 : Int) (kn : (List (Int × Int)) → Int → Int → (Int × Int) → (List (Int × Int)) → Int → Int → Int → Int → Option ρ) (k0 : (List (Int × Int)) → Bool → Int → (List (Int × Int)) → Int → Int → Option ρ) (k1 : (List (Int × Int)) → Int → (List (Int × Int)) → Int → Int → Option ρ) : Option ρ :=
 bif decide (t43 < t42) then
  bif decide ((w64 (t43 + (1 : Int))) = i) then
   kn corners nv i p t17 t18 t19 t42 (w64 (t43 + (1 : Int)))
  else
   bif decide ((w64 (i + (1 : Int))) = nv) then
    bif decide (t43 = (0 : Int)) then
     kn corners nv i p t17 t18 t19 t42 (w64 (t43 + (1 : Int)))
    else
     chk (inB t43 corners.length) <|
     chk (inB (w64 (t43 + (1 : Int))) corners.length) <|
     impl_at corners (w64 (i + (1 : Int))) fun r =>
     impl_meet (corners.getD (Int.toNat t43) ((0 : Int), (0 : Int))) (corners.getD (Int.toNat (w64 (t43 + (1 : Int)))) ((0 : Int), (0 : Int))) p r fun r1 =>
     bif r1 then
      k0 corners false nv t17 t18 t19
     else
      kn corners nv i p t17 t18 t19 t42 (w64 (t43 + (1 : Int)))
   else
    chk (inB t43 corners.length) <|
    chk (inB (w64 (t43 + (1 : Int))) corners.length) <|
    impl_at corners (w64 (i + (1 : Int))) fun r2 =>
    impl_meet (corners.getD (Int.toNat t43) ((0 : Int), (0 : Int))) (corners.getD (Int.toNat (w64 (t43 + (1 : Int)))) ((0 : Int), (0 : Int))) p r2 fun r3 =>
    bif r3 then
     k0 corners false nv t17 t18 t19
    else
     kn corners nv i p t17 t18 t19 t42 (w64 (t43 + (1 : Int)))
 else
  k1 corners nv t17 t18 t19
noncomputable def impl_IsPolygon_L10 {ρ : Type} (n : Nat) (corners : List (Int × Int)) (nv : Int) (i : Int) (p : Int × Int) (t17 : List (Int × Int)) (t18 : Int) (t19 : Int) (t42 : Int) (t43 : Int) (k0 : (List (Int × Int)) → Bool → Int → (List (Int × Int)) → Int → Int → Option ρ) (k1 : (List (Int × Int)) → Int → (List (Int × Int)) → Int → Int → Option ρ) : Option ρ :=
 loopN (fun v kn ke => impl_IsPolygon_R10 v.1 v.2.1 v.2.2.1 v.2.2.2.1 v.2.2.2.2.1 v.2.2.2.2.2.1 v.2.2.2.2.2.2.1 v.2.2.2.2.2.2.2.1 v.2.2.2.2.2.2.2.2 (fun a0 a1 a2 a3 a4 a5 a6 a7 a8 => kn (a0, a1, a2, a3, a4, a5, a6, a7, a8)) (fun a0 a1 a2 a3 a4 a5 => ke (.inl (a0, a1, a2, a3, a4, a5))) (fun a0 a1 a2 a3 a4 => ke (.inr (a0, a1, a2, a3, a4)))) n (corners, nv, i, p, t17, t18, t19, t42, t43) (Sum.elim (fun x => k0 x.1 x.2.1 x.2.2.1 x.2.2.2.1 x.2.2.2.2.1 x.2.2.2.2.2) (fun x => k1 x.1 x.2.1 x.2.2.1 x.2.2.2.1 x.2.2.2.2))
theorem impl_IsPolygon_L10_s {ρ : Type} (n : Nat) (corners : List (Int × Int)) (nv : Int) (i : Int) (p : Int × Int) (t17 : List (Int × Int)) (t18 : Int) (t19 : Int) (t42 : Int) (t43 : Int) (k0 : (List (Int × Int)) → Bool → Int → (List (Int × Int)) → Int → Int → Option ρ) (k1 : (List (Int × Int)) → Int → (List (Int × Int)) → Int → Int → Option ρ) : impl_IsPolygon_L10 (n + 1) corners nv i p t17 t18 t19 t42 t43 k0 k1 = impl_IsPolygon_R10 corners nv i p t17 t18 t19 t42 t43 (fun corners nv i p t17 t18 t19 t42 t43 => impl_IsPolygon_L10 n corners nv i p t17 t18 t19 t42 t43 k0 k1) k0 k1 := rfl
noncomputable def impl_IsPolygon_R5 {ρ : Type} (corners : List (Int × Int)) (nv : Int) (t17 : List (Int × Int)) (t18 : Int) (t19 : Int) (kn : (List (Int × Int)) → Int → (List (Int × Int)) → Int → Int → Option ρ) (k0 : Bool → Option ρ) (k1 : Option ρ) : Option ρ :=
 bif decide (t19 < t18) then
  chk (inB t19 t17.length) <|
  chk (decide (0 ≤ t19) && decide (t19 ≤ (corners.length : Int))) <|
  slices_Contains_Peg (corners.take (Int.toNat t19)) (t17.getD (Int.toNat t19) ((0 : Int), (0 : Int))) fun r =>
  bif r then
   k0 false
  else
   impl_at corners (w64 (t19 - (1 : Int))) fun r1 =>
   impl_at corners (w64 (t19 + (1 : Int))) fun r2 =>
   impl_turn r1 (t17.getD (Int.toNat t19) ((0 : Int), (0 : Int))) r2 fun r3 =>
   bif decide (r3 = (0 : Int)) then
    k0 false
   else
    impl_IsPolygon_L10 LIMN corners nv t19 (t17.getD (Int.toNat t19) ((0 : Int), (0 : Int))) t17 t18 t19 t19 (0 : Int)
     (fun corners1 t2 nv1 t171 t181 t191 =>
     k0 t2)
     (fun corners2 nv2 t172 t182 t192 =>
     kn corners2 nv2 t172 t182 (w64 (t192 + (1 : Int))))
 else
  k1
noncomputable def impl_IsPolygon_L5 {ρ : Type} (n : Nat) (corners : List (Int × Int)) (nv : Int) (t17 : List (Int × Int)) (t18 : Int) (t19 : Int) (k0 : Bool → Option ρ) (k1 : Option ρ) : Option ρ :=
 loopN (fun v kn ke => impl_IsPolygon_R5 v.1 v.2.1 v.2.2.1 v.2.2.2.1 v.2.2.2.2 (fun a0 a1 a2 a3 a4 => kn (a0, a1, a2, a3, a4)) (fun a0 => ke (.inl a0)) (ke (.inr ()))) n (corners, nv, t17, t18, t19) (Sum.elim (fun x => k0 x) (fun _ => k1))
theorem impl_IsPolygon_L5_s {ρ : Type} (n : Nat) (corners : List (Int × Int)) (nv : Int) (t17 : List (Int × Int)) (t18 : Int) (t19 : Int) (k0 : Bool → Option ρ) (k1 : Option ρ) : impl_IsPolygon_L5 (n + 1) corners nv t17 t18 t19 k0 k1 = impl_IsPolygon_R5 corners nv t17 t18 t19 (fun corners nv t17 t18 t19 => impl_IsPolygon_L5 n corners nv t17 t18 t19 k0 k1) k0 k1 := rfl
/-- impl.IsPolygon -/
noncomputable def impl_IsPolygon {ρ : Type} (corners : List (Int × Int)) (K : Bool → Option ρ) : Option ρ :=
 impl_within (corners.length : Int) (3 : Int) (10 : Int) fun r =>
 bif !r then
  K false
 else
  impl_arePegs corners fun r1 =>
  bif !r1 then
   K false
  else
   impl_IsPolygon_L5 LIMN corners (corners.length : Int) corners (corners.length : Int) (0 : Int)
    (fun t2 =>
    K t2)
    (
    K true)
/-- impl.value -/
noncomputable def impl_value {ρ : Type} (d : Int × Int) (p : Int × Int) (K : Int → Option ρ) : Option ρ :=
 K (w64 ((w64 (d.1 * p.1)) + (w64 (d.2 * p.2))))
noncomputable def impl_extent_R4 {ρ : Type} (d : Int × Int) (lowv : Int) (high : Int) (t16 : List (Int × Int)) (t17 : Int) (t18 : Int) (kn : (Int × Int) → Int → Int → (List (Int × Int)) → Int → Int → Option ρ) (k0 : Int → Int → Option ρ) : Option ρ :=
 bif decide (t18 < t17) then
  chk (inB t18 t16.length) <|
  impl_value d (t16.getD (Int.toNat t18) ((0 : Int), (0 : Int))) fun r =>
  impl_value d (t16.getD (Int.toNat t18) ((0 : Int), (0 : Int))) fun r1 =>
  kn d (min lowv r) (max high r1) t16 t17 (w64 (t18 + (1 : Int)))
 else
  k0 lowv high
noncomputable def impl_extent_L4 {ρ : Type} (n : Nat) (d : Int × Int) (lowv : Int) (high : Int) (t16 : List (Int × Int)) (t17 : Int) (t18 : Int) (k0 : Int → Int → Option ρ) : Option ρ :=
 loopN (fun v kn ke => impl_extent_R4 v.1 v.2.1 v.2.2.1 v.2.2.2.1 v.2.2.2.2.1 v.2.2.2.2.2 (fun a0 a1 a2 a3 a4 a5 => kn (a0, a1, a2, a3, a4, a5)) (fun a0 a1 => ke (a0, a1))) n (d, lowv, high, t16, t17, t18) (fun x => k0 x.1 x.2)
theorem impl_extent_L4_s {ρ : Type} (n : Nat) (d : Int × Int) (lowv : Int) (high : Int) (t16 : List (Int × Int)) (t17 : Int) (t18 : Int) (k0 : Int → Int → Option ρ) : impl_extent_L4 (n + 1) d lowv high t16 t17 t18 k0 = impl_extent_R4 d lowv high t16 t17 t18 (fun d lowv high t16 t17 t18 => impl_extent_L4 n d lowv high t16 t17 t18 k0) k0 := rfl
/-- impl.extent -/
noncomputable def impl_extent {ρ : Type} (corners : List (Int × Int)) (d : Int × Int) (K : Int → Int → Option ρ) : Option ρ :=
 chk (inB (0 : Int) corners.length) <|
 impl_value d (corners.getD 0 ((0 : Int), (0 : Int))) fun r =>
 impl_extent_L4 LIMN d r r corners (corners.length : Int) (0 : Int)
  (fun lowv high =>
  K lowv high)
/-- impl.width -/
noncomputable def impl_width {ρ : Type} (corners : List (Int × Int)) (d : Int × Int) (K : Int → Option ρ) : Option ρ :=
 impl_extent corners d fun r r1 =>
 K (w64 (r1 - r))
/-- impl.size -/
noncomputable def impl_size {ρ : Type} (nv : Int) (K : Int → Option ρ) : Option ρ :=
 K (max nv (w64 (0 - nv)))
noncomputable def impl_divisor_R1 {ρ : Type} (a : Int) (b : Int) (kn : Int → Int → Option ρ) (k0 : Int → Option ρ) : Option ρ :=
 bif !(decide (b = (0 : Int))) then
  nchk (decide (b = (0 : Int))) <|
  kn b (Int.tmod a b)
 else
  k0 a
noncomputable def impl_divisor_L1 {ρ : Type} (n : Nat) (a : Int) (b : Int) (k0 : Int → Option ρ) : Option ρ :=
 loopN (fun v kn ke => impl_divisor_R1 v.1 v.2 (fun a0 a1 => kn (a0, a1)) (fun a0 => ke a0)) n (a, b) (fun x => k0 x)
theorem impl_divisor_L1_s {ρ : Type} (n : Nat) (a : Int) (b : Int) (k0 : Int → Option ρ) : impl_divisor_L1 (n + 1) a b k0 = impl_divisor_R1 a b (fun a b => impl_divisor_L1 n a b k0) k0 := rfl
/-- impl.divisor -/
noncomputable def impl_divisor {ρ : Type} (a : Int) (b : Int) (K : Int → Option ρ) : Option ρ :=
 impl_divisor_L1 LIMN a b
  (fun a1 =>
  impl_size a1 fun r =>
  K r)
/-- slices.Clone[s.impl.Peg,impl.Peg] -/
noncomputable def slices_Clone_Peg_nil {ρ : Type} (s : List (Int × Int)) (K : (List (Int × Int)) → Option ρ) : Option ρ :=
 K ([] : List (Int × Int))
/-- slices.Clone[s.impl.Peg,impl.Peg] -/
noncomputable def slices_Clone_Peg_some {ρ : Type} (s : List (Int × Int)) (K : (List (Int × Int)) → Option ρ) : Option ρ :=
 chk (decide (([] : List (Int × Int)).length + s.length ≤ LIM)) <|
 K (([] : List (Int × Int)) ++ s)
/-- slices.Clone -/
noncomputable def slices_Clone_Peg {ρ : Type} (s : List (Int × Int)) (K : List (Int × Int) → Option ρ) : Option ρ := chk (decide (s.length ≤ LIM)) <| K s
/-- cmp.isNaN[int] -/
noncomputable def cmp_isNaN_int {ρ : Type} (x : Int) (K : Bool → Option ρ) : Option ρ :=
 K (!(decide (x = x)))
/-- cmp.Compare[int] -/
noncomputable def cmp_Compare_int {ρ : Type} (x : Int) (y : Int) (K : Int → Option ρ) : Option ρ :=
 cmp_isNaN_int x fun r =>
 cmp_isNaN_int y fun r1 =>
 bif r then
  bif r1 then
   K (0 : Int)
  else
   K (-1 : Int)
 else
  bif r1 then
   K (1 : Int)
  else
   bif decide (x < y) then
    K (-1 : Int)
   else
    bif decide (x > y) then
     K (1 : Int)
    else
     K (0 : Int)
noncomputable def cmp_Or_int_R3 {ρ : Type} (zero : Int) (t6 : List Int) (t7 : Int) (t8 : Int) (kn : Int → (List Int) → Int → Int → Option ρ) (k0 : Int → Int → Option ρ) (k1 : Int → Option ρ) : Option ρ :=
 bif decide (t8 < t7) then
  chk (inB t8 t6.length) <|
  bif !(decide ((t6.getD (Int.toNat t8) (0 : Int)) = zero)) then
   k0 (t6.getD (Int.toNat t8) (0 : Int)) zero
  else
   kn zero t6 t7 (w64 (t8 + (1 : Int)))
 else
  k1 zero
noncomputable def cmp_Or_int_L3 {ρ : Type} (n : Nat) (zero : Int) (t6 : List Int) (t7 : Int) (t8 : Int) (k0 : Int → Int → Option ρ) (k1 : Int → Option ρ) : Option ρ :=
 loopN (fun v kn ke => cmp_Or_int_R3 v.1 v.2.1 v.2.2.1 v.2.2.2 (fun a0 a1 a2 a3 => kn (a0, a1, a2, a3)) (fun a0 a1 => ke (.inl (a0, a1))) (fun a0 => ke (.inr a0))) n (zero, t6, t7, t8) (Sum.elim (fun x => k0 x.1 x.2) (fun x => k1 x))
theorem cmp_Or_int_L3_s {ρ : Type} (n : Nat) (zero : Int) (t6 : List Int) (t7 : Int) (t8 : Int) (k0 : Int → Int → Option ρ) (k1 : Int → Option ρ) : cmp_Or_int_L3 (n + 1) zero t6 t7 t8 k0 k1 = cmp_Or_int_R3 zero t6 t7 t8 (fun zero t6 t7 t8 => cmp_Or_int_L3 n zero t6 t7 t8 k0 k1) k0 k1 := rfl
/-- cmp.Or[int] -/
noncomputable def cmp_Or_int {ρ : Type} (vals : List Int) (K : Int → Option ρ) : Option ρ :=
 cmp_Or_int_L3 LIMN (0 : Int) vals (vals.length : Int) (0 : Int)
  (fun t2 zero =>
  K t2)
  (fun zero1 =>
  K zero1)
/-- impl.comparePegs -/
noncomputable def impl_comparePegs {ρ : Type} (p : Int × Int) (q : Int × Int) (K : Int → Option ρ) : Option ρ :=
 cmp_Compare_int p.1 q.1 fun r =>
 cmp_Compare_int p.2 q.2 fun r1 =>
 cmp_Or_int ([r, r1] : List Int) fun r2 =>
 K r2
def cf_impl_comparePegs (p q : Int × Int) : Int := if p.1 < q.1 then -1 else if q.1 < p.1 then 1 else if p.2 < q.2 then -1 else if q.2 < p.2 then 1 else 0
/-- slices.SortFunc -/
noncomputable def slices_SortFunc_Peg_at_comparePegs {ρ : Type} (w : List (Int × Int)) (K : List (Int × Int) → Option ρ) : Option ρ := chk (decide (0 < w.length) && decide (w.length < 4611686018427387904)) <| K (sortBy cf_impl_comparePegs w)
/-- impl.sorted -/
noncomputable def impl_sorted {ρ : Type} (pegs : List (Int × Int)) (K : (List (Int × Int)) → Option ρ) : Option ρ :=
 slices_Clone_Peg pegs fun r =>
 slices_SortFunc_Peg_at_comparePegs r fun w =>
 K w
noncomputable def impl_directions_R8 {ρ : Type} (corners : List (Int × Int)) (most : Int) (out : List (Int × Int)) (v : Int × Int) (w : Int × Int) (area : Int) (s : Int) (t : Int) (kn : (List (Int × Int)) → Int → (List (Int × Int)) → (Int × Int) → (Int × Int) → Int → Int → Int → Option ρ) (k0 : (List (Int × Int)) → Int → (List (Int × Int)) → (Int × Int) → (Int × Int) → Int → Int → Option ρ) : Option ρ :=
 bif decide (t ≤ most) then
  nchk (decide (area = (0 : Int))) <|
  bif !(decide ((Int.tmod (w64 ((w64 (s * w.2)) - (w64 (t * v.2)))) area) = (0 : Int))) then
   kn corners most out v w area s (w64 (t + (1 : Int)))
  else
   nchk (decide (area = (0 : Int))) <|
   bif !(decide ((Int.tmod (w64 ((w64 (t * v.1)) - (w64 (s * w.1)))) area) = (0 : Int))) then
    kn corners most out v w area s (w64 (t + (1 : Int)))
   else
    nchk (decide (area = (0 : Int))) <|
    nchk (decide (area = (0 : Int))) <|
    impl_divisor (w64 (Int.tdiv (w64 ((w64 (s * w.2)) - (w64 (t * v.2)))) area)) (w64 (Int.tdiv (w64 ((w64 (t * v.1)) - (w64 (s * w.1)))) area)) fun r =>
    bif decide (r = (1 : Int)) then
     bif decide ((w64 (Int.tdiv (w64 ((w64 (s * w.2)) - (w64 (t * v.2)))) area)) > (0 : Int)) then
      impl_width corners ((w64 (Int.tdiv (w64 ((w64 (s * w.2)) - (w64 (t * v.2)))) area)), (w64 (Int.tdiv (w64 ((w64 (t * v.1)) - (w64 (s * w.1)))) area))) fun r1 =>
      bif decide (r1 ≤ most) then
       chk (decide (out.length + ([((w64 (Int.tdiv (w64 ((w64 (s * w.2)) - (w64 (t * v.2)))) area)), (w64 (Int.tdiv (w64 ((w64 (t * v.1)) - (w64 (s * w.1)))) area)))] : List (Int × Int)).length ≤ LIM)) <|
       kn corners most (out ++ ([((w64 (Int.tdiv (w64 ((w64 (s * w.2)) - (w64 (t * v.2)))) area)), (w64 (Int.tdiv (w64 ((w64 (t * v.1)) - (w64 (s * w.1)))) area)))] : List (Int × Int))) v w area s (w64 (t + (1 : Int)))
      else
       kn corners most out v w area s (w64 (t + (1 : Int)))
     else
      bif decide ((w64 (Int.tdiv (w64 ((w64 (s * w.2)) - (w64 (t * v.2)))) area)) = (0 : Int)) then
       bif decide ((w64 (Int.tdiv (w64 ((w64 (t * v.1)) - (w64 (s * w.1)))) area)) = (1 : Int)) then
        impl_width corners ((w64 (Int.tdiv (w64 ((w64 (s * w.2)) - (w64 (t * v.2)))) area)), (w64 (Int.tdiv (w64 ((w64 (t * v.1)) - (w64 (s * w.1)))) area))) fun r2 =>
        bif decide (r2 ≤ most) then
         chk (decide (out.length + ([((w64 (Int.tdiv (w64 ((w64 (s * w.2)) - (w64 (t * v.2)))) area)), (w64 (Int.tdiv (w64 ((w64 (t * v.1)) - (w64 (s * w.1)))) area)))] : List (Int × Int)).length ≤ LIM)) <|
         kn corners most (out ++ ([((w64 (Int.tdiv (w64 ((w64 (s * w.2)) - (w64 (t * v.2)))) area)), (w64 (Int.tdiv (w64 ((w64 (t * v.1)) - (w64 (s * w.1)))) area)))] : List (Int × Int))) v w area s (w64 (t + (1 : Int)))
        else
         kn corners most out v w area s (w64 (t + (1 : Int)))
       else
        kn corners most out v w area s (w64 (t + (1 : Int)))
      else
       kn corners most out v w area s (w64 (t + (1 : Int)))
    else
     kn corners most out v w area s (w64 (t + (1 : Int)))
 else
  k0 corners most out v w area s
noncomputable def impl_directions_L8 {ρ : Type} (n : Nat) (corners : List (Int × Int)) (most : Int) (out : List (Int × Int)) (v : Int × Int) (w : Int × Int) (area : Int) (s : Int) (t : Int) (k0 : (List (Int × Int)) → Int → (List (Int × Int)) → (Int × Int) → (Int × Int) → Int → Int → Option ρ) : Option ρ :=
 loopN (fun v kn ke => impl_directions_R8 v.1 v.2.1 v.2.2.1 v.2.2.2.1 v.2.2.2.2.1 v.2.2.2.2.2.1 v.2.2.2.2.2.2.1 v.2.2.2.2.2.2.2 (fun a0 a1 a2 a3 a4 a5 a6 a7 => kn (a0, a1, a2, a3, a4, a5, a6, a7)) (fun a0 a1 a2 a3 a4 a5 a6 => ke (a0, a1, a2, a3, a4, a5, a6))) n (corners, most, out, v, w, area, s, t) (fun x => k0 x.1 x.2.1 x.2.2.1 x.2.2.2.1 x.2.2.2.2.1 x.2.2.2.2.2.1 x.2.2.2.2.2.2)
theorem impl_directions_L8_s {ρ : Type} (n : Nat) (corners : List (Int × Int)) (most : Int) (out : List (Int × Int)) (v : Int × Int) (w : Int × Int) (area : Int) (s : Int) (t : Int) (k0 : (List (Int × Int)) → Int → (List (Int × Int)) → (Int × Int) → (Int × Int) → Int → Int → Option ρ) : impl_directions_L8 (n + 1) corners most out v w area s t k0 = impl_directions_R8 corners most out v w area s t (fun corners most out v w area s t => impl_directions_L8 n corners most out v w area s t k0) k0 := rfl
noncomputable def impl_directions_R5 {ρ : Type} (corners : List (Int × Int)) (most : Int) (out : List (Int × Int)) (v : Int × Int) (w : Int × Int) (area : Int) (s : Int) (kn : (List (Int × Int)) → Int → (List (Int × Int)) → (Int × Int) → (Int × Int) → Int → Int → Option ρ) (k0 : (List (Int × Int)) → Option ρ) : Option ρ :=
 bif decide (s ≤ most) then
  impl_directions_L8 LIMN corners most out v w area s (w64 (0 - most))
   (fun corners1 most1 out1 v1 w1 area1 s1 =>
   kn corners1 most1 out1 v1 w1 area1 (w64 (s1 + (1 : Int))))
 else
  k0 out
noncomputable def impl_directions_L5 {ρ : Type} (n : Nat) (corners : List (Int × Int)) (most : Int) (out : List (Int × Int)) (v : Int × Int) (w : Int × Int) (area : Int) (s : Int) (k0 : (List (Int × Int)) → Option ρ) : Option ρ :=
 loopN (fun v kn ke => impl_directions_R5 v.1 v.2.1 v.2.2.1 v.2.2.2.1 v.2.2.2.2.1 v.2.2.2.2.2.1 v.2.2.2.2.2.2 (fun a0 a1 a2 a3 a4 a5 a6 => kn (a0, a1, a2, a3, a4, a5, a6)) (fun a0 => ke a0)) n (corners, most, out, v, w, area, s) (fun x => k0 x)
theorem impl_directions_L5_s {ρ : Type} (n : Nat) (corners : List (Int × Int)) (most : Int) (out : List (Int × Int)) (v : Int × Int) (w : Int × Int) (area : Int) (s : Int) (k0 : (List (Int × Int)) → Option ρ) : impl_directions_L5 (n + 1) corners most out v w area s k0 = impl_directions_R5 corners most out v w area s (fun corners most out v w area s => impl_directions_L5 n corners most out v w area s k0) k0 := rfl
/-- impl.directions -/
noncomputable def impl_directions {ρ : Type} (corners : List (Int × Int)) (most : Int) (K : (List (Int × Int)) → Option ρ) : Option ρ :=
 chk (inB (1 : Int) corners.length) <|
 chk (inB (0 : Int) corners.length) <|
 impl_Peg_less (corners.getD 1 ((0 : Int), (0 : Int))) (corners.getD 0 ((0 : Int), (0 : Int))) fun r =>
 chk (inB (2 : Int) corners.length) <|
 chk (inB (0 : Int) corners.length) <|
 impl_Peg_less (corners.getD 2 ((0 : Int), (0 : Int))) (corners.getD 0 ((0 : Int), (0 : Int))) fun r1 =>
 impl_cross r r1 fun r2 =>
 impl_directions_L5 LIMN corners most ([] : List (Int × Int)) r r1 r2 (w64 (0 - most))
  (fun out =>
  impl_sorted out fun r3 =>
  K r3)
/-- impl.least$1 -/
noncomputable def impl_least_1 {ρ : Type} (d : Int × Int) (t1 : List (Int × Int)) (t2 : Int) (K : Bool → Option ρ) : Option ρ :=
 impl_width t1 d fun r =>
 K (decide (r > t2))
noncomputable def slices_IndexFunc_Peg_at_least_1_R2 {ρ : Type} (s : List (Int × Int)) (f : (List (Int × Int)) × Int) (t7 : Int) (t8 : Int) (kn : (List (Int × Int)) → ((List (Int × Int)) × Int) → Int → Int → Option ρ) (k0 : Int → Option ρ) (k1 : Option ρ) : Option ρ :=
 bif decide (t8 < t7) then
  chk (inB t8 s.length) <|
  impl_least_1 (s.getD (Int.toNat t8) ((0 : Int), (0 : Int))) f.1 f.2 fun r =>
  bif r then
   k0 t8
  else
   kn s f t7 (w64 (t8 + (1 : Int)))
 else
  k1
noncomputable def slices_IndexFunc_Peg_at_least_1_L2 {ρ : Type} (n : Nat) (s : List (Int × Int)) (f : (List (Int × Int)) × Int) (t7 : Int) (t8 : Int) (k0 : Int → Option ρ) (k1 : Option ρ) : Option ρ :=
 loopN (fun v kn ke => slices_IndexFunc_Peg_at_least_1_R2 v.1 v.2.1 v.2.2.1 v.2.2.2 (fun a0 a1 a2 a3 => kn (a0, a1, a2, a3)) (fun a0 => ke (.inl a0)) (ke (.inr ()))) n (s, f, t7, t8) (Sum.elim (fun x => k0 x) (fun _ => k1))
theorem slices_IndexFunc_Peg_at_least_1_L2_s {ρ : Type} (n : Nat) (s : List (Int × Int)) (f : (List (Int × Int)) × Int) (t7 : Int) (t8 : Int) (k0 : Int → Option ρ) (k1 : Option ρ) : slices_IndexFunc_Peg_at_least_1_L2 (n + 1) s f t7 t8 k0 k1 = slices_IndexFunc_Peg_at_least_1_R2 s f t7 t8 (fun s f t7 t8 => slices_IndexFunc_Peg_at_least_1_L2 n s f t7 t8 k0 k1) k0 k1 := rfl
/-- slices.IndexFunc[s.impl.Peg,impl.Peg] -/
noncomputable def slices_IndexFunc_Peg_at_least_1 {ρ : Type} (s : List (Int × Int)) (f : (List (Int × Int)) × Int) (K : Int → Option ρ) : Option ρ :=
 slices_IndexFunc_Peg_at_least_1_L2 LIMN s f (s.length : Int) (0 : Int)
  (fun t4 =>
  K t4)
  (
  K (-1 : Int))
noncomputable def slices_DeleteFunc_Peg_at_least_1_R5 {ρ : Type} (s : List (Int × Int)) (del : (List (Int × Int)) × Int) (i : Int) (j : Int) (kn : (List (Int × Int)) → ((List (Int × Int)) × Int) → Int → Int → Option ρ) (k0 : (List (Int × Int)) → Int → Option ρ) : Option ρ :=
 bif decide (j < (s.length : Int)) then
  chk (inB j s.length) <|
  impl_least_1 (s.getD (Int.toNat j) ((0 : Int), (0 : Int))) del.1 del.2 fun r =>
  bif !r then
   chk (inB i s.length) <|
   chk (decide ((0 + (Int.toNat i)) < s.length)) <|
   kn (s.set (0 + (Int.toNat i)) (s.getD (Int.toNat j) ((0 : Int), (0 : Int)))) del (w64 (i + (1 : Int))) (w64 (j + (1 : Int)))
  else
   kn s del i (w64 (j + (1 : Int)))
 else
  k0 s i
noncomputable def slices_DeleteFunc_Peg_at_least_1_L5 {ρ : Type} (n : Nat) (s : List (Int × Int)) (del : (List (Int × Int)) × Int) (i : Int) (j : Int) (k0 : (List (Int × Int)) → Int → Option ρ) : Option ρ :=
 loopN (fun v kn ke => slices_DeleteFunc_Peg_at_least_1_R5 v.1 v.2.1 v.2.2.1 v.2.2.2 (fun a0 a1 a2 a3 => kn (a0, a1, a2, a3)) (fun a0 a1 => ke (a0, a1))) n (s, del, i, j) (fun x => k0 x.1 x.2)
theorem slices_DeleteFunc_Peg_at_least_1_L5_s {ρ : Type} (n : Nat) (s : List (Int × Int)) (del : (List (Int × Int)) × Int) (i : Int) (j : Int) (k0 : (List (Int × Int)) → Int → Option ρ) : slices_DeleteFunc_Peg_at_least_1_L5 (n + 1) s del i j k0 = slices_DeleteFunc_Peg_at_least_1_R5 s del i j (fun s del i j => slices_DeleteFunc_Peg_at_least_1_L5 n s del i j k0) k0 := rfl
/-- slices.DeleteFunc[s.impl.Peg,impl.Peg] -/
noncomputable def slices_DeleteFunc_Peg_at_least_1 {ρ : Type} (s : List (Int × Int)) (del : (List (Int × Int)) × Int) (K : (List (Int × Int)) → Option ρ) : Option ρ :=
 slices_IndexFunc_Peg_at_least_1 s del fun r =>
 bif decide (r = (-1 : Int)) then
  K s
 else
  slices_DeleteFunc_Peg_at_least_1_L5 LIMN s del r (w64 (r + (1 : Int)))
   (fun s1 i =>
   chk (decide (0 ≤ i) && decide (i ≤ (s1.length : Int))) <|
   chk (decide (0 < (s1.drop (Int.toNat i)).length) && decide ((0 + (Int.toNat i)) + (s1.drop (Int.toNat i)).length ≤ s1.length)) <|
   chk (decide (0 ≤ i) && decide (i ≤ ((s1.take (0 + (Int.toNat i)) ++ List.replicate (s1.drop (Int.toNat i)).length ((0 : Int), (0 : Int)) ++ s1.drop ((0 + (Int.toNat i)) + (s1.drop (Int.toNat i)).length)).length : Int))) <|
   K ((s1.take (0 + (Int.toNat i)) ++ List.replicate (s1.drop (Int.toNat i)).length ((0 : Int), (0 : Int)) ++ s1.drop ((0 + (Int.toNat i)) + (s1.drop (Int.toNat i)).length)).take (Int.toNat i)))
noncomputable def impl_least_R4 {ρ : Type} (corners : List (Int × Int)) (list : List (Int × Int)) (most : Int) (t22 : Nat × List (Int × Int)) (t23 : Int) (t24 : Int) (kn : (List (Int × Int)) → (List (Int × Int)) → Int → (Nat × List (Int × Int)) → Int → Int → Option ρ) (k0 : (List (Int × Int)) → (List (Int × Int)) → Int → Option ρ) : Option ρ :=
 bif decide (t24 < t23) then
  chk (inB t24 t22.2.length) <|
  impl_width corners (t22.2.getD (Int.toNat t24) ((0 : Int), (0 : Int))) fun r =>
  kn corners list (min most r) t22 t23 (w64 (t24 + (1 : Int)))
 else
  k0 corners list most
noncomputable def impl_least_L4 {ρ : Type} (n : Nat) (corners : List (Int × Int)) (list : List (Int × Int)) (most : Int) (t22 : Nat × List (Int × Int)) (t23 : Int) (t24 : Int) (k0 : (List (Int × Int)) → (List (Int × Int)) → Int → Option ρ) : Option ρ :=
 loopN (fun v kn ke => impl_least_R4 v.1 v.2.1 v.2.2.1 v.2.2.2.1 v.2.2.2.2.1 v.2.2.2.2.2 (fun a0 a1 a2 a3 a4 a5 => kn (a0, a1, a2, a3, a4, a5)) (fun a0 a1 a2 => ke (a0, a1, a2))) n (corners, list, most, t22, t23, t24) (fun x => k0 x.1 x.2.1 x.2.2)
theorem impl_least_L4_s {ρ : Type} (n : Nat) (corners : List (Int × Int)) (list : List (Int × Int)) (most : Int) (t22 : Nat × List (Int × Int)) (t23 : Int) (t24 : Int) (k0 : (List (Int × Int)) → (List (Int × Int)) → Int → Option ρ) : impl_least_L4 (n + 1) corners list most t22 t23 t24 k0 = impl_least_R4 corners list most t22 t23 t24 (fun corners list most t22 t23 t24 => impl_least_L4 n corners list most t22 t23 t24 k0) k0 := rfl
/-- impl.least -/
noncomputable def impl_least {ρ : Type} (corners : List (Int × Int)) (K : (List (Int × Int)) → Int → Option ρ) : Option ρ :=
 impl_width corners ((1 : Int), (0 : Int)) fun r =>
 impl_width corners ((0 : Int), (1 : Int)) fun r1 =>
 impl_directions corners (min r r1) fun r2 =>
 chk (inB (0 : Int) r2.length) <|
 impl_width corners (r2.getD 0 ((0 : Int), (0 : Int))) fun r3 =>
 impl_least_L4 LIMN corners r2 r3 (0, r2) (r2.length : Int) (0 : Int)
  (fun corners1 list most =>
  slices_DeleteFunc_Peg_at_least_1 list (corners1, most) fun r4 =>
  K r4 most)
noncomputable def impl_DirectionsOfWidth_R6 {ρ : Type} (out : List (List Int)) (t18 : List (Int × Int)) (t19 : Int) (t20 : Int) (kn : (List (List Int)) → (List (Int × Int)) → Int → Int → Option ρ) (k0 : (List (List Int)) → Option ρ) : Option ρ :=
 bif decide (t20 < t19) then
  chk (inB t20 t18.length) <|
  chk (decide (out.length + ([([(t18.getD (Int.toNat t20) ((0 : Int), (0 : Int))).1, (t18.getD (Int.toNat t20) ((0 : Int), (0 : Int))).2] : List Int)] : List (List Int)).length ≤ LIM)) <|
  kn (out ++ ([([(t18.getD (Int.toNat t20) ((0 : Int), (0 : Int))).1, (t18.getD (Int.toNat t20) ((0 : Int), (0 : Int))).2] : List Int)] : List (List Int))) t18 t19 (w64 (t20 + (1 : Int)))
 else
  k0 out
noncomputable def impl_DirectionsOfWidth_L6 {ρ : Type} (n : Nat) (out : List (List Int)) (t18 : List (Int × Int)) (t19 : Int) (t20 : Int) (k0 : (List (List Int)) → Option ρ) : Option ρ :=
 loopN (fun v kn ke => impl_DirectionsOfWidth_R6 v.1 v.2.1 v.2.2.1 v.2.2.2 (fun a0 a1 a2 a3 => kn (a0, a1, a2, a3)) (fun a0 => ke a0)) n (out, t18, t19, t20) (fun x => k0 x)
theorem impl_DirectionsOfWidth_L6_s {ρ : Type} (n : Nat) (out : List (List Int)) (t18 : List (Int × Int)) (t19 : Int) (t20 : Int) (k0 : (List (List Int)) → Option ρ) : impl_DirectionsOfWidth_L6 (n + 1) out t18 t19 t20 k0 = impl_DirectionsOfWidth_R6 out t18 t19 t20 (fun out t18 t19 t20 => impl_DirectionsOfWidth_L6 n out t18 t19 t20 k0) k0 := rfl
/-- impl.DirectionsOfWidth -/
noncomputable def impl_DirectionsOfWidth {ρ : Type} (corners : List (Int × Int)) (K : (List (List Int)) → Bool → Option ρ) : Option ρ :=
 impl_IsPolygon corners fun r =>
 bif !r then
  K ([] : List (List Int)) false
 else
  impl_least corners fun r1 r2 =>
  impl_DirectionsOfWidth_L6 LIMN ([] : List (List Int)) r1 (r1.length : Int) (0 : Int)
   (fun out =>
   K out true)
noncomputable def laws_eqIntS_R4 {ρ : Type} (a : List Int) (b : List Int) (i : Int) (kn : (List Int) → (List Int) → Int → Option ρ) (k0 : Bool → Option ρ) (k1 : Option ρ) : Option ρ :=
 bif decide (i < (a.length : Int)) then
  chk (inB i a.length) <|
  chk (inB i b.length) <|
  bif !(decide ((a.getD (Int.toNat i) (0 : Int)) = (b.getD (Int.toNat i) (0 : Int)))) then
   k0 false
  else
   kn a b (w64 (i + (1 : Int)))
 else
  k1
noncomputable def laws_eqIntS_L4 {ρ : Type} (n : Nat) (a : List Int) (b : List Int) (i : Int) (k0 : Bool → Option ρ) (k1 : Option ρ) : Option ρ :=
 loopN (fun v kn ke => laws_eqIntS_R4 v.1 v.2.1 v.2.2 (fun a0 a1 a2 => kn (a0, a1, a2)) (fun a0 => ke (.inl a0)) (ke (.inr ()))) n (a, b, i) (Sum.elim (fun x => k0 x) (fun _ => k1))
theorem laws_eqIntS_L4_s {ρ : Type} (n : Nat) (a : List Int) (b : List Int) (i : Int) (k0 : Bool → Option ρ) (k1 : Option ρ) : laws_eqIntS_L4 (n + 1) a b i k0 k1 = laws_eqIntS_R4 a b i (fun a b i => laws_eqIntS_L4 n a b i k0 k1) k0 k1 := rfl
/-- laws.eqIntS -/
noncomputable def laws_eqIntS {ρ : Type} (a : List Int) (b : List Int) (K : Bool → Option ρ) : Option ρ :=
 bif !(decide ((a.length : Int) = (b.length : Int))) then
  K false
 else
  laws_eqIntS_L4 LIMN a b (0 : Int)
   (fun t4 =>
   K t4)
   (
   K true)
noncomputable def laws_eqIntSS_R4 {ρ : Type} (a : List (List Int)) (b : List (List Int)) (i : Int) (kn : (List (List Int)) → (List (List Int)) → Int → Option ρ) (k0 : Bool → Option ρ) (k1 : Option ρ) : Option ρ :=
 bif decide (i < (a.length : Int)) then
  chk (inB i a.length) <|
  chk (inB i b.length) <|
  laws_eqIntS (a.getD (Int.toNat i) ([] : List Int)) (b.getD (Int.toNat i) ([] : List Int)) fun r =>
  bif !r then
   k0 false
  else
   kn a b (w64 (i + (1 : Int)))
 else
  k1
noncomputable def laws_eqIntSS_L4 {ρ : Type} (n : Nat) (a : List (List Int)) (b : List (List Int)) (i : Int) (k0 : Bool → Option ρ) (k1 : Option ρ) : Option ρ :=
 loopN (fun v kn ke => laws_eqIntSS_R4 v.1 v.2.1 v.2.2 (fun a0 a1 a2 => kn (a0, a1, a2)) (fun a0 => ke (.inl a0)) (ke (.inr ()))) n (a, b, i) (Sum.elim (fun x => k0 x) (fun _ => k1))
theorem laws_eqIntSS_L4_s {ρ : Type} (n : Nat) (a : List (List Int)) (b : List (List Int)) (i : Int) (k0 : Bool → Option ρ) (k1 : Option ρ) : laws_eqIntSS_L4 (n + 1) a b i k0 k1 = laws_eqIntSS_R4 a b i (fun a b i => laws_eqIntSS_L4 n a b i k0 k1) k0 k1 := rfl
/-- laws.eqIntSS -/
noncomputable def laws_eqIntSS {ρ : Type} (a : List (List Int)) (b : List (List Int)) (K : Bool → Option ρ) : Option ρ :=
 bif !(decide ((a.length : Int) = (b.length : Int))) then
  K false
 else
  laws_eqIntSS_L4 LIMN a b (0 : Int)
   (fun t4 =>
   K t4)
   (
   K true)
/-- laws.eqPeg -/
noncomputable def laws_eqPeg {ρ : Type} (a : Int × Int) (b : Int × Int) (K : Bool → Option ρ) : Option ρ :=
 bif !(decide (a.1 = b.1)) then
  K false
 else
  bif !(decide (a.2 = b.2)) then
   K false
  else
   K true
noncomputable def laws_eqPegS_R4 {ρ : Type} (a : List (Int × Int)) (b : List (Int × Int)) (i : Int) (kn : (List (Int × Int)) → (List (Int × Int)) → Int → Option ρ) (k0 : Bool → Option ρ) (k1 : Option ρ) : Option ρ :=
 bif decide (i < (a.length : Int)) then
  chk (inB i a.length) <|
  chk (inB i b.length) <|
  laws_eqPeg (a.getD (Int.toNat i) ((0 : Int), (0 : Int))) (b.getD (Int.toNat i) ((0 : Int), (0 : Int))) fun r =>
  bif !r then
   k0 false
  else
   kn a b (w64 (i + (1 : Int)))
 else
  k1
noncomputable def laws_eqPegS_L4 {ρ : Type} (n : Nat) (a : List (Int × Int)) (b : List (Int × Int)) (i : Int) (k0 : Bool → Option ρ) (k1 : Option ρ) : Option ρ :=
 loopN (fun v kn ke => laws_eqPegS_R4 v.1 v.2.1 v.2.2 (fun a0 a1 a2 => kn (a0, a1, a2)) (fun a0 => ke (.inl a0)) (ke (.inr ()))) n (a, b, i) (Sum.elim (fun x => k0 x) (fun _ => k1))
theorem laws_eqPegS_L4_s {ρ : Type} (n : Nat) (a : List (Int × Int)) (b : List (Int × Int)) (i : Int) (k0 : Bool → Option ρ) (k1 : Option ρ) : laws_eqPegS_L4 (n + 1) a b i k0 k1 = laws_eqPegS_R4 a b i (fun a b i => laws_eqPegS_L4 n a b i k0 k1) k0 k1 := rfl
/-- laws.eqPegS -/
noncomputable def laws_eqPegS {ρ : Type} (a : List (Int × Int)) (b : List (Int × Int)) (K : Bool → Option ρ) : Option ρ :=
 bif !(decide ((a.length : Int) = (b.length : Int))) then
  K false
 else
  laws_eqPegS_L4 LIMN a b (0 : Int)
   (fun t4 =>
   K t4)
   (
   K true)
noncomputable def laws_markPegS_R2 {ρ : Type} (o0 : List (Int × Int)) (k : Int) (i : Int) (kn : (List (Int × Int)) → Int → Int → Option ρ) (k0 : (List (Int × Int)) → Int → Option ρ) : Option ρ :=
 bif decide (i < (o0.length : Int)) then
  chk (inB i o0.length) <|
  chk (decide ((0 + (Int.toNat i)) < o0.length)) <|
  chk (inB i (o0.set (0 + (Int.toNat i)) (k, (o0.getD (0 + (Int.toNat i)) ((0 : Int), (0 : Int))).2)).length) <|
  chk (decide ((0 + (Int.toNat i)) < (o0.set (0 + (Int.toNat i)) (k, (o0.getD (0 + (Int.toNat i)) ((0 : Int), (0 : Int))).2)).length)) <|
  kn ((o0.set (0 + (Int.toNat i)) (k, (o0.getD (0 + (Int.toNat i)) ((0 : Int), (0 : Int))).2)).set (0 + (Int.toNat i)) (((o0.set (0 + (Int.toNat i)) (k, (o0.getD (0 + (Int.toNat i)) ((0 : Int), (0 : Int))).2)).getD (0 + (Int.toNat i)) ((0 : Int), (0 : Int))).1, (w64 (k + (1 : Int))))) (w64 ((w64 (k + (1 : Int))) + (1 : Int))) (w64 (i + (1 : Int)))
 else
  k0 o0 k
noncomputable def laws_markPegS_L2 {ρ : Type} (n : Nat) (o0 : List (Int × Int)) (k : Int) (i : Int) (k0 : (List (Int × Int)) → Int → Option ρ) : Option ρ :=
 loopN (fun v kn ke => laws_markPegS_R2 v.1 v.2.1 v.2.2 (fun a0 a1 a2 => kn (a0, a1, a2)) (fun a0 a1 => ke (a0, a1))) n (o0, k, i) (fun x => k0 x.1 x.2)
theorem laws_markPegS_L2_s {ρ : Type} (n : Nat) (o0 : List (Int × Int)) (k : Int) (i : Int) (k0 : (List (Int × Int)) → Int → Option ρ) : laws_markPegS_L2 (n + 1) o0 k i k0 = laws_markPegS_R2 o0 k i (fun o0 k i => laws_markPegS_L2 n o0 k i k0) k0 := rfl
/-- laws.markPegS -/
noncomputable def laws_markPegS {ρ : Type} (k : Int) (o0 : List (Int × Int)) (K : Int → (List (Int × Int)) → Option ρ) : Option ρ :=
 laws_markPegS_L2 LIMN o0 k (0 : Int)
  (fun o01 k1 =>
  K k1 o01)
noncomputable def laws_markIntS_R2 {ρ : Type} (o0 : List Int) (k : Int) (i : Int) (kn : (List Int) → Int → Int → Option ρ) (k0 : (List Int) → Int → Option ρ) : Option ρ :=
 bif decide (i < (o0.length : Int)) then
  chk (inB i o0.length) <|
  chk (decide ((0 + (Int.toNat i)) < o0.length)) <|
  kn (o0.set (0 + (Int.toNat i)) k) (w64 (k + (1 : Int))) (w64 (i + (1 : Int)))
 else
  k0 o0 k
noncomputable def laws_markIntS_L2 {ρ : Type} (n : Nat) (o0 : List Int) (k : Int) (i : Int) (k0 : (List Int) → Int → Option ρ) : Option ρ :=
 loopN (fun v kn ke => laws_markIntS_R2 v.1 v.2.1 v.2.2 (fun a0 a1 a2 => kn (a0, a1, a2)) (fun a0 a1 => ke (a0, a1))) n (o0, k, i) (fun x => k0 x.1 x.2)
theorem laws_markIntS_L2_s {ρ : Type} (n : Nat) (o0 : List Int) (k : Int) (i : Int) (k0 : (List Int) → Int → Option ρ) : laws_markIntS_L2 (n + 1) o0 k i k0 = laws_markIntS_R2 o0 k i (fun o0 k i => laws_markIntS_L2 n o0 k i k0) k0 := rfl
/-- laws.markIntS -/
noncomputable def laws_markIntS {ρ : Type} (k : Int) (o0 : List Int) (K : Int → (List Int) → Option ρ) : Option ρ :=
 laws_markIntS_L2 LIMN o0 k (0 : Int)
  (fun o01 k1 =>
  K k1 o01)
noncomputable def laws_markIntSS_R2 {ρ : Type} (o0 : List (List Int)) (k : Int) (i : Int) (kn : (List (List Int)) → Int → Int → Option ρ) (k0 : (List (List Int)) → Int → Option ρ) : Option ρ :=
 bif decide (i < (o0.length : Int)) then
  chk (inB i o0.length) <|
  chk (decide ((0 + (Int.toNat i)) < o0.length)) <|
  laws_markIntS k (o0.getD (0 + (Int.toNat i)) ([] : List Int)) fun r w =>
  kn (o0.set (0 + (Int.toNat i)) w) r (w64 (i + (1 : Int)))
 else
  k0 o0 k
noncomputable def laws_markIntSS_L2 {ρ : Type} (n : Nat) (o0 : List (List Int)) (k : Int) (i : Int) (k0 : (List (List Int)) → Int → Option ρ) : Option ρ :=
 loopN (fun v kn ke => laws_markIntSS_R2 v.1 v.2.1 v.2.2 (fun a0 a1 a2 => kn (a0, a1, a2)) (fun a0 a1 => ke (a0, a1))) n (o0, k, i) (fun x => k0 x.1 x.2)
theorem laws_markIntSS_L2_s {ρ : Type} (n : Nat) (o0 : List (List Int)) (k : Int) (i : Int) (k0 : (List (List Int)) → Int → Option ρ) : laws_markIntSS_L2 (n + 1) o0 k i k0 = laws_markIntSS_R2 o0 k i (fun o0 k i => laws_markIntSS_L2 n o0 k i k0) k0 := rfl
/-- laws.markIntSS -/
noncomputable def laws_markIntSS {ρ : Type} (k : Int) (o0 : List (List Int)) (K : Int → (List (List Int)) → Option ρ) : Option ρ :=
 laws_markIntSS_L2 LIMN o0 k (0 : Int)
  (fun o01 k1 =>
  K k1 o01)
noncomputable def laws_heldIntS_R2 {ρ : Type} (a : List Int) (k : Int) (i : Int) (kn : (List Int) → Int → Int → Option ρ) (k0 : Int → Int → Option ρ) (k1 : Int → Option ρ) : Option ρ :=
 bif decide (i < (a.length : Int)) then
  chk (inB i a.length) <|
  bif !(decide ((a.getD (Int.toNat i) (0 : Int)) = k)) then
   k0 k (-1 : Int)
  else
   kn a (w64 (k + (1 : Int))) (w64 (i + (1 : Int)))
 else
  k1 k
noncomputable def laws_heldIntS_L2 {ρ : Type} (n : Nat) (a : List Int) (k : Int) (i : Int) (k0 : Int → Int → Option ρ) (k1 : Int → Option ρ) : Option ρ :=
 loopN (fun v kn ke => laws_heldIntS_R2 v.1 v.2.1 v.2.2 (fun a0 a1 a2 => kn (a0, a1, a2)) (fun a0 a1 => ke (.inl (a0, a1))) (fun a0 => ke (.inr a0))) n (a, k, i) (Sum.elim (fun x => k0 x.1 x.2) (fun x => k1 x))
theorem laws_heldIntS_L2_s {ρ : Type} (n : Nat) (a : List Int) (k : Int) (i : Int) (k0 : Int → Int → Option ρ) (k1 : Int → Option ρ) : laws_heldIntS_L2 (n + 1) a k i k0 k1 = laws_heldIntS_R2 a k i (fun a k i => laws_heldIntS_L2 n a k i k0 k1) k0 k1 := rfl
/-- laws.heldIntS -/
noncomputable def laws_heldIntS {ρ : Type} (a : List Int) (k : Int) (K : Int → Option ρ) : Option ρ :=
 laws_heldIntS_L2 LIMN a k (0 : Int)
  (fun k1 t4 =>
  K t4)
  (fun k2 =>
  K k2)
noncomputable def laws_heldIntSS_R2 {ρ : Type} (a : List (List Int)) (k : Int) (i : Int) (kn : (List (List Int)) → Int → Int → Option ρ) (k0 : Int → Int → Option ρ) (k1 : Int → Option ρ) : Option ρ :=
 bif decide (i < (a.length : Int)) then
  chk (inB i a.length) <|
  laws_heldIntS (a.getD (Int.toNat i) ([] : List Int)) k fun r =>
  bif decide (r < (0 : Int)) then
   k0 r (-1 : Int)
  else
   kn a r (w64 (i + (1 : Int)))
 else
  k1 k
noncomputable def laws_heldIntSS_L2 {ρ : Type} (n : Nat) (a : List (List Int)) (k : Int) (i : Int) (k0 : Int → Int → Option ρ) (k1 : Int → Option ρ) : Option ρ :=
 loopN (fun v kn ke => laws_heldIntSS_R2 v.1 v.2.1 v.2.2 (fun a0 a1 a2 => kn (a0, a1, a2)) (fun a0 a1 => ke (.inl (a0, a1))) (fun a0 => ke (.inr a0))) n (a, k, i) (Sum.elim (fun x => k0 x.1 x.2) (fun x => k1 x))
theorem laws_heldIntSS_L2_s {ρ : Type} (n : Nat) (a : List (List Int)) (k : Int) (i : Int) (k0 : Int → Int → Option ρ) (k1 : Int → Option ρ) : laws_heldIntSS_L2 (n + 1) a k i k0 k1 = laws_heldIntSS_R2 a k i (fun a k i => laws_heldIntSS_L2 n a k i k0 k1) k0 k1 := rfl
/-- laws.heldIntSS -/
noncomputable def laws_heldIntSS {ρ : Type} (a : List (List Int)) (k : Int) (K : Int → Option ρ) : Option ρ :=
 laws_heldIntSS_L2 LIMN a k (0 : Int)
  (fun k1 t4 =>
  K t4)
  (fun k2 =>
  K k2)
/-- laws.FnExactDirectionsOfWidth -/
noncomputable def laws_FnExactDirectionsOfWidth {ρ : Type} (aCorners : List (Int × Int)) (K : Bool → Option ρ) : Option ρ :=
 laws_szPegS aCorners (1048576 : Int) fun r =>
 bif decide (r < (0 : Int)) then
  K true
 else
  laws_toPegS aCorners fun r1 =>
  spec_DirectionsOfWidth r1 fun r2 r3 =>
  laws_toPegS aCorners fun r4 =>
  impl_DirectionsOfWidth r4 fun r5 r6 =>
  laws_eqIntSS r5 r2 fun r7 =>
  bif !r7 then
   K false
  else
   bif !(decide (r6 = r3)) then
    K false
   else
    laws_toPegS aCorners fun r8 =>
    laws_eqPegS r4 r8 fun r9 =>
    bif !r9 then
     K false
    else
     laws_markPegS (1 : Int) r4 fun r10 w =>
     bif decide (r10 < (0 : Int)) then
      K false
     else
      laws_eqIntSS r5 r2 fun r11 =>
      bif !r11 then
       K false
      else
       bif !(decide (r6 = r3)) then
        K false
       else
        laws_markIntSS (1 : Int) r5 fun r12 w1 =>
        laws_heldIntSS w1 (1 : Int) fun r13 =>
        bif decide (r13 < (0 : Int)) then
         K false
        else
         bif !(decide (r13 = r12)) then
          K false
         else
          laws_toPegS aCorners fun r14 =>
          impl_DirectionsOfWidth r14 fun r15 r16 =>
          laws_eqIntSS r15 r2 fun r17 =>
          bif !r17 then
           K false
          else
           bif !(decide (r16 = r3)) then
            K false
           else
            laws_heldIntSS w1 (1 : Int) fun r18 =>
            bif decide (r18 < (0 : Int)) then
             K false
            else
             bif !(decide (r18 = r12)) then
              K false
             else
              K true
noncomputable def spec_mvFull_R2 {ρ : Type} (a : Int) (b : Int) (u : Int) (v : Int) (x : Int) (y : Int) (kn : Int → Int → Int → Int → Int → Int → Option ρ) (k0 : Int → Int → Int → Option ρ) : Option ρ :=
 bif !(decide (b = (0 : Int))) then
  nchk (decide (b = (0 : Int))) <|
  kn b (w64 (a - (w64 ((w64 (Int.tdiv a b)) * b)))) x y (w64 (u - (w64 ((w64 (Int.tdiv a b)) * x)))) (w64 (v - (w64 ((w64 (Int.tdiv a b)) * y))))
 else
  k0 a u v
noncomputable def spec_mvFull_L2 {ρ : Type} (n : Nat) (a : Int) (b : Int) (u : Int) (v : Int) (x : Int) (y : Int) (k0 : Int → Int → Int → Option ρ) : Option ρ :=
 loopN (fun v kn ke => spec_mvFull_R2 v.1 v.2.1 v.2.2.1 v.2.2.2.1 v.2.2.2.2.1 v.2.2.2.2.2 (fun a0 a1 a2 a3 a4 a5 => kn (a0, a1, a2, a3, a4, a5)) (fun a0 a1 a2 => ke (a0, a1, a2))) n (a, b, u, v, x, y) (fun x => k0 x.1 x.2.1 x.2.2)
theorem spec_mvFull_L2_s {ρ : Type} (n : Nat) (a : Int) (b : Int) (u : Int) (v : Int) (x : Int) (y : Int) (k0 : Int → Int → Int → Option ρ) : spec_mvFull_L2 (n + 1) a b u v x y k0 = spec_mvFull_R2 a b u v x y (fun a b u v x y => spec_mvFull_L2 n a b u v x y k0) k0 := rfl
/-- spec.mvFull -/
noncomputable def spec_mvFull {ρ : Type} (a : Int) (b : Int) (K : Int → Int → Option ρ) : Option ρ :=
 spec_mvFull_L2 LIMN a b (1 : Int) (0 : Int) (0 : Int) (1 : Int)
  (fun a1 u v =>
  bif decide (a1 < (0 : Int)) then
   K (w64 (0 - u)) (w64 (0 - v))
  else
   K u v)
/-- spec.wiNearer -/
noncomputable def spec_wiNearer {ρ : Type} (a : Int) (b : Int) (K : Bool → Option ρ) : Option ρ :=
 spec_l1Abs a fun r =>
 spec_l1Abs b fun r1 =>
 bif decide (r < r1) then
  K true
 else
  spec_l1Abs a fun r2 =>
  spec_l1Abs b fun r3 =>
  bif decide (r2 = r3) then
   K (decide (a > b))
  else
   K false
noncomputable def spec_wiFlat_R6 {ρ : Type} (corners : List (Int × Int)) (t2 : Int × Int × Int × Int × Int × Int) (u : Int) (v : Int) (a : Int) (b : Int) (best : Int × Int × Int × Int × Int × Int) (k : Int) (kn : (List (Int × Int)) → (Int × Int × Int × Int × Int × Int) → Int → Int → Int → Int → (Int × Int × Int × Int × Int × Int) → Int → Option ρ) (k0 : (List (Int × Int)) → (Int × Int × Int × Int × Int × Int) → Int → Int → (Int × Int × Int × Int × Int × Int) → Option ρ) : Option ρ :=
 spec_l1Abs a fun r =>
 spec_l1Abs b fun r1 =>
 bif decide (k ≤ (w64 ((w64 (r + r1)) + (1 : Int)))) then
  spec_wiNearer (w64 (a + (w64 (k * u)))) best.1 fun r2 =>
  bif r2 then
   kn corners t2 u v a b ((w64 (a + (w64 (k * u)))), (w64 (b + (w64 (k * v)))), (0 : Int), (0 : Int), (0 : Int), (0 : Int)) (w64 (k + (1 : Int)))
  else
   bif decide ((w64 (a + (w64 (k * u)))) = best.1) then
    spec_wiNearer (w64 (b + (w64 (k * v)))) best.2.1 fun r3 =>
    bif r3 then
     kn corners t2 u v a b ((w64 (a + (w64 (k * u)))), (w64 (b + (w64 (k * v)))), (0 : Int), (0 : Int), (0 : Int), (0 : Int)) (w64 (k + (1 : Int)))
    else
     kn corners t2 u v a b best (w64 (k + (1 : Int)))
   else
    kn corners t2 u v a b best (w64 (k + (1 : Int)))
 else
  k0 corners t2 u v best
noncomputable def spec_wiFlat_L6 {ρ : Type} (n : Nat) (corners : List (Int × Int)) (t2 : Int × Int × Int × Int × Int × Int) (u : Int) (v : Int) (a : Int) (b : Int) (best : Int × Int × Int × Int × Int × Int) (k : Int) (k0 : (List (Int × Int)) → (Int × Int × Int × Int × Int × Int) → Int → Int → (Int × Int × Int × Int × Int × Int) → Option ρ) : Option ρ :=
 loopN (fun v kn ke => spec_wiFlat_R6 v.1 v.2.1 v.2.2.1 v.2.2.2.1 v.2.2.2.2.1 v.2.2.2.2.2.1 v.2.2.2.2.2.2.1 v.2.2.2.2.2.2.2 (fun a0 a1 a2 a3 a4 a5 a6 a7 => kn (a0, a1, a2, a3, a4, a5, a6, a7)) (fun a0 a1 a2 a3 a4 => ke (a0, a1, a2, a3, a4))) n (corners, t2, u, v, a, b, best, k) (fun x => k0 x.1 x.2.1 x.2.2.1 x.2.2.2.1 x.2.2.2.2)
theorem spec_wiFlat_L6_s {ρ : Type} (n : Nat) (corners : List (Int × Int)) (t2 : Int × Int × Int × Int × Int × Int) (u : Int) (v : Int) (a : Int) (b : Int) (best : Int × Int × Int × Int × Int × Int) (k : Int) (k0 : (List (Int × Int)) → (Int × Int × Int × Int × Int × Int) → Int → Int → (Int × Int × Int × Int × Int × Int) → Option ρ) : spec_wiFlat_L6 (n + 1) corners t2 u v a b best k k0 = spec_wiFlat_R6 corners t2 u v a b best k (fun corners t2 u v a b best k => spec_wiFlat_L6 n corners t2 u v a b best k k0) k0 := rfl
/-- spec.wiFlat -/
noncomputable def spec_wiFlat {ρ : Type} (corners : List (Int × Int)) (K : (Int × Int × Int × Int × Int × Int) → Option ρ) : Option ρ :=
 spec_wiLeast corners fun r r1 =>
 chk (inB (0 : Int) r1.length) <|
 chk (inB (0 : Int) (r1.getD 0 ([] : List Int)).length) <|
 chk (inB (0 : Int) r1.length) <|
 chk (inB (1 : Int) (r1.getD 0 ([] : List Int)).length) <|
 spec_mvFull ((r1.getD 0 ([] : List Int)).getD 1 (0 : Int)) (w64 (0 - ((r1.getD 0 ([] : List Int)).getD 0 (0 : Int)))) fun r2 r3 =>
 spec_l1Abs r2 fun r4 =>
 spec_l1Abs r3 fun r5 =>
 spec_wiFlat_L6 LIMN corners ((0 : Int), (0 : Int), (0 : Int), (0 : Int), (0 : Int), (0 : Int)) ((r1.getD 0 ([] : List Int)).getD 0 (0 : Int)) ((r1.getD 0 ([] : List Int)).getD 1 (0 : Int)) r2 r3 (r2, r3, (0 : Int), (0 : Int), (0 : Int), (0 : Int)) (w64 ((w64 ((w64 (0 - r4)) - r5)) - (1 : Int)))
  (fun corners1 t2 u v best =>
  spec_wiRange corners1 best.1 best.2.1 fun r6 r7 =>
  spec_wiRange corners1 u v fun r8 r9 =>
  K (best.1, best.2.1, u, v, (w64 (0 - r6)), (w64 (0 - r8))))
noncomputable def spec_l1All_R2 {ρ : Type} (lo : Int) (hi : Int) (t9 : List Int) (t10 : Int) (t11 : Int) (kn : Int → Int → (List Int) → Int → Int → Option ρ) (k0 : Bool → Option ρ) (k1 : Option ρ) : Option ρ :=
 bif decide (t11 < t10) then
  chk (inB t11 t9.length) <|
  spec_l1In (t9.getD (Int.toNat t11) (0 : Int)) lo hi fun r =>
  bif !r then
   k0 false
  else
   kn lo hi t9 t10 (w64 (t11 + (1 : Int)))
 else
  k1
noncomputable def spec_l1All_L2 {ρ : Type} (n : Nat) (lo : Int) (hi : Int) (t9 : List Int) (t10 : Int) (t11 : Int) (k0 : Bool → Option ρ) (k1 : Option ρ) : Option ρ :=
 loopN (fun v kn ke => spec_l1All_R2 v.1 v.2.1 v.2.2.1 v.2.2.2.1 v.2.2.2.2 (fun a0 a1 a2 a3 a4 => kn (a0, a1, a2, a3, a4)) (fun a0 => ke (.inl a0)) (ke (.inr ()))) n (lo, hi, t9, t10, t11) (Sum.elim (fun x => k0 x) (fun _ => k1))
theorem spec_l1All_L2_s {ρ : Type} (n : Nat) (lo : Int) (hi : Int) (t9 : List Int) (t10 : Int) (t11 : Int) (k0 : Bool → Option ρ) (k1 : Option ρ) : spec_l1All_L2 (n + 1) lo hi t9 t10 t11 k0 k1 = spec_l1All_R2 lo hi t9 t10 t11 (fun lo hi t9 t10 t11 => spec_l1All_L2 n lo hi t9 t10 t11 k0 k1) k0 k1 := rfl
/-- spec.l1All -/
noncomputable def spec_l1All {ρ : Type} (l : List Int) (lo : Int) (hi : Int) (K : Bool → Option ρ) : Option ρ :=
 spec_l1All_L2 LIMN lo hi l (l.length : Int) (0 : Int)
  (fun t6 =>
  K t6)
  (
  K true)
/-- spec.mvGood -/
noncomputable def spec_mvGood {ρ : Type} (m : Int × Int × Int × Int × Int × Int) (K : Bool → Option ρ) : Option ρ :=
 spec_l1All ([m.1, m.2.1, m.2.2.1, m.2.2.2.1] : List Int) (-20 : Int) (20 : Int) fun r =>
 bif r then
  spec_l1All ([m.2.2.2.2.1, m.2.2.2.2.2] : List Int) (-80 : Int) (80 : Int) fun r1 =>
  bif r1 then
   spec_l1Abs (w64 ((w64 (m.1 * m.2.2.2.1)) - (w64 (m.2.1 * m.2.2.1)))) fun r2 =>
   K (decide (r2 = (1 : Int)))
  else
   K false
 else
  K false
/-- spec.mvIf -/
noncomputable def spec_mvIf {ρ : Type} (m : Int × Int × Int × Int × Int × Int) (K : (Int × Int × Int × Int × Int × Int) → Bool → Option ρ) : Option ρ :=
 spec_mvGood m fun r =>
 bif !r then
  K ((0 : Int), (0 : Int), (0 : Int), (0 : Int), (0 : Int), (0 : Int)) false
 else
  K m true
/-- spec.FlatMove -/
noncomputable def spec_FlatMove {ρ : Type} (corners : List (Int × Int)) (K : (Int × Int × Int × Int × Int × Int) → Bool → Option ρ) : Option ρ :=
 spec_pgGood corners fun r =>
 bif !r then
  K ((0 : Int), (0 : Int), (0 : Int), (0 : Int), (0 : Int), (0 : Int)) false
 else
  spec_wiFlat corners fun r1 =>
  spec_mvIf r1 fun r2 r3 =>
  K r2 r3
noncomputable def impl_bezout_R2 {ρ : Type} (a : Int) (b : Int) (x : Int) (y : Int) (u : Int) (v : Int) (kn : Int → Int → Int → Int → Int → Int → Option ρ) (k0 : Int → Int → Int → Option ρ) : Option ρ :=
 bif !(decide (b = (0 : Int))) then
  nchk (decide (b = (0 : Int))) <|
  kn b (w64 (a - (w64 ((w64 (Int.tdiv a b)) * b)))) u v (w64 (x - (w64 ((w64 (Int.tdiv a b)) * u)))) (w64 (y - (w64 ((w64 (Int.tdiv a b)) * v))))
 else
  k0 a x y
noncomputable def impl_bezout_L2 {ρ : Type} (n : Nat) (a : Int) (b : Int) (x : Int) (y : Int) (u : Int) (v : Int) (k0 : Int → Int → Int → Option ρ) : Option ρ :=
 loopN (fun v kn ke => impl_bezout_R2 v.1 v.2.1 v.2.2.1 v.2.2.2.1 v.2.2.2.2.1 v.2.2.2.2.2 (fun a0 a1 a2 a3 a4 a5 => kn (a0, a1, a2, a3, a4, a5)) (fun a0 a1 a2 => ke (a0, a1, a2))) n (a, b, x, y, u, v) (fun x => k0 x.1 x.2.1 x.2.2)
theorem impl_bezout_L2_s {ρ : Type} (n : Nat) (a : Int) (b : Int) (x : Int) (y : Int) (u : Int) (v : Int) (k0 : Int → Int → Int → Option ρ) : impl_bezout_L2 (n + 1) a b x y u v k0 = impl_bezout_R2 a b x y u v (fun a b x y u v => impl_bezout_L2 n a b x y u v k0) k0 := rfl
/-- impl.bezout -/
noncomputable def impl_bezout {ρ : Type} (a : Int) (b : Int) (K : Int → Int → Int → Option ρ) : Option ρ :=
 impl_bezout_L2 LIMN a b (1 : Int) (0 : Int) (0 : Int) (1 : Int)
  (fun a1 x y =>
  K a1 x y)
/-- impl.isLess -/
noncomputable def impl_isLess {ρ : Type} (a : Int) (b : Int) (K : Bool → Option ρ) : Option ρ :=
 impl_size a fun r =>
 impl_size b fun r1 =>
 bif decide (r < r1) then
  K true
 else
  impl_size a fun r2 =>
  impl_size b fun r3 =>
  bif decide (r2 = r3) then
   K (decide (a > b))
  else
   K false
/-- (impl.Move).bring -/
noncomputable def impl_Move_bring {ρ : Type} (m : Int × Int × Int × Int × Int × Int) (p : Int × Int) (K : (Int × Int) → Option ρ) : Option ρ :=
 K ((w64 ((w64 ((w64 (m.1 * p.1)) + (w64 (m.2.1 * p.2)))) + m.2.2.2.2.1)), (w64 ((w64 ((w64 (m.2.2.1 * p.1)) + (w64 (m.2.2.2.1 * p.2)))) + m.2.2.2.2.2)))
noncomputable def impl_box_R3 {ρ : Type} (t2 : Int × Int) (t3 : Int × Int) (lowv : Int × Int) (high : Int × Int) (t14 : List (Int × Int)) (t15 : Int) (t16 : Int) (kn : (Int × Int) → (Int × Int) → (Int × Int) → (Int × Int) → (List (Int × Int)) → Int → Int → Option ρ) (k0 : (Int × Int) → (Int × Int) → (Int × Int) → (Int × Int) → Option ρ) : Option ρ :=
 bif decide (t16 < t15) then
  chk (inB t16 t14.length) <|
  kn t2 t3 ((min lowv.1 (t14.getD (Int.toNat t16) ((0 : Int), (0 : Int))).1), (min lowv.2 (t14.getD (Int.toNat t16) ((0 : Int), (0 : Int))).2)) ((max high.1 (t14.getD (Int.toNat t16) ((0 : Int), (0 : Int))).1), (max high.2 (t14.getD (Int.toNat t16) ((0 : Int), (0 : Int))).2)) t14 t15 (w64 (t16 + (1 : Int)))
 else
  k0 t2 t3 lowv high
noncomputable def impl_box_L3 {ρ : Type} (n : Nat) (t2 : Int × Int) (t3 : Int × Int) (lowv : Int × Int) (high : Int × Int) (t14 : List (Int × Int)) (t15 : Int) (t16 : Int) (k0 : (Int × Int) → (Int × Int) → (Int × Int) → (Int × Int) → Option ρ) : Option ρ :=
 loopN (fun v kn ke => impl_box_R3 v.1 v.2.1 v.2.2.1 v.2.2.2.1 v.2.2.2.2.1 v.2.2.2.2.2.1 v.2.2.2.2.2.2 (fun a0 a1 a2 a3 a4 a5 a6 => kn (a0, a1, a2, a3, a4, a5, a6)) (fun a0 a1 a2 a3 => ke (a0, a1, a2, a3))) n (t2, t3, lowv, high, t14, t15, t16) (fun x => k0 x.1 x.2.1 x.2.2.1 x.2.2.2)
theorem impl_box_L3_s {ρ : Type} (n : Nat) (t2 : Int × Int) (t3 : Int × Int) (lowv : Int × Int) (high : Int × Int) (t14 : List (Int × Int)) (t15 : Int) (t16 : Int) (k0 : (Int × Int) → (Int × Int) → (Int × Int) → (Int × Int) → Option ρ) : impl_box_L3 (n + 1) t2 t3 lowv high t14 t15 t16 k0 = impl_box_R3 t2 t3 lowv high t14 t15 t16 (fun t2 t3 lowv high t14 t15 t16 => impl_box_L3 n t2 t3 lowv high t14 t15 t16 k0) k0 := rfl
/-- impl.box -/
noncomputable def impl_box {ρ : Type} (list : List (Int × Int)) (K : (Int × Int) → (Int × Int) → Option ρ) : Option ρ :=
 chk (inB (0 : Int) list.length) <|
 chk (inB (0 : Int) list.length) <|
 impl_box_L3 LIMN ((0 : Int), (0 : Int)) ((0 : Int), (0 : Int)) (list.getD 0 ((0 : Int), (0 : Int))) (list.getD 0 ((0 : Int), (0 : Int))) list (list.length : Int) (0 : Int)
  (fun t2 t3 lowv high =>
  K lowv high)
noncomputable def impl_flatMove_R7 {ρ : Type} (corners : List (Int × Int)) (t2 : Int × Int × Int × Int × Int × Int) (m : Int × Int × Int × Int × Int × Int) (best : Int × Int × Int × Int × Int × Int) (k : Int) (kn : (List (Int × Int)) → (Int × Int × Int × Int × Int × Int) → (Int × Int × Int × Int × Int × Int) → (Int × Int × Int × Int × Int × Int) → Int → Option ρ) (k0 : (List (Int × Int)) → (Int × Int × Int × Int × Int × Int) → (Int × Int × Int × Int × Int × Int) → Option ρ) : Option ρ :=
 bif decide (k ≤ (2 : Int)) then
  impl_isLess (w64 (m.1 + (w64 (k * m.2.2.1)))) best.1 fun r =>
  bif r then
   kn corners t2 m ((w64 (m.1 + (w64 (k * m.2.2.1)))), (w64 (m.2.1 + (w64 (k * m.2.2.2.1)))), m.2.2) (w64 (k + (1 : Int)))
  else
   bif decide ((w64 (m.1 + (w64 (k * m.2.2.1)))) = best.1) then
    impl_isLess (w64 (m.2.1 + (w64 (k * m.2.2.2.1)))) best.2.1 fun r1 =>
    bif r1 then
     kn corners t2 m ((w64 (m.1 + (w64 (k * m.2.2.1)))), (w64 (m.2.1 + (w64 (k * m.2.2.2.1)))), m.2.2) (w64 (k + (1 : Int)))
    else
     kn corners t2 m best (w64 (k + (1 : Int)))
   else
    kn corners t2 m best (w64 (k + (1 : Int)))
 else
  k0 corners t2 best
noncomputable def impl_flatMove_L7 {ρ : Type} (n : Nat) (corners : List (Int × Int)) (t2 : Int × Int × Int × Int × Int × Int) (m : Int × Int × Int × Int × Int × Int) (best : Int × Int × Int × Int × Int × Int) (k : Int) (k0 : (List (Int × Int)) → (Int × Int × Int × Int × Int × Int) → (Int × Int × Int × Int × Int × Int) → Option ρ) : Option ρ :=
 loopN (fun v kn ke => impl_flatMove_R7 v.1 v.2.1 v.2.2.1 v.2.2.2.1 v.2.2.2.2 (fun a0 a1 a2 a3 a4 => kn (a0, a1, a2, a3, a4)) (fun a0 a1 a2 => ke (a0, a1, a2))) n (corners, t2, m, best, k) (fun x => k0 x.1 x.2.1 x.2.2)
theorem impl_flatMove_L7_s {ρ : Type} (n : Nat) (corners : List (Int × Int)) (t2 : Int × Int × Int × Int × Int × Int) (m : Int × Int × Int × Int × Int × Int) (best : Int × Int × Int × Int × Int × Int) (k : Int) (k0 : (List (Int × Int)) → (Int × Int × Int × Int × Int × Int) → (Int × Int × Int × Int × Int × Int) → Option ρ) : impl_flatMove_L7 (n + 1) corners t2 m best k k0 = impl_flatMove_R7 corners t2 m best k (fun corners t2 m best k => impl_flatMove_L7 n corners t2 m best k k0) k0 := rfl
noncomputable def impl_flatMove_R15 {ρ : Type} (t2 : Int × Int × Int × Int × Int × Int) (best : Int × Int × Int × Int × Int × Int) (moved : List (Int × Int)) (t92 : List (Int × Int)) (t93 : Int) (t94 : Int) (kn : (Int × Int × Int × Int × Int × Int) → (Int × Int × Int × Int × Int × Int) → (List (Int × Int)) → (List (Int × Int)) → Int → Int → Option ρ) (k0 : (Int × Int × Int × Int × Int × Int) → (Int × Int × Int × Int × Int × Int) → (List (Int × Int)) → Option ρ) : Option ρ :=
 bif decide (t94 < t93) then
  chk (inB t94 t92.length) <|
  impl_Move_bring best (t92.getD (Int.toNat t94) ((0 : Int), (0 : Int))) fun r =>
  chk (decide (moved.length + ([r] : List (Int × Int)).length ≤ LIM)) <|
  kn t2 best (moved ++ ([r] : List (Int × Int))) t92 t93 (w64 (t94 + (1 : Int)))
 else
  k0 t2 best moved
noncomputable def impl_flatMove_L15 {ρ : Type} (n : Nat) (t2 : Int × Int × Int × Int × Int × Int) (best : Int × Int × Int × Int × Int × Int) (moved : List (Int × Int)) (t92 : List (Int × Int)) (t93 : Int) (t94 : Int) (k0 : (Int × Int × Int × Int × Int × Int) → (Int × Int × Int × Int × Int × Int) → (List (Int × Int)) → Option ρ) : Option ρ :=
 loopN (fun v kn ke => impl_flatMove_R15 v.1 v.2.1 v.2.2.1 v.2.2.2.1 v.2.2.2.2.1 v.2.2.2.2.2 (fun a0 a1 a2 a3 a4 a5 => kn (a0, a1, a2, a3, a4, a5)) (fun a0 a1 a2 => ke (a0, a1, a2))) n (t2, best, moved, t92, t93, t94) (fun x => k0 x.1 x.2.1 x.2.2)
theorem impl_flatMove_L15_s {ρ : Type} (n : Nat) (t2 : Int × Int × Int × Int × Int × Int) (best : Int × Int × Int × Int × Int × Int) (moved : List (Int × Int)) (t92 : List (Int × Int)) (t93 : Int) (t94 : Int) (k0 : (Int × Int × Int × Int × Int × Int) → (Int × Int × Int × Int × Int × Int) → (List (Int × Int)) → Option ρ) : impl_flatMove_L15 (n + 1) t2 best moved t92 t93 t94 k0 = impl_flatMove_R15 t2 best moved t92 t93 t94 (fun t2 best moved t92 t93 t94 => impl_flatMove_L15 n t2 best moved t92 t93 t94 k0) k0 := rfl
/-- impl.flatMove -/
noncomputable def impl_flatMove {ρ : Type} (corners : List (Int × Int)) (K : (Int × Int × Int × Int × Int × Int) → Option ρ) : Option ρ :=
 impl_least corners fun r r1 =>
 chk (inB (0 : Int) r.length) <|
 chk (inB (0 : Int) r.length) <|
 impl_bezout (r.getD 0 ((0 : Int), (0 : Int))).2 (r.getD 0 ((0 : Int), (0 : Int))).1 fun r2 r3 r4 =>
 impl_flatMove_L7 LIMN corners ((0 : Int), (0 : Int), (0 : Int), (0 : Int), (0 : Int), (0 : Int)) ((w64 (r2 * r3)), (w64 ((w64 (0 - r2)) * r4)), (r.getD 0 ((0 : Int), (0 : Int))).1, (r.getD 0 ((0 : Int), (0 : Int))).2, (0 : Int), (0 : Int)) ((w64 (r2 * r3)), (w64 ((w64 (0 - r2)) * r4)), (r.getD 0 ((0 : Int), (0 : Int))).1, (r.getD 0 ((0 : Int), (0 : Int))).2, (0 : Int), (0 : Int)) (-2 : Int)
  (fun corners1 t2 best =>
  impl_flatMove_L15 LIMN t2 best ([] : List (Int × Int)) corners1 (corners1.length : Int) (0 : Int)
   (fun t21 best1 moved =>
   impl_box moved fun r5 r6 =>
   K (best1.1, best1.2.1, best1.2.2.1, best1.2.2.2.1, (w64 (0 - r5.1)), (w64 (0 - r5.2)))))
/-- impl.isWay -/
noncomputable def impl_isWay {ρ : Type} (x : Int) (y : Int) (K : Bool → Option ρ) : Option ρ :=
 impl_size x fun r =>
 bif decide (r ≤ (80 : Int)) then
  impl_size y fun r1 =>
  bif decide (r1 ≤ (80 : Int)) then
   bif decide (x > (-1000 : Int)) then
    K (decide (y > (-1000 : Int)))
   else
    K false
  else
   K false
 else
  K false
/-- (impl.Move).side -/
noncomputable def impl_Move_side {ρ : Type} (m : Int × Int × Int × Int × Int × Int) (K : Int → Option ρ) : Option ρ :=
 K (w64 ((w64 (m.1 * m.2.2.2.1)) - (w64 (m.2.1 * m.2.2.1))))
noncomputable def impl_IsMove_R2 {ρ : Type} (m : Int × Int × Int × Int × Int × Int) (t13 : List Int) (t14 : Int) (t15 : Int) (kn : (Int × Int × Int × Int × Int × Int) → (List Int) → Int → Int → Option ρ) (k0 : (Int × Int × Int × Int × Int × Int) → Bool → Option ρ) (k1 : (Int × Int × Int × Int × Int × Int) → Option ρ) : Option ρ :=
 bif decide (t15 < t14) then
  chk (inB t15 t13.length) <|
  impl_within (t13.getD (Int.toNat t15) (0 : Int)) (-20 : Int) (20 : Int) fun r =>
  bif !r then
   k0 m false
  else
   kn m t13 t14 (w64 (t15 + (1 : Int)))
 else
  k1 m
noncomputable def impl_IsMove_L2 {ρ : Type} (n : Nat) (m : Int × Int × Int × Int × Int × Int) (t13 : List Int) (t14 : Int) (t15 : Int) (k0 : (Int × Int × Int × Int × Int × Int) → Bool → Option ρ) (k1 : (Int × Int × Int × Int × Int × Int) → Option ρ) : Option ρ :=
 loopN (fun v kn ke => impl_IsMove_R2 v.1 v.2.1 v.2.2.1 v.2.2.2 (fun a0 a1 a2 a3 => kn (a0, a1, a2, a3)) (fun a0 a1 => ke (.inl (a0, a1))) (fun a0 => ke (.inr a0))) n (m, t13, t14, t15) (Sum.elim (fun x => k0 x.1 x.2) (fun x => k1 x))
theorem impl_IsMove_L2_s {ρ : Type} (n : Nat) (m : Int × Int × Int × Int × Int × Int) (t13 : List Int) (t14 : Int) (t15 : Int) (k0 : (Int × Int × Int × Int × Int × Int) → Bool → Option ρ) (k1 : (Int × Int × Int × Int × Int × Int) → Option ρ) : impl_IsMove_L2 (n + 1) m t13 t14 t15 k0 k1 = impl_IsMove_R2 m t13 t14 t15 (fun m t13 t14 t15 => impl_IsMove_L2 n m t13 t14 t15 k0 k1) k0 k1 := rfl
/-- impl.IsMove -/
noncomputable def impl_IsMove {ρ : Type} (m : Int × Int × Int × Int × Int × Int) (K : Bool → Option ρ) : Option ρ :=
 impl_IsMove_L2 LIMN m ([m.1, m.2.1, m.2.2.1, m.2.2.2.1] : List Int) (([m.1, m.2.1, m.2.2.1, m.2.2.2.1] : List Int).length : Int) (0 : Int)
  (fun m1 t2 =>
  K t2)
  (fun m2 =>
  impl_isWay m2.2.2.2.2.1 m2.2.2.2.2.2 fun r =>
  bif r then
   impl_Move_side m2 fun r1 =>
   impl_size r1 fun r2 =>
   K (decide (r2 = (1 : Int)))
  else
   K false)
/-- impl.checkedMove -/
noncomputable def impl_checkedMove {ρ : Type} (m : Int × Int × Int × Int × Int × Int) (K : (Int × Int × Int × Int × Int × Int) → Bool → Option ρ) : Option ρ :=
 impl_IsMove m fun r =>
 bif !r then
  K ((0 : Int), (0 : Int), (0 : Int), (0 : Int), (0 : Int), (0 : Int)) false
 else
  K m true
/-- impl.FlatMove -/
noncomputable def impl_FlatMove {ρ : Type} (corners : List (Int × Int)) (K : (Int × Int × Int × Int × Int × Int) → Bool → Option ρ) : Option ρ :=
 impl_IsPolygon corners fun r =>
 bif !r then
  K ((0 : Int), (0 : Int), (0 : Int), (0 : Int), (0 : Int), (0 : Int)) false
 else
  impl_flatMove corners fun r1 =>
  impl_checkedMove r1 fun r2 r3 =>
  K r2 r3
/-- laws.eqMove -/
noncomputable def laws_eqMove {ρ : Type} (a : Int × Int × Int × Int × Int × Int) (b : Int × Int × Int × Int × Int × Int) (K : Bool → Option ρ) : Option ρ :=
 bif !(decide (a.1 = b.1)) then
  K false
 else
  bif !(decide (a.2.1 = b.2.1)) then
   K false
  else
   bif !(decide (a.2.2.1 = b.2.2.1)) then
    K false
   else
    bif !(decide (a.2.2.2.1 = b.2.2.2.1)) then
     K false
    else
     bif !(decide (a.2.2.2.2.1 = b.2.2.2.2.1)) then
      K false
     else
      bif !(decide (a.2.2.2.2.2 = b.2.2.2.2.2)) then
       K false
      else
       K true
/-- laws.FnExactFlatMove -/
noncomputable def laws_FnExactFlatMove {ρ : Type} (aCorners : List (Int × Int)) (K : Bool → Option ρ) : Option ρ :=
 laws_szPegS aCorners (1048576 : Int) fun r =>
 bif decide (r < (0 : Int)) then
  K true
 else
  laws_toPegS aCorners fun r1 =>
  spec_FlatMove r1 fun r2 r3 =>
  laws_toPegS aCorners fun r4 =>
  impl_FlatMove r4 fun r5 r6 =>
  laws_eqMove r5 r2 fun r7 =>
  bif !r7 then
   K false
  else
   bif !(decide (r6 = r3)) then
    K false
   else
    laws_toPegS aCorners fun r8 =>
    laws_eqPegS r4 r8 fun r9 =>
    bif !r9 then
     K false
    else
     K true
noncomputable def spec_pgMap_R3 {ρ : Type} (a : Int) (b : Int) (c : Int) (d : Int) (x : Int) (y : Int) (out : List (Int × Int)) (t20 : List (Int × Int)) (t21 : Int) (t22 : Int) (kn : Int → Int → Int → Int → Int → Int → (List (Int × Int)) → (List (Int × Int)) → Int → Int → Option ρ) (k0 : (List (Int × Int)) → Bool → (List (Int × Int)) → Option ρ) (k1 : (List (Int × Int)) → Option ρ) : Option ρ :=
 bif decide (t22 < t21) then
  chk (inB t22 t20.length) <|
  spec_pgIs ((w64 ((w64 ((w64 (a * (t20.getD (Int.toNat t22) ((0 : Int), (0 : Int))).1)) + (w64 (b * (t20.getD (Int.toNat t22) ((0 : Int), (0 : Int))).2)))) + x)), (w64 ((w64 ((w64 (c * (t20.getD (Int.toNat t22) ((0 : Int), (0 : Int))).1)) + (w64 (d * (t20.getD (Int.toNat t22) ((0 : Int), (0 : Int))).2)))) + y))) fun r =>
  bif !r then
   k0 ([] : List (Int × Int)) false out
  else
   chk (decide (out.length + ([((w64 ((w64 ((w64 (a * (t20.getD (Int.toNat t22) ((0 : Int), (0 : Int))).1)) + (w64 (b * (t20.getD (Int.toNat t22) ((0 : Int), (0 : Int))).2)))) + x)), (w64 ((w64 ((w64 (c * (t20.getD (Int.toNat t22) ((0 : Int), (0 : Int))).1)) + (w64 (d * (t20.getD (Int.toNat t22) ((0 : Int), (0 : Int))).2)))) + y)))] : List (Int × Int)).length ≤ LIM)) <|
   kn a b c d x y (out ++ ([((w64 ((w64 ((w64 (a * (t20.getD (Int.toNat t22) ((0 : Int), (0 : Int))).1)) + (w64 (b * (t20.getD (Int.toNat t22) ((0 : Int), (0 : Int))).2)))) + x)), (w64 ((w64 ((w64 (c * (t20.getD (Int.toNat t22) ((0 : Int), (0 : Int))).1)) + (w64 (d * (t20.getD (Int.toNat t22) ((0 : Int), (0 : Int))).2)))) + y)))] : List (Int × Int))) t20 t21 (w64 (t22 + (1 : Int)))
 else
  k1 out
noncomputable def spec_pgMap_L3 {ρ : Type} (n : Nat) (a : Int) (b : Int) (c : Int) (d : Int) (x : Int) (y : Int) (out : List (Int × Int)) (t20 : List (Int × Int)) (t21 : Int) (t22 : Int) (k0 : (List (Int × Int)) → Bool → (List (Int × Int)) → Option ρ) (k1 : (List (Int × Int)) → Option ρ) : Option ρ :=
 loopN (fun v kn ke => spec_pgMap_R3 v.1 v.2.1 v.2.2.1 v.2.2.2.1 v.2.2.2.2.1 v.2.2.2.2.2.1 v.2.2.2.2.2.2.1 v.2.2.2.2.2.2.2.1 v.2.2.2.2.2.2.2.2.1 v.2.2.2.2.2.2.2.2.2 (fun a0 a1 a2 a3 a4 a5 a6 a7 a8 a9 => kn (a0, a1, a2, a3, a4, a5, a6, a7, a8, a9)) (fun a0 a1 a2 => ke (.inl (a0, a1, a2))) (fun a0 => ke (.inr a0))) n (a, b, c, d, x, y, out, t20, t21, t22) (Sum.elim (fun x => k0 x.1 x.2.1 x.2.2) (fun x => k1 x))
theorem spec_pgMap_L3_s {ρ : Type} (n : Nat) (a : Int) (b : Int) (c : Int) (d : Int) (x : Int) (y : Int) (out : List (Int × Int)) (t20 : List (Int × Int)) (t21 : Int) (t22 : Int) (k0 : (List (Int × Int)) → Bool → (List (Int × Int)) → Option ρ) (k1 : (List (Int × Int)) → Option ρ) : spec_pgMap_L3 (n + 1) a b c d x y out t20 t21 t22 k0 k1 = spec_pgMap_R3 a b c d x y out t20 t21 t22 (fun a b c d x y out t20 t21 t22 => spec_pgMap_L3 n a b c d x y out t20 t21 t22 k0 k1) k0 k1 := rfl
/-- spec.pgMap -/
noncomputable def spec_pgMap {ρ : Type} (corners : List (Int × Int)) (a : Int) (b : Int) (c : Int) (d : Int) (x : Int) (y : Int) (K : (List (Int × Int)) → Bool → Option ρ) : Option ρ :=
 spec_pgMap_L3 LIMN a b c d x y ([] : List (Int × Int)) corners (corners.length : Int) (0 : Int)
  (fun t14 t15 out =>
  K t14 t15)
  (fun out1 =>
  K out1 true)
/-- spec.MoveCorners -/
noncomputable def spec_MoveCorners {ρ : Type} (m : Int × Int × Int × Int × Int × Int) (corners : List (Int × Int)) (K : (List (Int × Int)) → Bool → Option ρ) : Option ρ :=
 spec_mvGood m fun r =>
 bif !r then
  K ([] : List (Int × Int)) false
 else
  spec_pgGood corners fun r1 =>
  bif !r1 then
   K ([] : List (Int × Int)) false
  else
   spec_pgMap corners m.1 m.2.1 m.2.2.1 m.2.2.2.1 m.2.2.2.2.1 m.2.2.2.2.2 fun r2 r3 =>
   K r2 r3
/-- spec.FlatPolygon -/
noncomputable def spec_FlatPolygon {ρ : Type} (corners : List (Int × Int)) (K : (List (Int × Int)) → Bool → Option ρ) : Option ρ :=
 spec_FlatMove corners fun r r1 =>
 bif !r1 then
  K ([] : List (Int × Int)) false
 else
  spec_MoveCorners r corners fun r2 r3 =>
  K r2 r3
noncomputable def impl_changed_at_Move_bring_R5 {ρ : Type} (change : Int × Int × Int × Int × Int × Int) (out : List (Int × Int)) (t13 : List (Int × Int)) (t14 : Int) (t15 : Int) (kn : (Int × Int × Int × Int × Int × Int) → (List (Int × Int)) → (List (Int × Int)) → Int → Int → Option ρ) (k0 : (List (Int × Int)) → Option ρ) : Option ρ :=
 bif decide (t15 < t14) then
  chk (inB t15 t13.length) <|
  impl_Move_bring change (t13.getD (Int.toNat t15) ((0 : Int), (0 : Int))) fun r =>
  chk (decide (out.length + ([r] : List (Int × Int)).length ≤ LIM)) <|
  kn change (out ++ ([r] : List (Int × Int))) t13 t14 (w64 (t15 + (1 : Int)))
 else
  k0 out
noncomputable def impl_changed_at_Move_bring_L5 {ρ : Type} (n : Nat) (change : Int × Int × Int × Int × Int × Int) (out : List (Int × Int)) (t13 : List (Int × Int)) (t14 : Int) (t15 : Int) (k0 : (List (Int × Int)) → Option ρ) : Option ρ :=
 loopN (fun v kn ke => impl_changed_at_Move_bring_R5 v.1 v.2.1 v.2.2.1 v.2.2.2.1 v.2.2.2.2 (fun a0 a1 a2 a3 a4 => kn (a0, a1, a2, a3, a4)) (fun a0 => ke a0)) n (change, out, t13, t14, t15) (fun x => k0 x)
theorem impl_changed_at_Move_bring_L5_s {ρ : Type} (n : Nat) (change : Int × Int × Int × Int × Int × Int) (out : List (Int × Int)) (t13 : List (Int × Int)) (t14 : Int) (t15 : Int) (k0 : (List (Int × Int)) → Option ρ) : impl_changed_at_Move_bring_L5 (n + 1) change out t13 t14 t15 k0 = impl_changed_at_Move_bring_R5 change out t13 t14 t15 (fun change out t13 t14 t15 => impl_changed_at_Move_bring_L5 n change out t13 t14 t15 k0) k0 := rfl
/-- impl.changed -/
noncomputable def impl_changed_at_Move_bring {ρ : Type} (corners : List (Int × Int)) (change : Int × Int × Int × Int × Int × Int) (K : (List (Int × Int)) → Bool → Option ρ) : Option ρ :=
 impl_IsPolygon corners fun r =>
 bif !r then
  K ([] : List (Int × Int)) false
 else
  impl_changed_at_Move_bring_L5 LIMN change ([] : List (Int × Int)) corners (corners.length : Int) (0 : Int)
   (fun out =>
   impl_arePegs out fun r1 =>
   bif !r1 then
    K ([] : List (Int × Int)) false
   else
    K out true)
/-- impl.FlatPolygon -/
noncomputable def impl_FlatPolygon {ρ : Type} (corners : List (Int × Int)) (K : (List (Int × Int)) → Bool → Option ρ) : Option ρ :=
 impl_FlatMove corners fun r r1 =>
 bif !r1 then
  K ([] : List (Int × Int)) false
 else
  impl_changed_at_Move_bring corners r fun r2 r3 =>
  K r2 r3
noncomputable def laws_heldPegS_R2 {ρ : Type} (a : List (Int × Int)) (k : Int) (i : Int) (kn : (List (Int × Int)) → Int → Int → Option ρ) (k0 : Int → Int → Option ρ) (k1 : Int → Option ρ) : Option ρ :=
 bif decide (i < (a.length : Int)) then
  chk (inB i a.length) <|
  bif !(decide ((a.getD (Int.toNat i) ((0 : Int), (0 : Int))).1 = k)) then
   k0 k (-1 : Int)
  else
   chk (inB i a.length) <|
   bif !(decide ((a.getD (Int.toNat i) ((0 : Int), (0 : Int))).2 = (w64 (k + (1 : Int))))) then
    k0 (w64 (k + (1 : Int))) (-1 : Int)
   else
    kn a (w64 ((w64 (k + (1 : Int))) + (1 : Int))) (w64 (i + (1 : Int)))
 else
  k1 k
noncomputable def laws_heldPegS_L2 {ρ : Type} (n : Nat) (a : List (Int × Int)) (k : Int) (i : Int) (k0 : Int → Int → Option ρ) (k1 : Int → Option ρ) : Option ρ :=
 loopN (fun v kn ke => laws_heldPegS_R2 v.1 v.2.1 v.2.2 (fun a0 a1 a2 => kn (a0, a1, a2)) (fun a0 a1 => ke (.inl (a0, a1))) (fun a0 => ke (.inr a0))) n (a, k, i) (Sum.elim (fun x => k0 x.1 x.2) (fun x => k1 x))
theorem laws_heldPegS_L2_s {ρ : Type} (n : Nat) (a : List (Int × Int)) (k : Int) (i : Int) (k0 : Int → Int → Option ρ) (k1 : Int → Option ρ) : laws_heldPegS_L2 (n + 1) a k i k0 k1 = laws_heldPegS_R2 a k i (fun a k i => laws_heldPegS_L2 n a k i k0 k1) k0 k1 := rfl
/-- laws.heldPegS -/
noncomputable def laws_heldPegS {ρ : Type} (a : List (Int × Int)) (k : Int) (K : Int → Option ρ) : Option ρ :=
 laws_heldPegS_L2 LIMN a k (0 : Int)
  (fun k1 t4 =>
  K t4)
  (fun k2 =>
  K k2)
/-- laws.FnExactFlatPolygon -/
noncomputable def laws_FnExactFlatPolygon {ρ : Type} (aCorners : List (Int × Int)) (K : Bool → Option ρ) : Option ρ :=
 laws_szPegS aCorners (1048576 : Int) fun r =>
 bif decide (r < (0 : Int)) then
  K true
 else
  laws_toPegS aCorners fun r1 =>
  spec_FlatPolygon r1 fun r2 r3 =>
  laws_toPegS aCorners fun r4 =>
  impl_FlatPolygon r4 fun r5 r6 =>
  laws_eqPegS r5 r2 fun r7 =>
  bif !r7 then
   K false
  else
   bif !(decide (r6 = r3)) then
    K false
   else
    laws_toPegS aCorners fun r8 =>
    laws_eqPegS r4 r8 fun r9 =>
    bif !r9 then
     K false
    else
     laws_markPegS (1 : Int) r4 fun r10 w =>
     bif decide (r10 < (0 : Int)) then
      K false
     else
      laws_eqPegS r5 r2 fun r11 =>
      bif !r11 then
       K false
      else
       bif !(decide (r6 = r3)) then
        K false
       else
        laws_markPegS (1 : Int) r5 fun r12 w1 =>
        laws_heldPegS w1 (1 : Int) fun r13 =>
        bif decide (r13 < (0 : Int)) then
         K false
        else
         bif !(decide (r13 = r12)) then
          K false
         else
          laws_toPegS aCorners fun r14 =>
          impl_FlatPolygon r14 fun r15 r16 =>
          laws_eqPegS r15 r2 fun r17 =>
          bif !r17 then
           K false
          else
           bif !(decide (r16 = r3)) then
            K false
           else
            laws_heldPegS w1 (1 : Int) fun r18 =>
            bif decide (r18 < (0 : Int)) then
             K false
            else
             bif !(decide (r18 = r12)) then
              K false
             else
              K true
end Go.Proofs.Ga
