/-
  What the plain functions compute: the reference and the program answer alike. No condition.
-/
import Derived.Test.YtjijojnmbjmecaaFn
set_option linter.unusedVariables false
set_option linter.constructorNameAsVariable false
namespace Go.Proofs.Ga
open Go.VI
abbrev Pg := Int × Int
theorem mul_bd {a b A B : Int} (h1 : -A ≤ a) (h2 : a ≤ A) (h3 : -B ≤ b) (h4 : b ≤ B) : -(A * B) ≤ a * b ∧ a * b ≤ A * B := by
  have hA : 0 ≤ A := by omega
  have hB : 0 ≤ B := by omega
  have h : (a * b).natAbs ≤ (A * B).natAbs := by
    rw [Int.natAbs_mul, Int.natAbs_mul]
    exact Nat.mul_le_mul (by omega) (by omega)
  have hAB : 0 ≤ A * B := Int.mul_nonneg hA hB
  omega
theorem mul_nonpos_iff' {x y : Int} : x * y ≤ 0 ↔ (x ≤ 0 ∧ 0 ≤ y) ∨ (0 ≤ x ∧ y ≤ 0) := by
  constructor
  · intro h
    rcases Int.lt_trichotomy x 0 with hx | hx | hx
    · rcases (show y < 0 ∨ 0 ≤ y by omega) with hy | hy
      · have := Int.mul_pos_of_neg_of_neg hx hy; omega
      · exact .inl ⟨by omega, hy⟩
    · subst hx
      rcases (show y < 0 ∨ 0 ≤ y by omega) with hy | hy
      · exact .inr ⟨by omega, by omega⟩
      · exact .inl ⟨by omega, hy⟩
    · rcases (show 0 < y ∨ y ≤ 0 by omega) with hy | hy
      · have := Int.mul_pos hx hy; omega
      · exact .inr ⟨by omega, hy⟩
  · rintro (⟨h1, h2⟩ | ⟨h1, h2⟩)
    · have := Int.mul_nonneg (a := -x) (b := y) (by omega) h2
      rw [Int.neg_mul] at this; omega
    · have := Int.mul_nonneg (a := x) (b := -y) h1 (by omega)
      rw [Int.mul_neg] at this; omega
theorem between_iff {a b p : Int} : (a - p) * (b - p) ≤ 0 ↔ min a b ≤ p ∧ p ≤ max a b := by
  rw [mul_nonpos_iff']; omega
/-! ### points -/
def Sm (p : Pg) : Prop := -100000 ≤ p.1 ∧ p.1 ≤ 100000 ∧ -100000 ≤ p.2 ∧ p.2 ≤ 100000
def inR (p : Pg) : Bool := decide (-40 ≤ p.1) && (decide (p.1 ≤ 40) && (decide (-40 ≤ p.2) && decide (p.2 ≤ 40)))
theorem inR_iff {p : Pg} : inR p = true ↔ -40 ≤ p.1 ∧ p.1 ≤ 40 ∧ -40 ≤ p.2 ∧ p.2 ≤ 40 := by simp [inR]
theorem inR_sm {p : Pg} (h : inR p = true) : Sm p := by
  rw [inR_iff] at h; unfold Sm; omega
def tur (a b c : Pg) : Int := (b.1 - a.1) * (c.2 - a.2) - (b.2 - a.2) * (c.1 - a.1)
def onL (a b p : Pg) : Bool := decide (tur a b p = 0) && (decide (min a.1 b.1 ≤ p.1 ∧ p.1 ≤ max a.1 b.1) && decide (min a.2 b.2 ≤ p.2 ∧ p.2 ≤ max a.2 b.2))
def mt (a b c d : Pg) : Bool := (decide ((tur a b c).sign * (tur a b d).sign < 0) && decide ((tur c d a).sign * (tur c d b).sign < 0)) || (onL a b c || (onL a b d || (onL c d a || onL c d b)))
theorem tur_bd {a b c : Pg} (ha : Sm a) (hb : Sm b) (hc : Sm c) : -80000000000 ≤ tur a b c ∧ tur a b c ≤ 80000000000 := by
  unfold Sm at *
  have h1 := mul_bd (a := b.1 - a.1) (b := c.2 - a.2) (A := 200000) (B := 200000) (by omega) (by omega) (by omega) (by omega)
  have h2 := mul_bd (a := b.2 - a.2) (b := c.1 - a.1) (A := 200000) (B := 200000) (by omega) (by omega) (by omega) (by omega)
  unfold tur
  omega
section
variable {ρ : Type}
theorem turn_w64 {a b c : Pg} (ha : Sm a) (hb : Sm b) (hc : Sm c) : w64 ((w64 ((w64 (b.1 - a.1)) * (w64 (c.2 - a.2)))) - (w64 ((w64 (b.2 - a.2)) * (w64 (c.1 - a.1))))) = tur a b c := by
  unfold Sm at *
  have h1 := mul_bd (a := b.1 - a.1) (b := c.2 - a.2) (A := 200000) (B := 200000) (by omega) (by omega) (by omega) (by omega)
  have h2 := mul_bd (a := b.2 - a.2) (b := c.1 - a.1) (A := 200000) (B := 200000) (by omega) (by omega) (by omega) (by omega)
  rw [w64_eq (n := b.1 - a.1) (by omega) (by omega), w64_eq (n := c.2 - a.2) (by omega) (by omega), w64_eq (n := b.2 - a.2) (by omega) (by omega), w64_eq (n := c.1 - a.1) (by omega) (by omega),
    w64_eq (n := (b.1 - a.1) * (c.2 - a.2)) (by omega) (by omega), w64_eq (n := (b.2 - a.2) * (c.1 - a.1)) (by omega) (by omega), w64_eq (by omega) (by omega)]
  rfl
theorem spec_pgTurn_eq {a b c : Pg} (ha : Sm a) (hb : Sm b) (hc : Sm c) (K : Int → Option ρ) : spec_pgTurn a b c K = K (tur a b c) := by
  unfold spec_pgTurn
  rw [turn_w64 ha hb hc]
theorem impl_turn_eq {a b c : Pg} (ha : Sm a) (hb : Sm b) (hc : Sm c) (K : Int → Option ρ) : impl_turn a b c K = K (tur a b c) := by
  unfold impl_turn impl_Peg_less impl_cross
  dsimp only
  rw [turn_w64 ha hb hc]
theorem spec_pgOn_eq {a b p : Pg} (ha : Sm a) (hb : Sm b) (hp : Sm p) (K : Bool → Option ρ) : spec_pgOn a b p K = K (onL a b p) := by
  unfold spec_pgOn
  rw [spec_pgTurn_eq ha hb hp]
  unfold Sm at *
  have h1 := mul_bd (a := a.1 - p.1) (b := b.1 - p.1) (A := 200000) (B := 200000) (by omega) (by omega) (by omega) (by omega)
  have h2 := mul_bd (a := a.2 - p.2) (b := b.2 - p.2) (A := 200000) (B := 200000) (by omega) (by omega) (by omega) (by omega)
  rw [w64_eq (n := a.1 - p.1) (by omega) (by omega), w64_eq (n := b.1 - p.1) (by omega) (by omega), w64_eq (n := a.2 - p.2) (by omega) (by omega), w64_eq (n := b.2 - p.2) (by omega) (by omega),
    w64_eq (n := (a.1 - p.1) * (b.1 - p.1)) (by omega) (by omega), w64_eq (n := (a.2 - p.2) * (b.2 - p.2)) (by omega) (by omega)]
  unfold onL
  simp only [between_iff]
  cases decide (tur a b p = 0) <;> cases decide (min a.1 b.1 ≤ p.1 ∧ p.1 ≤ max a.1 b.1) <;> rfl
theorem impl_within_eq (n lo hi : Int) (K : Bool → Option ρ) : impl_within n lo hi K = K (decide (lo ≤ n ∧ n ≤ hi)) := by
  unfold impl_within
  rw [bif_dec]
  by_cases h : n ≥ lo
  · rw [if_pos h]
    by_cases h2 : n ≤ hi <;> simp [h2, show lo ≤ n from h]
  · rw [if_neg h]
    simp [show ¬ lo ≤ n from h]
theorem spec_l1In_eq (n lo hi : Int) (K : Bool → Option ρ) : spec_l1In n lo hi K = K (decide (lo ≤ n ∧ n ≤ hi)) := impl_within_eq n lo hi K
theorem impl_isOn_eq {a b p : Pg} (ha : Sm a) (hb : Sm b) (hp : Sm p) (K : Bool → Option ρ) : impl_isOn a b p K = K (onL a b p) := by
  unfold impl_isOn
  rw [impl_turn_eq ha hb hp]
  simp only [impl_within_eq]
  unfold onL
  cases decide (tur a b p = 0) <;> cases decide (min a.1 b.1 ≤ p.1 ∧ p.1 ≤ max a.1 b.1) <;> rfl
theorem spec_l1Sign_eq (n : Int) (K : Int → Option ρ) : spec_l1Sign n K = K n.sign := by
  unfold spec_l1Sign
  rw [bif_dec, bif_dec]
  rcases Int.lt_trichotomy n 0 with h | h | h
  · rw [if_neg (by omega), if_pos h, Int.sign_eq_neg_one_of_neg h]
  · subst h; rfl
  · rw [if_pos h, Int.sign_eq_one_of_pos h]
theorem impl_sign_eq (n : Int) (K : Int → Option ρ) : impl_sign n K = K n.sign := by
  unfold impl_sign
  rcases Int.lt_trichotomy n 0 with h | h | h
  · rw [Int.sign_eq_neg_one_of_neg h]; congr 1; omega
  · subst h; rfl
  · rw [Int.sign_eq_one_of_pos h]; congr 1; omega
theorem sign_bd (n : Int) : -1 ≤ n.sign ∧ n.sign ≤ 1 := by
  rcases Int.lt_trichotomy n 0 with h | h | h
  · rw [Int.sign_eq_neg_one_of_neg h]; omega
  · subst h; decide
  · rw [Int.sign_eq_one_of_pos h]; omega
theorem sign_w64 (m n : Int) : w64 (m.sign * n.sign) = m.sign * n.sign := by
  have h1 := sign_bd m
  have h2 := sign_bd n
  have := mul_bd h1.1 h1.2 h2.1 h2.2
  exact w64_eq (by omega) (by omega)
theorem spec_pgMeet_eq {a b c d : Pg} (ha : Sm a) (hb : Sm b) (hc : Sm c) (hd : Sm d) (K : Bool → Option ρ) : spec_pgMeet a b c d K = K (mt a b c d) := by
  unfold spec_pgMeet
  simp only [spec_pgOn_eq ha hb hc, spec_pgOn_eq ha hb hd, spec_pgOn_eq hc hd ha, spec_pgOn_eq hc hd hb, spec_pgTurn_eq ha hb hc, spec_pgTurn_eq ha hb hd, spec_pgTurn_eq hc hd ha, spec_pgTurn_eq hc hd hb, spec_l1Sign_eq, sign_w64]
  unfold mt
  cases onL a b c <;> cases onL a b d <;> cases onL c d a <;> cases onL c d b <;> cases decide ((tur a b c).sign * (tur a b d).sign < 0) <;> simp
theorem impl_meet_eq {a b c d : Pg} (ha : Sm a) (hb : Sm b) (hc : Sm c) (hd : Sm d) (K : Bool → Option ρ) : impl_meet a b c d K = K (mt a b c d) := by
  unfold impl_meet
  simp only [impl_isOn_eq ha hb hc, impl_isOn_eq ha hb hd, impl_isOn_eq hc hd ha, impl_isOn_eq hc hd hb, impl_turn_eq ha hb hc, impl_turn_eq ha hb hd, impl_turn_eq hc hd ha, impl_turn_eq hc hd hb, impl_sign_eq, sign_w64]
  unfold mt
  cases onL a b c <;> cases onL a b d <;> cases onL c d a <;> cases onL c d b <;> cases decide ((tur a b c).sign * (tur a b d).sign < 0) <;> cases decide ((tur c d a).sign * (tur c d b).sign < 0) <;> rfl
theorem spec_pgIs_eq (p : Pg) (K : Bool → Option ρ) : spec_pgIs p K = K (inR p) := by
  unfold spec_pgIs inR
  simp only [spec_l1In_eq]
  by_cases h1 : -40 ≤ p.1 <;> by_cases h2 : p.1 ≤ 40 <;> by_cases h3 : -40 ≤ p.2 <;> by_cases h4 : p.2 ≤ 40 <;> simp [h1, h2, h3, h4]
theorem impl_IsPeg_eq (p : Pg) (K : Bool → Option ρ) : impl_IsPeg p K = K (inR p) := by
  unfold impl_IsPeg inR
  simp only [impl_within_eq]
  by_cases h1 : -40 ≤ p.1 <;> by_cases h2 : p.1 ≤ 40 <;> by_cases h3 : -40 ≤ p.2 <;> by_cases h4 : p.2 ≤ 40 <;> simp [h1, h2, h3, h4]
end
end Go.Proofs.Ga

namespace Go.Proofs.Ga
open Go.VI Go.Sort
/-! ### the comparator of the program -/
def ltP (p q : Pg) : Bool := decide (p.1 < q.1) || (decide (p.1 = q.1) && decide (p.2 < q.2))
theorem ltP_iff {p q : Pg} : ltP p q = true ↔ p.1 < q.1 ∨ (p.1 = q.1 ∧ p.2 < q.2) := by simp [ltP]
theorem ltP_false {p q : Pg} : ltP p q = false ↔ q.1 < p.1 ∨ (p.1 = q.1 ∧ q.2 ≤ p.2) := by
  rw [← Bool.not_eq_true, ltP_iff]; omega
theorem ltOf_cf : Go.Proofs.ltOf cf_impl_comparePegs = ltP := by
  funext p q
  rw [Bool.eq_iff_iff, ltP_iff]
  unfold Go.Proofs.ltOf cf_impl_comparePegs
  rw [decide_eq_true_iff]
  split
  · omega
  · split
    · omega
    · split
      · omega
      · split <;> omega
theorem swo_ltP : SWO ltP where
  irrefl x := by rw [ltP_false]; omega
  trans x y z := by rw [ltP_iff, ltP_iff, ltP_iff]; omega
  ntrans x y z := by rw [ltP_false, ltP_false, ltP_false]; omega
theorem swo_cf_impl_comparePegs : SWO (Go.Proofs.ltOf cf_impl_comparePegs) := by rw [ltOf_cf]; exact swo_ltP
theorem compare_eq {ρ : Type} (x y : Int) (K : Int → Option ρ) : cmp_Compare_int x y K = K (if x < y then -1 else if y < x then 1 else 0) := by
  unfold cmp_Compare_int cmp_isNaN_int
  simp only [decide_true, Bool.not_true, cond_false]
  rw [bif_dec, bif_dec]
  by_cases h1 : x < y
  · rw [if_pos h1, if_pos h1]
  · rw [if_neg h1, if_neg h1]
    by_cases h2 : y < x
    · rw [if_pos h2, if_pos h2]
    · rw [if_neg h2, if_neg h2]
theorem or_eq {ρ : Type} (a b : Int) (K : Int → Option ρ) : cmp_Or_int [a, b] K = K (if a = 0 then b else a) := by
  unfold cmp_Or_int
  obtain ⟨m, hm⟩ : ∃ m, LIMN = m + 3 := ⟨LIMN - 3, by rw [LIMN_eq]⟩
  rw [hm]
  rw [cmp_Or_int_L3_s]
  unfold cmp_Or_int_R3
  rw [bif_dec, if_pos (by simp), inB_of (by omega) (by simp), chk_true, bif_ndec, w64_eq (by omega) (by omega)]
  by_cases h1 : a = 0
  · rw [if_pos h1, if_pos (by exact h1)]
    dsimp only
    rw [cmp_Or_int_L3_s]
    unfold cmp_Or_int_R3
    rw [bif_dec, if_pos (by simp), inB_of (by omega) (by simp), chk_true, bif_ndec, w64_eq (by omega) (by omega)]
    by_cases h2 : b = 0
    · rw [if_pos (by exact h2)]
      dsimp only
      rw [cmp_Or_int_L3_s]
      unfold cmp_Or_int_R3
      rw [bif_dec, if_neg (by simp), h2]
    · rw [if_neg (by exact h2)]; rfl
  · rw [if_neg h1, if_neg (by exact h1)]; rfl
theorem eq_cf_impl_comparePegs {ρ : Type} (p q : Pg) (K : Int → Option ρ) : impl_comparePegs p q K = K (cf_impl_comparePegs p q) := by
  unfold impl_comparePegs
  rw [compare_eq, compare_eq, or_eq]
  congr 1
  unfold cf_impl_comparePegs
  split
  · simp
  · split
    · simp
    · simp
end Go.Proofs.Ga

namespace Go.Proofs.Ga
open Go.VI
open Classical
def cyc (xs : List Pg) (i : Nat) : Pg := xs.getD (i % xs.length) (0, 0)
/-- A list is a polygon. -/
structure Poly (xs : List Pg) : Prop where
  low : 3 ≤ xs.length
  high : xs.length ≤ 10
  peg : ∀ p ∈ xs, inR p = true
  nodup : ∀ i j, j < i → i < xs.length → xs.getD j (0, 0) ≠ xs.getD i (0, 0)
  turn : ∀ i, i < xs.length → tur (cyc xs i) (cyc xs (i + 1)) (cyc xs (i + 2)) ≠ 0
  meet : ∀ i k, i + 2 ≤ k → k < xs.length → k - i < xs.length - 1 → mt (cyc xs i) (cyc xs (i + 1)) (cyc xs k) (cyc xs (k + 1)) = false
noncomputable def poly (xs : List Pg) : Bool := decide (Poly xs)
theorem pair_dec (p q : Pg) : (decide (p.1 = q.1) && decide (p.2 = q.2)) = decide (p = q) := by
  obtain ⟨a, b⟩ := p
  obtain ⟨c, d⟩ := q
  by_cases h1 : a = c <;> by_cases h2 : b = d <;> simp [h1, h2]
theorem cyc_lt {xs : List Pg} {i : Nat} (h : i < xs.length) : cyc xs i = xs.getD i (0, 0) := by unfold cyc; rw [Nat.mod_eq_of_lt h]
theorem cyc_mem {xs : List Pg} (h : 0 < xs.length) (i : Nat) : cyc xs i ∈ xs := getD_mem (Nat.mod_lt _ h)
theorem cyc_add {xs : List Pg} (i : Nat) : cyc xs (i + xs.length) = cyc xs i := by unfold cyc; rw [Nat.add_mod_right]
section
variable {ρ : Type}
theorem good_L10 (corners t17 t29 : List Pg) (nv t18 t19 : Int) (p : Pg) (hl : t29.length < 1000) (n : Nat) (hn : t29.length < n) (k0 : List Pg → Bool → Int → List Pg → Int → Int → Option ρ) (k1 : List Pg → Int → List Pg → Int → Int → Option ρ) :
    spec_pgGood_L10 n corners nv p t17 t18 t19 t29 (t29.length : Int) 0 k0 k1 = if p ∈ t29 then k0 corners false nv t17 t18 t19 else k1 corners nv t17 t18 t19 := by
  have h := search_loop (g := fun n i => spec_pgGood_L10 n corners nv p t17 t18 t19 t29 (t29.length : Int) (i : Int) k0 k1) (len := t29.length) (c := fun j => p = t29.getD j (0, 0)) (A := k0 corners false nv t17 t18 t19) (B := k1 corners nv t17 t18 t19) (by
    intro n i _ hi
    rw [spec_pgGood_L10_s]
    unfold spec_pgGood_R10
    rw [bif_dec, if_pos (by omega), inB_nat hi, chk_true, Int.toNat_natCast, pair_dec, bif_dec, w64_nat (by omega)]
    by_cases hx : p = t29.getD i (0, 0)
    · rw [if_pos hx, if_pos hx]
    · rw [if_neg hx, if_neg hx]) (by
    intro n
    rw [spec_pgGood_L10_s]
    unfold spec_pgGood_R10
    rw [bif_dec, if_neg (by omega)]) t29.length n 0 (Nat.le_refl 0) (by omega) hn
  refine Eq.trans h ?_
  have : (∃ j, 0 ≤ j ∧ j < t29.length ∧ p = t29.getD j (0, 0)) ↔ p ∈ t29 := by
    constructor
    · rintro ⟨j, _, hj, rfl⟩
      exact getD_mem hj
    · intro hp
      obtain ⟨j, hj, rfl⟩ := List.getElem_of_mem hp
      exact ⟨j, by omega, hj, (getD_eq hj).symm⟩
  by_cases hx : p ∈ t29
  · rw [if_pos hx, if_pos (this.2 hx)]
  · rw [if_neg hx, if_neg (fun h => hx (this.1 h))]
/-- What the first round looks for. -/
def bad5 (xs : List Pg) (i : Nat) : Prop := inR (xs.getD i (0, 0)) = false ∨ xs.getD i (0, 0) ∈ xs.take i
theorem good_L5 (xs : List Pg) (nv : Int) (hl : xs.length ≤ 10) (k0 : List Pg → Bool → Int → Option ρ) (k1 : List Pg → Int → Option ρ) :
    spec_pgGood_L5 LIMN xs nv xs (xs.length : Int) 0 k0 k1 = if ∃ i, 0 ≤ i ∧ i < xs.length ∧ bad5 xs i then k0 xs false nv else k1 xs nv := by
  have h := search_loop (g := fun n i => spec_pgGood_L5 n xs nv xs (xs.length : Int) (i : Int) k0 k1) (len := xs.length) (c := bad5 xs) (A := k0 xs false nv) (B := k1 xs nv) (by
    intro n i _ hi
    rw [spec_pgGood_L5_s]
    unfold spec_pgGood_R5
    rw [bif_dec, if_pos (by omega), inB_nat hi, chk_true, Int.toNat_natCast, spec_pgIs_eq]
    cases hr : inR (xs.getD i (0, 0)) with
    | false => rw [if_pos (.inl hr)]; rfl
    | true =>
      simp only [Bool.not_true, cond_false]
      rw [show (decide ((0 : Int) ≤ (i : Int)) && decide ((i : Int) ≤ (xs.length : Int))) = true by simp; omega, chk_true, good_L10 _ _ _ _ _ _ _ (by simp; omega) _ (limn_lt (by simp; omega))]
      by_cases hm : xs.getD i (0, 0) ∈ xs.take i
      · rw [if_pos hm, if_pos (.inr hm)]
      · rw [if_neg hm, if_neg (by rintro (h | h); · rw [hr] at h; simp at h
                                  · exact hm h), w64_nat (by omega)]) (by
    intro n
    rw [spec_pgGood_L5_s]
    unfold spec_pgGood_R5
    rw [bif_dec, if_neg (by omega)]) xs.length LIMN 0 (Nat.le_refl 0) (by omega) (limn_lt (by omega))
  exact h
/-- What the inner loop of the second round looks for. -/
def bad23 (xs : List Pg) (i k : Nat) : Prop := mt (cyc xs i) (cyc xs (i + 1)) (cyc xs k) (cyc xs (k + 1)) = true
theorem tmod_nat {a b : Nat} : Int.tmod (a : Int) (b : Int) = ((a % b : Nat) : Int) := by
  rw [Int.tmod_eq_emod_of_nonneg (by omega)]; rfl
theorem good_L23 (xs : List Pg) (hl : xs.length ≤ 10) (h3 : 3 ≤ xs.length) (hs : ∀ p ∈ xs, Sm p) (i : Nat) (hi : i < xs.length) (t40 : List Pg) (t41 t42 : Int) (k0 : List Pg → Bool → Int → List Pg → Int → Int → Option ρ) (k1 : List Pg → Int → List Pg → Int → Int → Option ρ) :
    spec_pgGood_L23 LIMN xs (xs.length : Int) (i : Int) (cyc xs i) (cyc xs (i + 1)) ((i + 2 : Nat) : Int) t40 t41 t42 k0 k1 =
      if ∃ k, i + 2 ≤ k ∧ k < xs.length ∧ k - i < xs.length - 1 ∧ bad23 xs i k then k0 xs false (xs.length : Int) t40 t41 t42 else k1 xs (xs.length : Int) t40 t41 t42 := by
  have stop : ∀ n (k : Nat), k < 100 → i + 2 ≤ k → ¬ (k < xs.length ∧ k - i < xs.length - 1) → spec_pgGood_L23 (n + 1) xs (xs.length : Int) (i : Int) (cyc xs i) (cyc xs (i + 1)) (k : Int) t40 t41 t42 k0 k1 = k1 xs (xs.length : Int) t40 t41 t42 := by
    intro n k hk100 hk hn
    rw [spec_pgGood_L23_s]
    unfold spec_pgGood_R23
    rw [bif_dec, bif_dec, w64_eq (n := (k : Int) - i) (by omega) (by omega), w64_eq (n := (xs.length : Int) - 1) (by omega) (by omega)]
    by_cases h1 : k < xs.length
    · rw [if_pos (by omega), if_neg (by omega)]
    · rw [if_neg (by omega)]
  -- the last place that is looked at
  obtain ⟨len, hlen⟩ : ∃ len, len = max (i + 2) (min xs.length (xs.length - 1 + i)) := ⟨_, rfl⟩
  have h := search_loop (g := fun n k => spec_pgGood_L23 n xs (xs.length : Int) (i : Int) (cyc xs i) (cyc xs (i + 1)) (k : Int) t40 t41 t42 k0 k1) (lo := i + 2) (len := len) (c := bad23 xs i) (A := k0 xs false (xs.length : Int) t40 t41 t42) (B := k1 xs (xs.length : Int) t40 t41 t42) (by
    intro n k hlo hk
    have hk1 : k < xs.length := by omega
    have hk2 : k - i < xs.length - 1 := by omega
    rw [spec_pgGood_L23_s]
    unfold spec_pgGood_R23
    rw [bif_dec, bif_dec, w64_eq (n := (k : Int) - i) (by omega) (by omega), w64_eq (n := (xs.length : Int) - 1) (by omega) (by omega), if_pos (by omega), if_pos (by omega), inB_nat hk1, chk_true,
      nchk_dec (by omega), w64_nat (by omega), tmod_nat, inB_nat (Nat.mod_lt _ (by omega)), chk_true, Int.toNat_natCast, Int.toNat_natCast]
    have e1 : xs.getD k (0, 0) = cyc xs k := (cyc_lt hk1).symm
    have e2 : xs.getD ((k + 1) % xs.length) (0, 0) = cyc xs (k + 1) := rfl
    have hm : ∀ j, Sm (cyc xs j) := fun j => hs _ (cyc_mem (by omega) j)
    rw [e1, e2, spec_pgMeet_eq (hm _) (hm _) (hm _) (hm _)]
    unfold bad23
    cases mt (cyc xs i) (cyc xs (i + 1)) (cyc xs k) (cyc xs (k + 1)) <;> simp) (fun n => stop n len (by omega) (by omega) (by omega)) (len - (i + 2)) LIMN (i + 2) (Nat.le_refl _) (by omega) (limn_lt (by omega))
  refine Eq.trans h ?_
  have : (∃ j, i + 2 ≤ j ∧ j < len ∧ bad23 xs i j) ↔ ∃ k, i + 2 ≤ k ∧ k < xs.length ∧ k - i < xs.length - 1 ∧ bad23 xs i k := by
    constructor
    · rintro ⟨j, h1, h2, h3⟩
      exact ⟨j, h1, by omega, by omega, h3⟩
    · rintro ⟨j, h1, h2, h3, h4⟩
      exact ⟨j, h1, by omega, h4⟩
  by_cases hx : ∃ k, i + 2 ≤ k ∧ k < xs.length ∧ k - i < xs.length - 1 ∧ bad23 xs i k
  · rw [if_pos hx, if_pos (this.2 hx)]
  · rw [if_neg hx, if_neg (fun h => hx (this.1 h))]
def bad17 (xs : List Pg) (i : Nat) : Prop := tur (cyc xs i) (cyc xs (i + 1)) (cyc xs (i + 2)) = 0 ∨ ∃ k, i + 2 ≤ k ∧ k < xs.length ∧ k - i < xs.length - 1 ∧ bad23 xs i k
theorem good_L17 (xs : List Pg) (hl : xs.length ≤ 10) (h3 : 3 ≤ xs.length) (hs : ∀ p ∈ xs, Sm p) (k0 : Bool → Option ρ) (k1 : Option ρ) :
    spec_pgGood_L17 LIMN xs (xs.length : Int) xs (xs.length : Int) 0 k0 k1 = if ∃ i, 0 ≤ i ∧ i < xs.length ∧ bad17 xs i then k0 false else k1 := by
  have hm : ∀ j, Sm (cyc xs j) := fun j => hs _ (cyc_mem (by omega) j)
  have h := search_loop (g := fun n i => spec_pgGood_L17 n xs (xs.length : Int) xs (xs.length : Int) (i : Int) k0 k1) (lo := 0) (len := xs.length) (c := bad17 xs) (A := k0 false) (B := k1) (by
    intro n i _ hi
    rw [spec_pgGood_L17_s]
    unfold spec_pgGood_R17
    have w2 : w64 ((i : Int) + 2) = ((i + 2 : Nat) : Int) := by rw [w64_eq (by omega) (by omega)]; omega
    rw [bif_dec, if_pos (by omega), inB_nat hi, chk_true, nchk_dec (by omega), w64_nat (by omega), tmod_nat, inB_nat (Nat.mod_lt _ (by omega)), chk_true, nchk_dec (by omega), w2, tmod_nat, inB_nat (Nat.mod_lt _ (by omega)), chk_true, Int.toNat_natCast, Int.toNat_natCast, Int.toNat_natCast]
    have e0 : xs.getD i (0, 0) = cyc xs i := (cyc_lt hi).symm
    have e1 : xs.getD ((i + 1) % xs.length) (0, 0) = cyc xs (i + 1) := rfl
    have e2 : xs.getD ((i + 2) % xs.length) (0, 0) = cyc xs (i + 2) := rfl
    rw [e0, e1, e2, spec_pgTurn_eq (hm _) (hm _) (hm _), bif_dec]
    by_cases ht : tur (cyc xs i) (cyc xs (i + 1)) (cyc xs (i + 2)) = 0
    · rw [if_pos ht, if_pos (.inl ht)]
    · rw [if_neg ht, good_L23 xs hl h3 hs i hi]
      by_cases hx : ∃ k, i + 2 ≤ k ∧ k < xs.length ∧ k - i < xs.length - 1 ∧ bad23 xs i k
      · rw [if_pos hx, if_pos (.inr hx)]
      · rw [if_neg hx, if_neg (by rintro (h | h); · exact ht h
                                  · exact hx h)]
        dsimp only
        rw [w64_nat (by omega)]) (by
    intro n
    rw [spec_pgGood_L17_s]
    unfold spec_pgGood_R17
    rw [bif_dec, if_neg (by omega)]) xs.length LIMN 0 (Nat.le_refl 0) (by omega) (limn_lt (by omega))
  exact h
theorem spec_pgGood_eq (xs : List Pg) (K : Bool → Option ρ) : spec_pgGood xs K = K (poly xs) := by
  unfold spec_pgGood
  rw [spec_l1In_eq]
  by_cases hl : 3 ≤ xs.length ∧ xs.length ≤ 10
  · rw [decide_eq_true (by omega)]
    simp only [Bool.not_true, cond_false]
    rw [good_L5 xs _ hl.2]
    by_cases h5 : ∃ i, 0 ≤ i ∧ i < xs.length ∧ bad5 xs i
    · rw [if_pos h5]
      have : poly xs = false := by
        unfold poly
        rw [decide_eq_false]
        rintro hp
        obtain ⟨i, _, hi, hb⟩ := h5
        rcases hb with hb | hb
        · have := hp.peg _ (getD_mem (d := ((0 : Int), (0 : Int))) hi)
          rw [hb] at this; simp at this
        · obtain ⟨j, hj, he⟩ := List.getElem_of_mem hb
          rw [List.getElem_take] at he
          have hj' : j < i := by simp at hj; omega
          exact hp.nodup i j hj' hi (by rw [getD_eq (by omega)]; exact he)
      rw [this]
    · rw [if_neg h5]
      have hpeg : ∀ p ∈ xs, inR p = true := by
        intro p hp
        obtain ⟨i, hi, rfl⟩ := List.getElem_of_mem hp
        cases hr : inR xs[i] with
        | true => rfl
        | false => exact (h5 ⟨i, by omega, hi, .inl (by rw [getD_eq hi]; exact hr)⟩).elim
      have hs : ∀ p ∈ xs, Sm p := fun p hp => inR_sm (hpeg p hp)
      rw [good_L17 xs hl.2 hl.1 hs]
      by_cases h17 : ∃ i, 0 ≤ i ∧ i < xs.length ∧ bad17 xs i
      · rw [if_pos h17]
        have : poly xs = false := by
          unfold poly
          rw [decide_eq_false]
          rintro hp
          obtain ⟨i, _, hi, hb⟩ := h17
          rcases hb with hb | ⟨k, a, b, c', d⟩
          · exact hp.turn i hi hb
          · have := hp.meet i k a b c'
            unfold bad23 at d
            rw [this] at d; simp at d
        rw [this]
      · rw [if_neg h17]
        have : poly xs = true := by
          unfold poly
          rw [decide_eq_true]
          refine ⟨hl.1, hl.2, hpeg, fun i j hj hi he => ?_, fun i hi he => h17 ⟨i, by omega, hi, .inl he⟩, fun i k a b c' => ?_⟩
          · refine h5 ⟨i, by omega, hi, .inr ?_⟩
            rw [← he]
            have : xs.getD j (0, 0) = (xs.take i).getD j (0, 0) := by
              rw [getD_eq (by omega), getD_eq (by simp; omega), List.getElem_take]
            rw [this]
            exact getD_mem (by simp; omega)
          · cases hm : mt (cyc xs i) (cyc xs (i + 1)) (cyc xs k) (cyc xs (k + 1)) with
            | false => rfl
            | true => exact (h17 ⟨i, by omega, by omega, .inr ⟨k, a, b, c', hm⟩⟩).elim
        rw [this]
  · rw [decide_eq_false (by omega)]
    simp only [Bool.not_false, cond_true]
    have : poly xs = false := by
      unfold poly
      rw [decide_eq_false]
      rintro hp
      exact hl ⟨hp.low, hp.high⟩
    rw [this]
end
end Go.Proofs.Ga

namespace Go.Proofs.Ga
open Go.VI
open Classical
theorem cyc_mod {xs : List Pg} (i : Nat) : cyc xs (i % xs.length) = cyc xs i := by unfold cyc; rw [Nat.mod_mod]
theorem cyc_step {xs : List Pg} (i m : Nat) : cyc xs (i % xs.length + m) = cyc xs (i + m) := by
  unfold cyc; rw [Nat.mod_add_mod]
theorem Poly.turn' {xs : List Pg} (h : Poly xs) (i : Nat) : tur (cyc xs i) (cyc xs (i + 1)) (cyc xs (i + 2)) ≠ 0 := by
  have := h.turn (i % xs.length) (Nat.mod_lt _ (by have := h.low; omega))
  rwa [cyc_mod, cyc_step, cyc_step] at this
section
variable {ρ : Type}
theorem tmod_cyc {i : Int} {n : Nat} (hn : 0 < n) (h1 : -1000000 ≤ i) (h2 : i ≤ 1000000) (hn2 : n ≤ 1000000) : Int.tmod (w64 (Int.tmod i (n : Int) + (n : Int))) (n : Int) = i % (n : Int) := by
  have hb1 := Int.tmod_lt_of_pos i (b := (n : Int)) (by omega)
  have hb2 : -(n : Int) < Int.tmod i (n : Int) := by
    have := Int.lt_tmod_of_pos i (b := (n : Int)) (by omega); omega
  rw [w64_eq (by omega) (by omega), Int.tmod_eq_emod_of_nonneg (by omega), Int.add_emod_right]
  have := Int.tmod_add_mul_tdiv i (n : Int)
  conv => rhs; rw [← this, Int.add_mul_emod_self_left]
theorem impl_at_eq (xs : List Pg) (hl : 0 < xs.length) (hl2 : xs.length ≤ 100) (i : Int) (h1 : -(xs.length : Int) ≤ i) (h2 : i ≤ 1000000) (K : Pg → Option ρ) : impl_at xs i K = K (cyc xs (i + xs.length).toNat) := by
  unfold impl_at
  have hm : i % (xs.length : Int) < xs.length := Int.emod_lt_of_pos _ (by omega)
  have hm0 : 0 ≤ i % (xs.length : Int) := Int.emod_nonneg _ (by omega)
  rw [nchk_dec (by omega), nchk_dec (by omega), tmod_cyc hl (by omega) h2 (by omega), inB_of hm0 hm, chk_true]
  congr 1
  unfold cyc
  congr 1
  have e : ((i + xs.length).toNat : Int) % xs.length = i % xs.length := by rw [Int.toNat_of_nonneg (by omega), Int.add_emod_right]
  omega
theorem impl_at_nat (xs : List Pg) (hl : 0 < xs.length) (hl2 : xs.length ≤ 100) (i : Nat) (h2 : i ≤ 1000000) (K : Pg → Option ρ) : impl_at xs (i : Int) K = K (cyc xs i) := by
  rw [impl_at_eq xs hl hl2 i (by omega) (by omega)]
  rw [show ((i : Int) + xs.length).toNat = i + xs.length by omega, cyc_add]
theorem contains_eq (xs : List Pg) (hl : xs.length < 1000) (v : Pg) (K : Bool → Option ρ) : slices_Contains_Peg xs v K = K (decide (v ∈ xs)) := by
  unfold slices_Contains_Peg slices_Index_Peg
  have h := search_loop (g := fun n i => slices_Index_Peg_L2 n xs v (xs.length : Int) (i : Int) (fun t4 => K (decide (t4 ≥ (0 : Int)))) (K (decide ((-1 : Int) ≥ 0)))) (lo := 0) (len := xs.length) (c := fun i => v = xs.getD i (0, 0)) (A := K true) (B := K false) (by
    intro n i _ hi
    rw [slices_Index_Peg_L2_s]
    unfold slices_Index_Peg_R2
    rw [bif_dec, if_pos (by omega), inB_nat hi, chk_true, Int.toNat_natCast, pair_dec, bif_dec, w64_nat (by omega)]
    by_cases hx : v = xs.getD i (0, 0)
    · rw [if_pos hx, if_pos hx]; rfl
    · rw [if_neg hx, if_neg hx]) (by
    intro n
    rw [slices_Index_Peg_L2_s]
    unfold slices_Index_Peg_R2
    rw [bif_dec, if_neg (by omega)]
    congr 1) xs.length LIMN 0 (Nat.le_refl 0) (by omega) (limn_lt (by omega))
  refine Eq.trans h ?_
  by_cases hv : v ∈ xs
  · rw [if_pos, decide_eq_true hv]
    obtain ⟨i, hi, rfl⟩ := List.getElem_of_mem hv
    exact ⟨i, by omega, hi, (getD_eq hi).symm⟩
  · rw [if_neg, decide_eq_false hv]
    rintro ⟨i, _, hi, he⟩
    exact hv (by rw [he]; exact getD_mem hi)
theorem arePegs_eq (xs : List Pg) (hl : xs.length < 1000000) (K : Bool → Option ρ) : impl_arePegs xs K = K (decide (∀ p ∈ xs, inR p = true)) := by
  unfold impl_arePegs slices_ContainsFunc_Peg_at_arePegs_1 slices_IndexFunc_Peg_at_arePegs_1
  have h := search_loop (g := fun n i => slices_IndexFunc_Peg_at_arePegs_1_L2 n xs (xs.length : Int) (i : Int) (fun t4 => K (!(decide (t4 ≥ (0 : Int))))) (K (!(decide ((-1 : Int) ≥ 0))))) (lo := 0) (len := xs.length) (c := fun i => inR (xs.getD i (0, 0)) = false) (A := K false) (B := K true) (by
    intro n i _ hi
    rw [slices_IndexFunc_Peg_at_arePegs_1_L2_s]
    unfold slices_IndexFunc_Peg_at_arePegs_1_R2 impl_arePegs_1
    rw [bif_dec, if_pos (by omega), inB_nat hi, chk_true, Int.toNat_natCast, impl_IsPeg_eq, w64_nat (by omega)]
    cases hr : inR (xs.getD i (0, 0)) with
    | false => simp
    | true => simp) (by
    intro n
    rw [slices_IndexFunc_Peg_at_arePegs_1_L2_s]
    unfold slices_IndexFunc_Peg_at_arePegs_1_R2
    rw [bif_dec, if_neg (by omega)]
    congr 1) xs.length LIMN 0 (Nat.le_refl 0) (by omega) (limn_lt (by omega))
  refine Eq.trans h ?_
  by_cases hv : ∀ p ∈ xs, inR p = true
  · rw [decide_eq_true hv, if_neg]
    rintro ⟨i, _, hi, he⟩
    rw [hv _ (getD_mem hi)] at he
    simp at he
  · rw [decide_eq_false hv, if_pos]
    rw [Classical.not_forall] at hv
    obtain ⟨p, hp⟩ := hv
    rw [Classical.not_imp] at hp
    obtain ⟨i, hi, rfl⟩ := List.getElem_of_mem hp.1
    exact ⟨i, by omega, hi, by rw [getD_eq hi]; simpa using hp.2⟩
def bad10 (xs : List Pg) (i k : Nat) : Prop := k + 1 ≠ i ∧ ¬ (i + 1 = xs.length ∧ k = 0) ∧ mt (cyc xs k) (cyc xs (k + 1)) (cyc xs i) (cyc xs (i + 1)) = true
theorem isPoly_L10 (xs : List Pg) (hl : xs.length ≤ 10) (h3 : 3 ≤ xs.length) (hs : ∀ p ∈ xs, Sm p) (i : Nat) (hi : i < xs.length) (t17 : List Pg) (t18 t19 : Int) (k0 : List Pg → Bool → Int → List Pg → Int → Int → Option ρ) (k1 : List Pg → Int → List Pg → Int → Int → Option ρ) :
    impl_IsPolygon_L10 LIMN xs (xs.length : Int) (i : Int) (cyc xs i) t17 t18 t19 (i : Int) 0 k0 k1 =
      if ∃ k, 0 ≤ k ∧ k < i ∧ bad10 xs i k then k0 xs false (xs.length : Int) t17 t18 t19 else k1 xs (xs.length : Int) t17 t18 t19 := by
  have hm : ∀ j, Sm (cyc xs j) := fun j => hs _ (cyc_mem (by omega) j)
  have h := search_loop (g := fun n k => impl_IsPolygon_L10 n xs (xs.length : Int) (i : Int) (cyc xs i) t17 t18 t19 (i : Int) (k : Int) k0 k1) (lo := 0) (len := i) (c := bad10 xs i) (A := k0 xs false (xs.length : Int) t17 t18 t19) (B := k1 xs (xs.length : Int) t17 t18 t19) (by
    intro n k _ hk
    rw [impl_IsPolygon_L10_s]
    unfold impl_IsPolygon_R10
    rw [bif_dec, if_pos (by omega), bif_dec, bif_dec, bif_dec, w64_nat (by omega), w64_nat (by omega)]
    by_cases h1 : k + 1 = i
    · rw [if_pos (by omega), if_neg (fun h => h.1 h1)]
    · rw [if_neg (by omega)]
      have e1 : xs.getD k (0, 0) = cyc xs k := (cyc_lt (by omega)).symm
      have e2 : xs.getD (k + 1) (0, 0) = cyc xs (k + 1) := (cyc_lt (by omega)).symm
      have fin : (chk (inB (k : Int) xs.length) <| chk (inB ((k + 1 : Nat) : Int) xs.length) <| impl_at xs ((i + 1 : Nat) : Int) fun r => impl_meet (xs.getD (Int.toNat (k : Int)) (0, 0)) (xs.getD (Int.toNat ((k + 1 : Nat) : Int)) (0, 0)) (cyc xs i) r fun r1 =>
          bif r1 then k0 xs false (xs.length : Int) t17 t18 t19 else impl_IsPolygon_L10 n xs (xs.length : Int) (i : Int) (cyc xs i) t17 t18 t19 (i : Int) ((k + 1 : Nat) : Int) k0 k1) =
          if mt (cyc xs k) (cyc xs (k + 1)) (cyc xs i) (cyc xs (i + 1)) = true then k0 xs false (xs.length : Int) t17 t18 t19 else impl_IsPolygon_L10 n xs (xs.length : Int) (i : Int) (cyc xs i) t17 t18 t19 (i : Int) ((k + 1 : Nat) : Int) k0 k1 := by
        rw [inB_nat (by omega), inB_nat (by omega), chk_true, chk_true, impl_at_nat xs (by omega) (by omega) _ (by omega), Int.toNat_natCast, Int.toNat_natCast, e1, e2, impl_meet_eq (hm _) (hm _) (hm _) (hm _)]
        cases mt (cyc xs k) (cyc xs (k + 1)) (cyc xs i) (cyc xs (i + 1)) <;> simp
      by_cases h2 : i + 1 = xs.length
      · rw [if_pos (by omega)]
        by_cases h3 : k = 0
        · rw [if_pos (by omega), if_neg (fun h => h.2.1 ⟨h2, h3⟩)]
        · rw [if_neg (by omega)]
          refine fin.trans ?_
          by_cases hx : mt (cyc xs k) (cyc xs (k + 1)) (cyc xs i) (cyc xs (i + 1)) = true
          · rw [if_pos hx, if_pos ⟨h1, fun h => h3 h.2, hx⟩]
          · rw [if_neg hx, if_neg (fun h => hx h.2.2)]
      · rw [if_neg (by omega)]
        refine fin.trans ?_
        by_cases hx : mt (cyc xs k) (cyc xs (k + 1)) (cyc xs i) (cyc xs (i + 1)) = true
        · rw [if_pos hx, if_pos ⟨h1, fun h => h2 h.1, hx⟩]
        · rw [if_neg hx, if_neg (fun h => hx h.2.2)]) (by
    intro n
    rw [impl_IsPolygon_L10_s]
    unfold impl_IsPolygon_R10
    rw [bif_dec, if_neg (by omega)]) i LIMN 0 (Nat.le_refl 0) (by omega) (limn_lt (by omega))
  exact h
def badI (xs : List Pg) (i : Nat) : Prop := xs.getD i (0, 0) ∈ xs.take i ∨ tur (cyc xs (i + xs.length - 1)) (cyc xs i) (cyc xs (i + 1)) = 0 ∨ ∃ k, 0 ≤ k ∧ k < i ∧ bad10 xs i k
theorem isPoly_L5 (xs : List Pg) (hl : xs.length ≤ 10) (h3 : 3 ≤ xs.length) (hs : ∀ p ∈ xs, Sm p) (k0 : Bool → Option ρ) (k1 : Option ρ) :
    impl_IsPolygon_L5 LIMN xs (xs.length : Int) xs (xs.length : Int) 0 k0 k1 = if ∃ i, 0 ≤ i ∧ i < xs.length ∧ badI xs i then k0 false else k1 := by
  have hm : ∀ j, Sm (cyc xs j) := fun j => hs _ (cyc_mem (by omega) j)
  have h := search_loop (g := fun n i => impl_IsPolygon_L5 n xs (xs.length : Int) xs (xs.length : Int) (i : Int) k0 k1) (lo := 0) (len := xs.length) (c := badI xs) (A := k0 false) (B := k1) (by
    intro n i _ hi
    rw [impl_IsPolygon_L5_s]
    unfold impl_IsPolygon_R5
    have wm : w64 ((i : Int) - 1) = (i : Int) - 1 := w64_eq (by omega) (by omega)
    rw [bif_dec, if_pos (by omega), inB_nat hi, chk_true, show (decide ((0 : Int) ≤ (i : Int)) && decide ((i : Int) ≤ (xs.length : Int))) = true by simp; omega, chk_true, Int.toNat_natCast, contains_eq _ (by simp; omega), wm, w64_nat (by omega)]
    by_cases hc : xs.getD i (0, 0) ∈ xs.take i
    · rw [decide_eq_true hc, if_pos (.inl hc)]; rfl
    · rw [decide_eq_false hc]
      simp only [cond_false]
      rw [impl_at_eq xs (by omega) (by omega) _ (by omega) (by omega), impl_at_nat xs (by omega) (by omega) _ (by omega), show ((i : Int) - 1 + xs.length).toNat = i + xs.length - 1 by omega]
      have e0 : xs.getD i (0, 0) = cyc xs i := (cyc_lt hi).symm
      rw [e0, impl_turn_eq (hm _) (hm _) (hm _), bif_dec]
      by_cases ht : tur (cyc xs (i + xs.length - 1)) (cyc xs i) (cyc xs (i + 1)) = 0
      · rw [if_pos ht, if_pos (.inr (.inl ht))]
      · rw [if_neg ht, isPoly_L10 xs hl h3 hs i hi]
        by_cases hx : ∃ k, 0 ≤ k ∧ k < i ∧ bad10 xs i k
        · rw [if_pos hx, if_pos (.inr (.inr hx))]
        · rw [if_neg hx, if_neg (by rintro (h | h | h); · exact hc h
                                    · exact ht h
                                    · exact hx h), w64_nat (by omega)]) (by
    intro n
    rw [impl_IsPolygon_L5_s]
    unfold impl_IsPolygon_R5
    rw [bif_dec, if_neg (by omega)]) xs.length LIMN 0 (Nat.le_refl 0) (by omega) (limn_lt (by omega))
  exact h
theorem impl_IsPolygon_eq (xs : List Pg) (K : Bool → Option ρ) : impl_IsPolygon xs K = K (poly xs) := by
  unfold impl_IsPolygon
  rw [impl_within_eq]
  by_cases hl : 3 ≤ xs.length ∧ xs.length ≤ 10
  · rw [decide_eq_true (by omega)]
    simp only [Bool.not_true, cond_false]
    rw [arePegs_eq xs (by omega)]
    by_cases hpeg : ∀ p ∈ xs, inR p = true
    · rw [decide_eq_true hpeg]
      simp only [Bool.not_true, cond_false]
      have hs : ∀ p ∈ xs, Sm p := fun p hp => inR_sm (hpeg p hp)
      rw [isPoly_L5 xs hl.2 hl.1 hs]
      by_cases hb : ∃ i, 0 ≤ i ∧ i < xs.length ∧ badI xs i
      · rw [if_pos hb]
        have : poly xs = false := by
          unfold poly
          rw [decide_eq_false]
          intro hp
          obtain ⟨i, _, hi, hb | hb | ⟨k, _, hk, h1, h2, h3⟩⟩ := hb
          · obtain ⟨j, hj, he⟩ := List.getElem_of_mem hb
            rw [List.getElem_take] at he
            have hj' : j < i := by simp at hj; omega
            exact hp.nodup i j hj' hi (by rw [getD_eq (by omega)]; exact he)
          · have := hp.turn' (i + xs.length - 1)
            rw [show i + xs.length - 1 + 1 = i + xs.length by omega, show i + xs.length - 1 + 2 = i + 1 + xs.length by omega, cyc_add, cyc_add] at this
            exact this hb
          · have := hp.meet k i (by omega) hi (by omega)
            rw [this] at h3; simp at h3
        rw [this]
      · rw [if_neg hb]
        have : poly xs = true := by
          unfold poly
          rw [decide_eq_true]
          refine ⟨hl.1, hl.2, hpeg, fun i j hj hi he => ?_, fun i hi he => ?_, fun i k a b c => ?_⟩
          · refine hb ⟨i, by omega, hi, .inl ?_⟩
            rw [← he]
            have : xs.getD j (0, 0) = (xs.take i).getD j (0, 0) := by
              rw [getD_eq (by omega), getD_eq (by simp; omega), List.getElem_take]
            rw [this]
            exact getD_mem (by simp; omega)
          · refine hb ⟨(i + 1) % xs.length, by omega, Nat.mod_lt _ (by omega), .inr (.inl ?_)⟩
            have e1 : cyc xs ((i + 1) % xs.length + xs.length - 1) = cyc xs i := by
              have : (i + 1) % xs.length + xs.length - 1 = (i + 1) % xs.length + (xs.length - 1) := by omega
              rw [this, cyc_step, show i + 1 + (xs.length - 1) = i + xs.length by omega, cyc_add]
            rw [e1, cyc_mod, cyc_step]
            exact he
          · cases hm : mt (cyc xs i) (cyc xs (i + 1)) (cyc xs k) (cyc xs (k + 1)) with
            | false => rfl
            | true => exact (hb ⟨k, by omega, b, .inr (.inr ⟨i, by omega, by omega, by omega, by omega, hm⟩)⟩).elim
        rw [this]
    · rw [decide_eq_false hpeg]
      simp only [Bool.not_false, cond_true]
      have : poly xs = false := by
        unfold poly
        rw [decide_eq_false]
        exact fun hp => hpeg hp.peg
      rw [this]
  · rw [decide_eq_false (by omega)]
    simp only [Bool.not_false, cond_true]
    have : poly xs = false := by
      unfold poly
      rw [decide_eq_false]
      rintro hp
      exact hl ⟨hp.low, hp.high⟩
    rw [this]
end
end Go.Proofs.Ga

namespace Go.Proofs.Ga
open Go.VI
open Classical
section
variable {ρ : Type}
theorem spec_l1Most_eq (a b : Int) (K : Int → Option ρ) : spec_l1Most a b K = K (max a b) := by
  unfold spec_l1Most
  rw [bif_dec]
  by_cases h : a > b
  · rw [if_pos h]; congr 1; omega
  · rw [if_neg h]; congr 1; omega
theorem spec_l1Least_eq (a b : Int) (K : Int → Option ρ) : spec_l1Least a b K = K (min a b) := by
  unfold spec_l1Least
  rw [bif_dec]
  by_cases h : a < b
  · rw [if_pos h]; congr 1; omega
  · rw [if_neg h]; congr 1; omega
theorem spec_l1Abs_eq {n : Int} (h1 : -9223372036854775807 ≤ n) (h2 : n ≤ 9223372036854775807) (K : Int → Option ρ) : spec_l1Abs n K = K (n.natAbs : Int) := by
  unfold spec_l1Abs
  rw [spec_l1Most_eq, w64_eq (by omega) (by omega)]
  congr 1; omega
theorem impl_size_eq {n : Int} (h1 : -9223372036854775807 ≤ n) (h2 : n ≤ 9223372036854775807) (K : Int → Option ρ) : impl_size n K = K (n.natAbs : Int) := by
  unfold impl_size
  rw [w64_eq (by omega) (by omega)]
  congr 1; omega
theorem common_L3 (k0 : Int → Option ρ) : ∀ (b : Nat) (n a : Nat), b < n → spec_pgCommon_L3 n (a : Int) (b : Int) k0 = k0 (Nat.gcd a b : Nat) := by
  intro b
  induction b using Nat.strongRecOn with
  | _ b ih =>
    intro n a hn
    obtain ⟨m, rfl⟩ : ∃ m, n = m + 1 := ⟨n - 1, by omega⟩
    rw [spec_pgCommon_L3_s]
    unfold spec_pgCommon_R3
    rw [bif_dec]
    by_cases hb : b = 0
    · subst hb
      rw [if_neg (by omega)]; simp
    · rw [if_pos (by omega), nchk_dec (by omega), tmod_nat]
      have := ih (a % b) (Nat.mod_lt _ (by omega)) m b (by have := Nat.mod_lt a (show b > 0 by omega); omega)
      refine this.trans ?_
      congr 2
      rw [Nat.gcd_comm a b, Nat.gcd_rec b a, Nat.gcd_comm]
theorem spec_pgCommon_eq {a b : Int} (h1 : a.natAbs < 1000000000000) (h2 : b.natAbs < 1000000000000) (K : Int → Option ρ) : spec_pgCommon a b K = K (Int.gcd a b : Int) := by
  unfold spec_pgCommon
  rw [spec_l1Abs_eq (by omega) (by omega), spec_l1Abs_eq (by omega) (by omega), common_L3 _ b.natAbs LIMN a.natAbs (limn_lt (by omega))]
  rfl
theorem divisor_L1 (K : Int → Option ρ) : ∀ (m : Nat) (n : Nat) (a b : Int), b.natAbs = m → m < n → a.natAbs < 1000000000000 → m < 1000000000000 → impl_divisor_L1 n a b (fun a1 => impl_size a1 K) = K (Int.gcd a b : Int) := by
  intro m
  induction m using Nat.strongRecOn with
  | _ m ih =>
    intro n a b hb hn ha hm
    obtain ⟨n, rfl⟩ : ∃ k, n = k + 1 := ⟨n - 1, by omega⟩
    rw [impl_divisor_L1_s]
    unfold impl_divisor_R1
    rw [bif_ndec]
    by_cases h0 : b = 0
    · rw [if_pos h0]
      show impl_size a K = _
      rw [impl_size_eq (by omega) (by omega)]
      subst h0
      simp
    · rw [if_neg h0, nchk_dec h0]
      have hlt : (Int.tmod a b).natAbs < m := by rw [Int.natAbs_tmod, ← hb]; exact Nat.mod_lt _ (by omega)
      have := ih _ hlt n b (Int.tmod a b) rfl (by omega) (by omega) (by omega)
      refine this.trans ?_
      congr 2
      unfold Int.gcd
      rw [Int.natAbs_tmod, Nat.gcd_comm a.natAbs, Nat.gcd_rec b.natAbs a.natAbs, Nat.gcd_comm]
theorem impl_divisor_eq {a b : Int} (h1 : a.natAbs < 1000000000000) (h2 : b.natAbs < 1000000000000) (K : Int → Option ρ) : impl_divisor a b K = K (Int.gcd a b : Int) := by
  unfold impl_divisor
  exact divisor_L1 K b.natAbs LIMN a b rfl (limn_lt (by omega)) h1 h2
/-! ### values and widths -/
def val (d p : Pg) : Int := d.1 * p.1 + d.2 * p.2
theorem val_bd {d p : Pg} (hd : Sm d) (hp : Sm p) : -20000000000 ≤ val d p ∧ val d p ≤ 20000000000 := by
  unfold Sm at *
  have h1 := mul_bd (a := d.1) (b := p.1) (A := 100000) (B := 100000) (by omega) (by omega) (by omega) (by omega)
  have h2 := mul_bd (a := d.2) (b := p.2) (A := 100000) (B := 100000) (by omega) (by omega) (by omega) (by omega)
  unfold val; omega
theorem val_w64 {d p : Pg} (hd : Sm d) (hp : Sm p) : w64 ((w64 (d.1 * p.1)) + (w64 (d.2 * p.2))) = val d p := by
  unfold Sm at *
  have h1 := mul_bd (a := d.1) (b := p.1) (A := 100000) (B := 100000) (by omega) (by omega) (by omega) (by omega)
  have h2 := mul_bd (a := d.2) (b := p.2) (A := 100000) (B := 100000) (by omega) (by omega) (by omega) (by omega)
  rw [w64_eq (n := d.1 * p.1) (by omega) (by omega), w64_eq (n := d.2 * p.2) (by omega) (by omega), w64_eq (by omega) (by omega)]
  rfl
def rngF (d : Pg) (xs : List Pg) (i : Nat) (s : Int × Int) : Int × Int := (min s.1 (val d (xs.getD i (0, 0))), max s.2 (val d (xs.getD i (0, 0))))
/-- The least and the greatest value. -/
def rng (d : Pg) (xs : List Pg) : Int × Int := itr (rngF d xs) 0 xs.length (val d (xs.getD 0 (0, 0)), val d (xs.getD 0 (0, 0)))
def wd (d : Pg) (xs : List Pg) : Int := (rng d xs).2 - (rng d xs).1
theorem itr_inv {σ : Type} {f : Nat → σ → σ} {len : Nat} (I : Nat → σ → Prop) (h : ∀ i s, i < len → I i s → I (i + 1) (f i s)) : ∀ m i s, i + m = len → I i s → I len (itr f i m s)
  | 0, i, s, hi, hs => by
    have : i = len := by omega
    subst this
    exact hs
  | m + 1, i, s, hi, hs => itr_inv I h m (i + 1) (f i s) (by omega) (h i s (by omega) hs)
theorem rng_spec {d : Pg} {xs : List Pg} (hl : 0 < xs.length) : (∀ i, i < xs.length → (rng d xs).1 ≤ val d (xs.getD i (0, 0)) ∧ val d (xs.getD i (0, 0)) ≤ (rng d xs).2) ∧ (∃ i, i < xs.length ∧ (rng d xs).1 = val d (xs.getD i (0, 0))) ∧ (∃ i, i < xs.length ∧ (rng d xs).2 = val d (xs.getD i (0, 0))) := by
  have := itr_inv (f := rngF d xs) (len := xs.length) (fun j s => (∀ i, i < j → s.1 ≤ val d (xs.getD i (0, 0)) ∧ val d (xs.getD i (0, 0)) ≤ s.2) ∧ (∃ i, i < xs.length ∧ s.1 = val d (xs.getD i (0, 0))) ∧ (∃ i, i < xs.length ∧ s.2 = val d (xs.getD i (0, 0)))) (by
    rintro j s hj ⟨h1, ⟨i1, h2, h3⟩, ⟨i2, h4, h5⟩⟩
    refine ⟨fun i hi => ?_, ?_, ?_⟩
    · unfold rngF
      dsimp only
      rcases Nat.lt_or_ge i j with h | h
      · have := h1 i h; omega
      · have : i = j := by omega
        subst this
        omega
    · unfold rngF
      dsimp only
      by_cases h : s.1 ≤ val d (xs.getD j (0, 0))
      · exact ⟨i1, h2, by omega⟩
      · exact ⟨j, hj, by omega⟩
    · unfold rngF
      dsimp only
      by_cases h : val d (xs.getD j (0, 0)) ≤ s.2
      · exact ⟨i2, h4, by omega⟩
      · exact ⟨j, hj, by omega⟩) xs.length 0 (val d (xs.getD 0 (0, 0)), val d (xs.getD 0 (0, 0))) (by omega) ⟨fun i hi => by omega, ⟨0, hl, rfl⟩, ⟨0, hl, rfl⟩⟩
  exact this
theorem rng_bd {d : Pg} {xs : List Pg} (hl : 0 < xs.length) (hd : Sm d) (hs : ∀ p ∈ xs, Sm p) : -20000000000 ≤ (rng d xs).1 ∧ (rng d xs).1 ≤ 20000000000 ∧ -20000000000 ≤ (rng d xs).2 ∧ (rng d xs).2 ≤ 20000000000 := by
  obtain ⟨_, ⟨i, hi, h1⟩, ⟨j, hj, h2⟩⟩ := rng_spec (d := d) hl
  have a := val_bd hd (hs _ (getD_mem (d := ((0 : Int), (0 : Int))) hi))
  have b := val_bd hd (hs _ (getD_mem (d := ((0 : Int), (0 : Int))) hj))
  omega
theorem spec_wiRange_eq {d : Pg} {xs : List Pg} (hl : 0 < xs.length) (hl2 : xs.length < 1000000) (hd : Sm d) (hs : ∀ p ∈ xs, Sm p) (K : Int → Int → Option ρ) : spec_wiRange xs d.1 d.2 K = K (rng d xs).1 (rng d xs).2 := by
  unfold spec_wiRange
  rw [inB_of (by omega) (by omega), chk_true, chk_true, val_w64 hd (hs _ (getD_mem hl))]
  have h := fold_loop (σ := Int × Int) (g := fun n i s => spec_wiRange_L4 n d.1 d.2 s.1 s.2 xs (xs.length : Int) (i : Int) K) (len := xs.length) (f := rngF d xs) (I := fun _ _ => True) (K := fun s => K s.1 s.2) (by
    intro n i s hi _
    rw [spec_wiRange_L4_s]
    unfold spec_wiRange_R4
    rw [bif_dec, if_pos (by omega), inB_nat hi, chk_true, Int.toNat_natCast, val_w64 hd (hs _ (getD_mem hi)), spec_l1Least_eq, spec_l1Most_eq, w64_nat (by omega)]
    rfl) (fun _ _ _ _ => trivial) (by
    intro n s _
    rw [spec_wiRange_L4_s]
    unfold spec_wiRange_R4
    rw [bif_dec, if_neg (by omega)]) xs.length LIMN 0 (val d (xs.getD 0 (0, 0)), val d (xs.getD 0 (0, 0))) (by omega) (limn_lt (by omega)) trivial
  exact h
theorem impl_extent_eq {d : Pg} {xs : List Pg} (hl : 0 < xs.length) (hl2 : xs.length < 1000000) (hd : Sm d) (hs : ∀ p ∈ xs, Sm p) (K : Int → Int → Option ρ) : impl_extent xs d K = K (rng d xs).1 (rng d xs).2 := by
  unfold impl_extent impl_value
  rw [inB_of (by omega) (by omega), chk_true, val_w64 hd (hs _ (getD_mem hl))]
  have h := fold_loop (σ := Int × Int) (g := fun n i s => impl_extent_L4 n d s.1 s.2 xs (xs.length : Int) (i : Int) K) (len := xs.length) (f := rngF d xs) (I := fun _ _ => True) (K := fun s => K s.1 s.2) (by
    intro n i s hi _
    rw [impl_extent_L4_s]
    unfold impl_extent_R4 impl_value
    rw [bif_dec, if_pos (by omega), inB_nat hi, chk_true, Int.toNat_natCast, val_w64 hd (hs _ (getD_mem hi)), w64_nat (by omega)]
    rfl) (fun _ _ _ _ => trivial) (by
    intro n s _
    rw [impl_extent_L4_s]
    unfold impl_extent_R4
    rw [bif_dec, if_neg (by omega)]) xs.length LIMN 0 (val d (xs.getD 0 (0, 0)), val d (xs.getD 0 (0, 0))) (by omega) (limn_lt (by omega)) trivial
  exact h
theorem spec_wiWidth_eq {u v : Int} {xs : List Pg} (hl : 0 < xs.length) (hl2 : xs.length < 1000000) (hd : Sm (u, v)) (hs : ∀ p ∈ xs, Sm p) (K : Int → Option ρ) : spec_wiWidth xs u v K = K (wd (u, v) xs) := by
  unfold spec_wiWidth
  have hb := rng_bd hl hd hs
  rw [spec_wiRange_eq (d := (u, v)) hl hl2 hd hs, w64_eq (by omega) (by omega)]
  rfl
theorem impl_width_eq {d : Pg} {xs : List Pg} (hl : 0 < xs.length) (hl2 : xs.length < 1000000) (hd : Sm d) (hs : ∀ p ∈ xs, Sm p) (K : Int → Option ρ) : impl_width xs d K = K (wd d xs) := by
  unfold impl_width
  have hb := rng_bd hl hd hs
  rw [impl_extent_eq hl hl2 hd hs, w64_eq (by omega) (by omega)]
  rfl
end
end Go.Proofs.Ga

namespace Go.Proofs.Ga
open Go.VI Go.Sort
open Classical
/-! ### the order -/
def leP (p q : Pg) : Prop := ltP q p = false
theorem leP_antisymm {p q : Pg} (h1 : leP p q) (h2 : leP q p) : p = q := by
  unfold leP at *
  rw [ltP_false] at *
  exact Prod.ext (by omega) (by omega)
theorem leP_trans {p q r : Pg} (h1 : leP p q) (h2 : leP q r) : leP p r := by
  unfold leP at *
  rw [ltP_false] at *
  omega
theorem leP_of_lt {p q : Pg} (h : ltP p q = true) : leP p q := by
  unfold leP
  rw [ltP_iff] at h
  rw [ltP_false]; omega
theorem leP_refl (p : Pg) : leP p p := swo_ltP.irrefl p
/-- Two sorted lists of the same things are one list. -/
theorem sorted_perm_eq : ∀ {xs ys : List Pg}, xs.Perm ys → xs.Pairwise leP → ys.Pairwise leP → xs = ys
  | [], ys, h, _, _ => by
    have := h.length_eq
    cases ys with
    | nil => rfl
    | cons _ _ => simp at this
  | x :: xs, ys, h, h1, h2 => by
    cases ys with
    | nil => have := h.length_eq; simp at this
    | cons y ys =>
      rw [List.pairwise_cons] at h1 h2
      have e : x = y := by
        have hx : x ∈ y :: ys := h.subset (List.mem_cons_self ..)
        have hy : y ∈ x :: xs := h.symm.subset (List.mem_cons_self ..)
        rcases List.mem_cons.1 hx with e | hx
        · exact e
        · rcases List.mem_cons.1 hy with e | hy
          · exact e.symm
          · exact leP_antisymm (h1.1 _ hy) (h2.1 _ hx)
      subst e
      rw [sorted_perm_eq (List.Perm.cons_inv h) h1.2 h2.2]
theorem sortBy_spec (xs : List Pg) : (sortBy cf_impl_comparePegs xs).Perm xs ∧ (sortBy cf_impl_comparePegs xs).Pairwise leP := by
  unfold sortBy
  rw [ltOf_cf]
  have h := pdq_sorts ltP swo_ltP xs.toArray 0 xs.length (Lib.bitLen xs.length) true true (Nat.zero_le _) (by simp) (Or.inl rfl)
  obtain ⟨⟨hs, _, hp⟩, hsort⟩ := h
  generalize hd : pdq ltP xs.toArray 0 xs.length (Lib.bitLen xs.length) true true = d' at hs hp hsort ⊢
  simp at hs
  constructor
  · have e1 : (d'.extract 0 xs.length).toList = d'.toList := by rw [← hs]; simp
    have e2 : (xs.toArray.extract 0 xs.length).toList = xs := by simp
    rw [e1, e2] at hp
    exact hp
  · rw [List.pairwise_iff_getElem]
    intro i j hi hj hij
    have := hsort i j (by omega) hij (by simpa [hs] using hj)
    unfold leP
    simp at hi hj
    rw [getElem!_pos d' j (by omega), getElem!_pos d' i (by omega)] at this
    simpa using this
theorem sortBy_eq {xs ys : List Pg} (hp : ys.Perm xs) (hs : ys.Pairwise leP) : sortBy cf_impl_comparePegs xs = ys :=
  sorted_perm_eq ((sortBy_spec xs).1.trans hp.symm) (sortBy_spec xs).2 hs
/-! ### putting into its place -/
def pos (d : Pg) (L : List Pg) : Nat → Nat
  | 0 => 0
  | k + 1 => if ltP d (L.getD k (0, 0)) = true then pos d L k else k + 1
theorem pos_le (d : Pg) (L : List Pg) : ∀ k, pos d L k ≤ k
  | 0 => Nat.le_refl _
  | k + 1 => by
    unfold pos
    split
    · exact Nat.le_succ_of_le (pos_le d L k)
    · exact Nat.le_refl _
theorem pos_above (d : Pg) (L : List Pg) : ∀ k j, pos d L k ≤ j → j < k → ltP d (L.getD j (0, 0)) = true
  | 0, j, _, h => by omega
  | k + 1, j, h, h2 => by
    unfold pos at h
    split at h
    · rename_i hc
      rcases Nat.lt_or_ge j k with hk | hk
      · exact pos_above d L k j h hk
      · have : j = k := by omega
        subst this
        exact hc
    · omega
theorem pos_below (d : Pg) (L : List Pg) : ∀ k, 0 < pos d L k → ltP d (L.getD (pos d L k - 1) (0, 0)) = false
  | 0, h => by simp [pos] at h
  | k + 1, h => by
    unfold pos at *
    split
    · rename_i hc
      rw [if_pos hc] at h
      exact pos_below d L k h
    · rename_i hc
      simpa using hc
def ins (d : Pg) (L : List Pg) : List Pg := L.take (pos d L L.length) ++ [d] ++ L.drop (pos d L L.length)
theorem ins_perm (d : Pg) (L : List Pg) : (ins d L).Perm (d :: L) := by
  unfold ins
  have h : (L.take (pos d L L.length) ++ d :: L.drop (pos d L L.length)).Perm (d :: (L.take (pos d L L.length) ++ L.drop (pos d L L.length))) := List.perm_middle
  rw [List.take_append_drop] at h
  simpa using h
theorem ins_sorted (d : Pg) {L : List Pg} (h : L.Pairwise leP) : (ins d L).Pairwise leP := by
  unfold ins
  have hle := pos_le d L L.length
  have hlow : ∀ p ∈ L.take (pos d L L.length), leP p d := by
    intro p hp
    obtain ⟨i, hi, rfl⟩ := List.getElem_of_mem hp
    rw [List.getElem_take]
    rw [List.length_take] at hi
    have h1 := pos_below d L L.length (by omega)
    rw [getD_eq (by omega)] at h1
    rcases Nat.lt_or_ge i (pos d L L.length - 1) with hlt | hge
    · exact leP_trans (List.pairwise_iff_getElem.1 h i (pos d L L.length - 1) (by omega) (by omega) hlt) h1
    · have : i = pos d L L.length - 1 := by omega
      subst this
      exact h1
  have hhigh : ∀ p ∈ L.drop (pos d L L.length), leP d p := by
    intro p hp
    obtain ⟨i, hi, rfl⟩ := List.getElem_of_mem hp
    rw [List.getElem_drop]
    rw [List.length_drop] at hi
    have h1 := pos_above d L L.length (pos d L L.length + i) (by omega) (by omega)
    rw [getD_eq (by omega)] at h1
    exact leP_of_lt h1
  rw [List.append_assoc, List.pairwise_append]
  refine ⟨h.take, ?_, ?_⟩
  · rw [List.singleton_append, List.pairwise_cons]
    exact ⟨hhigh, h.drop⟩
  · intro p hp q hq
    rw [List.singleton_append, List.mem_cons] at hq
    rcases hq with rfl | hq
    · exact hlow p hp
    · exact leP_trans (hlow p hp) (hhigh q hq)
def pr (p : Pg) : List Int := [p.1, p.2]
theorem getD_map {α β : Type} {f : α → β} {L : List α} {k : Nat} (h : k < L.length) (a : α) (b : β) : (L.map f).getD k b = f (L.getD k a) := by
  rw [getD_eq (by simpa using h), getD_eq h]; simp
section
variable {ρ : Type}
theorem all_L16 (xs : List Pg) (most : Int) (a b : Pg) (area : Int) (L : List Pg) (hL : L.length < 1000000) (m nv : Int) (d : Pg) (k0 : List Pg → Int → Pg → Pg → Int → List (List Int) → Int → Int → Int → Int → Int → Option ρ) :
    ∀ k n, k < n → k ≤ L.length → spec_wiAll_L16 n xs most a b area (L.map pr) m nv d.1 d.2 (k : Int) k0 = k0 xs most a b area (L.map pr) m nv d.1 d.2 (pos d L k : Int)
  | k, 0, h, _ => by omega
  | 0, n + 1, _, _ => by
    rw [spec_wiAll_L16_s]
    unfold spec_wiAll_R16
    rw [bif_dec, if_neg (by omega)]; rfl
  | k + 1, n + 1, hn, hk => by
    rw [spec_wiAll_L16_s]
    unfold spec_wiAll_R16
    have e : w64 (((k + 1 : Nat) : Int) - 1) = (k : Int) := by rw [w64_eq (by omega) (by omega)]; omega
    have ih := all_L16 xs most a b area L hL m nv d k0 k n (by omega) (by omega)
    have hb : inB (k : Int) (L.map pr).length = true := inB_nat (by simp; omega)
    have h0 : inB (0 : Int) (pr (L.getD k (0, 0))).length = true := inB_of (by omega) (by simp [pr])
    have h1 : inB (1 : Int) (pr (L.getD k (0, 0))).length = true := inB_of (by omega) (by simp [pr])
    have hg : (L.map pr).getD k [] = pr (L.getD k (0, 0)) := getD_map (by omega) _ _
    have g0 : (pr (L.getD k (0, 0))).getD 0 0 = (L.getD k (0, 0)).1 := rfl
    have g1 : (pr (L.getD k (0, 0))).getD 1 0 = (L.getD k (0, 0)).2 := rfl
    rw [e, bif_dec, if_pos (by omega), hb, chk_true, Int.toNat_natCast, hg, h0, chk_true, bif_dec, chk_true, chk_true, bif_dec, chk_true, h1, chk_true, bif_dec, g0, g1]
    dsimp only
    rw [ih, show pos d L (k + 1) = if ltP d (L.getD k (0, 0)) = true then pos d L k else k + 1 from rfl]
    by_cases c1 : d.1 < (L.getD k (0, 0)).1
    · rw [if_pos c1, if_pos (ltP_iff.2 (.inl c1))]
    · rw [if_neg c1]
      by_cases c2 : d.1 = (L.getD k (0, 0)).1
      · rw [if_pos c2]
        by_cases c3 : d.2 < (L.getD k (0, 0)).2
        · rw [if_pos c3, if_pos (ltP_iff.2 (.inr ⟨c2, c3⟩))]
        · rw [if_neg c3, if_neg (by rw [ltP_iff]; omega)]
      · rw [if_neg c2, if_neg (by rw [ltP_iff]; omega)]
end
end Go.Proofs.Ga

namespace Go.Proofs.Ga
open Go.VI Go.Sort
open Classical
/-! ### candidates -/
def cx (a b : Pg) (s t : Int) : Int := s * b.2 - t * a.2
def cy (a b : Pg) (s t : Int) : Int := t * a.1 - s * b.1
def prim (d : Pg) : Prop := Int.gcd d.1 d.2 = 1 ∧ (0 < d.1 ∨ (d.1 = 0 ∧ d.2 = 1))
def cdir (a b : Pg) (area s t : Int) : Pg := (Int.tdiv (cx a b s t) area, Int.tdiv (cy a b s t) area)
def fits (xs : List Pg) (a b : Pg) (area most s t : Int) : Prop := Int.tmod (cx a b s t) area = 0 ∧ Int.tmod (cy a b s t) area = 0 ∧ prim (cdir a b area s t) ∧ wd (cdir a b area s t) xs ≤ most
noncomputable def stepS (xs : List Pg) (a b : Pg) (area most s t : Int) (L : List Pg) : List Pg := if fits xs a b area most s t then ins (cdir a b area s t) L else L
noncomputable def stepI (xs : List Pg) (a b : Pg) (area most s t : Int) (L : List Pg) : List Pg := if fits xs a b area most s t then L ++ [cdir a b area s t] else L
def C80 (p : Pg) : Prop := -80 ≤ p.1 ∧ p.1 ≤ 80 ∧ -80 ≤ p.2 ∧ p.2 ≤ 80
def Rg (s : Int) : Prop := -200 ≤ s ∧ s ≤ 200
theorem mul_c {p : Pg} {s : Int} (hp : C80 p) (hs : Rg s) : (-16000 ≤ s * p.1 ∧ s * p.1 ≤ 16000) ∧ (-16000 ≤ s * p.2 ∧ s * p.2 ≤ 16000) := by
  unfold C80 Rg at *
  have h1 := mul_bd (a := s) (b := p.1) (A := 200) (B := 80) (by omega) (by omega) (by omega) (by omega)
  have h2 := mul_bd (a := s) (b := p.2) (A := 200) (B := 80) (by omega) (by omega) (by omega) (by omega)
  omega
theorem cx_bd {a b : Pg} {s t : Int} (ha : C80 a) (hb : C80 b) (hs : Rg s) (ht : Rg t) : -32000 ≤ cx a b s t ∧ cx a b s t ≤ 32000 := by
  have h1 := mul_c hb hs
  have h2 := mul_c ha ht
  unfold cx; omega
theorem cy_bd {a b : Pg} {s t : Int} (ha : C80 a) (hb : C80 b) (hs : Rg s) (ht : Rg t) : -32000 ≤ cy a b s t ∧ cy a b s t ≤ 32000 := by
  have h1 := mul_c hb hs
  have h2 := mul_c ha ht
  unfold cy; omega
theorem cx_w64 {a b : Pg} {s t : Int} (ha : C80 a) (hb : C80 b) (hs : Rg s) (ht : Rg t) : w64 ((w64 (s * b.2)) - (w64 (t * a.2))) = cx a b s t := by
  have h1 := mul_c hb hs
  have h2 := mul_c ha ht
  rw [w64_eq (n := s * b.2) (by omega) (by omega), w64_eq (n := t * a.2) (by omega) (by omega), w64_eq (by omega) (by omega)]
  rfl
theorem cy_w64 {a b : Pg} {s t : Int} (ha : C80 a) (hb : C80 b) (hs : Rg s) (ht : Rg t) : w64 ((w64 (t * a.1)) - (w64 (s * b.1))) = cy a b s t := by
  have h1 := mul_c hb hs
  have h2 := mul_c ha ht
  rw [w64_eq (n := s * b.1) (by omega) (by omega), w64_eq (n := t * a.1) (by omega) (by omega), w64_eq (by omega) (by omega)]
  rfl
theorem tdiv_bd {x y : Int} (h1 : -32000 ≤ x) (h2 : x ≤ 32000) : -32000 ≤ Int.tdiv x y ∧ Int.tdiv x y ≤ 32000 := by
  have h : (Int.tdiv x y).natAbs = x.natAbs / y.natAbs := Int.natAbs_tdiv x y
  have := Nat.div_le_self x.natAbs y.natAbs
  rw [← h] at this
  omega
theorem tdiv_w64 {x y : Int} (h1 : -32000 ≤ x) (h2 : x ≤ 32000) : w64 (Int.tdiv x y) = Int.tdiv x y := by
  have := tdiv_bd (y := y) h1 h2
  exact w64_eq (by omega) (by omega)
theorem gcd_zero_left {v : Int} (h : Int.gcd 0 v = 1) : v = 1 ∨ v = -1 := by
  rw [Int.gcd_zero_left] at h; omega
section
variable {ρ : Type}
theorem stepS_length (xs : List Pg) (a b : Pg) (area most s t : Int) (L : List Pg) : (stepS xs a b area most s t L).length ≤ L.length + 1 := by
  unfold stepS
  split
  · rw [(ins_perm _ _).length_eq]; simp
  · omega
theorem stepI_length (xs : List Pg) (a b : Pg) (area most s t : Int) (L : List Pg) : (stepI xs a b area most s t L).length ≤ L.length + 1 := by
  unfold stepI
  split
  · simp
  · omega
theorem all_R9 {xs : List Pg} (hl : 0 < xs.length) (hl2 : xs.length < 1000000) (hs : ∀ p ∈ xs, Sm p) {a b : Pg} {area most s t : Int} (ha : C80 a) (hb : C80 b) (hS : Rg s) (hT : Rg t) (hz : area ≠ 0) (htm : t ≤ most) {L : List Pg} (hL : L.length < 1000000)
    (kn : List Pg → Int → Pg → Pg → Int → List (List Int) → Int → Int → Option ρ) (k0 : List Pg → Int → Pg → Pg → Int → List (List Int) → Int → Option ρ) :
    spec_wiAll_R9 xs most a b area (L.map pr) s t kn k0 = kn xs most a b area ((stepS xs a b area most s t L).map pr) s (t + 1) := by
  have hx := cx_bd ha hb hS hT
  have hy := cy_bd ha hb hS hT
  have hu := tdiv_bd (y := area) hx.1 hx.2
  have hv := tdiv_bd (y := area) hy.1 hy.2
  have ht1 : w64 (t + 1) = t + 1 := by unfold Rg at hT; exact w64_eq (by omega) (by omega)
  have hsm : Sm (cdir a b area s t) := by unfold Sm cdir; dsimp only; omega
  unfold spec_wiAll_R9
  rw [cx_w64 ha hb hS hT, cy_w64 ha hb hS hT, tdiv_w64 hx.1 hx.2, tdiv_w64 hy.1 hy.2, ht1, bif_dec, if_pos htm, nchk_dec hz, bif_ndec]
  by_cases c1 : Int.tmod (cx a b s t) area = 0
  · rw [if_pos c1, nchk_dec hz, bif_ndec]
    by_cases c2 : Int.tmod (cy a b s t) area = 0
    · rw [if_pos c2, nchk_dec hz, nchk_dec hz, bif_dec]
      have fin : ∀ (P : Prop), (P → prim (cdir a b area s t)) → P →
          (spec_wiWidth xs (Int.tdiv (cx a b s t) area) (Int.tdiv (cy a b s t) area) fun r1 =>
            bif decide (r1 > most) then kn xs most a b area (L.map pr) s (t + 1)
            else spec_wiAll_L16 LIMN xs most a b area (L.map pr) s t (Int.tdiv (cx a b s t) area) (Int.tdiv (cy a b s t) area) ((L.map pr).length : Int)
              (fun corners1 most1 a1 b1 area1 out1 m1 nv1 u v k =>
              chk (decide (0 ≤ k) && decide (k ≤ (out1.length : Int))) <|
              chk (decide (([] : List (List Int)).length + (out1.take (Int.toNat k)).length ≤ LIM)) <|
              chk (decide ((([] : List (List Int)) ++ (out1.take (Int.toNat k))).length + ([([u, v] : List Int)] : List (List Int)).length ≤ LIM)) <|
              chk (decide (0 ≤ k) && decide (k ≤ (out1.length : Int))) <|
              chk (decide (((([] : List (List Int)) ++ (out1.take (Int.toNat k))) ++ ([([u, v] : List Int)] : List (List Int))).length + (out1.drop (Int.toNat k)).length ≤ LIM)) <|
              kn corners1 most1 a1 b1 area1 (((([] : List (List Int)) ++ (out1.take (Int.toNat k))) ++ ([([u, v] : List Int)] : List (List Int))) ++ (out1.drop (Int.toNat k))) m1 (w64 (nv1 + (1 : Int))))) =
          kn xs most a b area ((stepS xs a b area most s t L).map pr) s (t + 1) := by
        intro P hP hp
        rw [spec_wiWidth_eq hl hl2 hsm hs, bif_dec]
        change (if wd (cdir a b area s t) xs > most then _ else _) = _
        by_cases c3 : wd (cdir a b area s t) xs > most
        · rw [if_pos c3, stepS, if_neg (fun h => by have := h.2.2.2; omega)]
        · rw [if_neg c3, stepS, if_pos ⟨c1, c2, hP hp, by omega⟩, List.length_map]
          have hh := all_L16 (ρ := ρ) xs most a b area L hL s t (cdir a b area s t) (fun corners1 most1 a1 b1 area1 out1 m1 nv1 u v k =>
              chk (decide (0 ≤ k) && decide (k ≤ (out1.length : Int))) <|
              chk (decide (([] : List (List Int)).length + (out1.take (Int.toNat k)).length ≤ LIM)) <|
              chk (decide ((([] : List (List Int)) ++ (out1.take (Int.toNat k))).length + ([([u, v] : List Int)] : List (List Int)).length ≤ LIM)) <|
              chk (decide (0 ≤ k) && decide (k ≤ (out1.length : Int))) <|
              chk (decide (((([] : List (List Int)) ++ (out1.take (Int.toNat k))) ++ ([([u, v] : List Int)] : List (List Int))).length + (out1.drop (Int.toNat k)).length ≤ LIM)) <|
              kn corners1 most1 a1 b1 area1 (((([] : List (List Int)) ++ (out1.take (Int.toNat k))) ++ ([([u, v] : List Int)] : List (List Int))) ++ (out1.drop (Int.toNat k))) m1 (w64 (nv1 + (1 : Int)))) L.length LIMN (limn_lt (by omega)) (Nat.le_refl _)
          refine Eq.trans hh ?_
          have hp := pos_le (cdir a b area s t) L L.length
          have hLIM : 1000000000 < LIM := by unfold LIM; decide
          rw [show (decide ((0 : Int) ≤ ((pos (cdir a b area s t) L L.length : Nat) : Int)) && decide (((pos (cdir a b area s t) L L.length : Nat) : Int) ≤ ((L.map pr).length : Int))) = true by simp; omega]
          rw [chk_true, chk_true, chk_dec (by simp; omega), chk_dec (by simp; omega), chk_dec (by simp; omega), Int.toNat_natCast, ht1]
          congr 1
          unfold ins
          simp [List.map_take, List.map_drop]
          rfl
      by_cases c4 : Int.tdiv (cx a b s t) area < 0
      · rw [if_pos c4, stepS, if_neg]
        rintro ⟨_, _, h, _⟩
        have := h.2
        simp only [cdir] at this
        omega
      · rw [if_neg c4, bif_dec]
        by_cases c5 : Int.tdiv (cx a b s t) area = 0
        · rw [if_pos c5, bif_dec]
          by_cases c6 : Int.tdiv (cy a b s t) area < 1
          · rw [if_pos c6, stepS, if_neg]
            rintro ⟨_, _, h, _⟩
            have := h.2
            simp only [cdir] at this
            omega
          · rw [if_neg c6, spec_pgCommon_eq (by omega) (by omega), bif_ndec]
            by_cases c7 : Int.gcd (Int.tdiv (cx a b s t) area) (Int.tdiv (cy a b s t) area) = 1
            · rw [if_pos (by omega)]
              refine fin True (fun _ => ⟨c7, .inr ⟨c5, ?_⟩⟩) trivial
              rw [c5] at c7
              have := gcd_zero_left c7
              simp only [cdir]
              omega
            · rw [if_neg (by omega), stepS, if_neg (fun h => c7 h.2.2.1.1)]
        · rw [if_neg c5, spec_pgCommon_eq (by omega) (by omega), bif_ndec]
          by_cases c7 : Int.gcd (Int.tdiv (cx a b s t) area) (Int.tdiv (cy a b s t) area) = 1
          · rw [if_pos (by omega)]
            refine fin True (fun _ => ⟨c7, .inl ?_⟩) trivial
            simp only [cdir]
            omega
          · rw [if_neg (by omega), stepS, if_neg (fun h => c7 h.2.2.1.1)]
    · rw [if_neg c2, stepS, if_neg (fun h => c2 h.2.1)]
  · rw [if_neg c1, stepS, if_neg (fun h => c1 h.1)]
theorem dir_R8 {xs : List Pg} (hl : 0 < xs.length) (hl2 : xs.length < 1000000) (hs : ∀ p ∈ xs, Sm p) {a b : Pg} {area most s t : Int} (ha : C80 a) (hb : C80 b) (hS : Rg s) (hT : Rg t) (hz : area ≠ 0) (htm : t ≤ most) {L : List Pg} (hL : L.length < 1000000)
    (kn : List Pg → Int → List Pg → Pg → Pg → Int → Int → Int → Option ρ) (k0 : List Pg → Int → List Pg → Pg → Pg → Int → Int → Option ρ) :
    impl_directions_R8 xs most L a b area s t kn k0 = kn xs most (stepI xs a b area most s t L) a b area s (t + 1) := by
  have hx := cx_bd ha hb hS hT
  have hy := cy_bd ha hb hS hT
  have hu := tdiv_bd (y := area) hx.1 hx.2
  have hv := tdiv_bd (y := area) hy.1 hy.2
  have ht1 : w64 (t + 1) = t + 1 := by unfold Rg at hT; exact w64_eq (by omega) (by omega)
  have hsm : Sm (cdir a b area s t) := by unfold Sm cdir; dsimp only; omega
  have hLIM : 1000000000 < LIM := by unfold LIM; decide
  unfold impl_directions_R8
  rw [cx_w64 ha hb hS hT, cy_w64 ha hb hS hT, tdiv_w64 hx.1 hx.2, tdiv_w64 hy.1 hy.2, ht1, bif_dec, if_pos htm, nchk_dec hz, bif_ndec]
  by_cases c1 : Int.tmod (cx a b s t) area = 0
  · rw [if_pos c1, nchk_dec hz, bif_ndec]
    by_cases c2 : Int.tmod (cy a b s t) area = 0
    · rw [if_pos c2, nchk_dec hz, nchk_dec hz, impl_divisor_eq (by omega) (by omega), bif_dec]
      have fin : prim (cdir a b area s t) →
          (impl_width xs (Int.tdiv (cx a b s t) area, Int.tdiv (cy a b s t) area) fun r1 =>
            bif decide (r1 ≤ most) then
              chk (decide (L.length + ([(Int.tdiv (cx a b s t) area, Int.tdiv (cy a b s t) area)] : List (Int × Int)).length ≤ LIM)) <|
              kn xs most (L ++ ([(Int.tdiv (cx a b s t) area, Int.tdiv (cy a b s t) area)] : List (Int × Int))) a b area s (t + 1)
            else kn xs most L a b area s (t + 1)) =
          kn xs most (stepI xs a b area most s t L) a b area s (t + 1) := by
        intro hP
        rw [impl_width_eq (d := (Int.tdiv (cx a b s t) area, Int.tdiv (cy a b s t) area)) hl hl2 hsm hs, bif_dec]
        change (if wd (cdir a b area s t) xs ≤ most then _ else _) = _
        by_cases c3 : wd (cdir a b area s t) xs ≤ most
        · rw [if_pos c3, stepI, if_pos ⟨c1, c2, hP, c3⟩, chk_dec (by simp; omega)]; rfl
        · rw [if_neg c3, stepI, if_neg (fun h => c3 h.2.2.2)]
      by_cases c7 : Int.gcd (Int.tdiv (cx a b s t) area) (Int.tdiv (cy a b s t) area) = 1
      · rw [if_pos (by omega), bif_dec]
        by_cases c4 : Int.tdiv (cx a b s t) area > 0
        · rw [if_pos c4]
          exact fin ⟨c7, .inl c4⟩
        · rw [if_neg c4, bif_dec]
          by_cases c5 : Int.tdiv (cx a b s t) area = 0
          · rw [if_pos c5, bif_dec]
            by_cases c6 : Int.tdiv (cy a b s t) area = 1
            · rw [if_pos c6]
              exact fin ⟨c7, .inr ⟨c5, c6⟩⟩
            · rw [if_neg c6, stepI, if_neg]
              rintro ⟨_, _, h, _⟩
              have := h.2
              simp only [cdir] at this
              omega
          · rw [if_neg c5, stepI, if_neg]
            rintro ⟨_, _, h, _⟩
            have := h.2
            simp only [cdir] at this
            omega
      · rw [if_neg (by omega), stepI, if_neg (fun h => c7 h.2.2.1.1)]
    · rw [if_neg c2, stepI, if_neg (fun h => c2 h.2.1)]
  · rw [if_neg c1, stepI, if_neg (fun h => c1 h.1)]
end
end Go.Proofs.Ga

namespace Go.Proofs.Ga
open Go.VI Go.Sort
open Classical
/-! ### steps one behind the other -/
theorem itr_rel {σ τ : Type} {f : Nat → σ → σ} {g : Nat → τ → τ} (R : σ → τ → Prop) (h : ∀ i s t, R s t → R (f i s) (g i t)) : ∀ m i s t, R s t → R (itr f i m s) (itr g i m t)
  | 0, _, _, _, hr => hr
  | m + 1, i, s, t, hr => itr_rel R h m (i + 1) _ _ (h i s t hr)
theorem itr_mem {α : Type} {f : Nat → List α → List α} {d : α} {Q : Nat → Prop} (h : ∀ i s, d ∈ f i s ↔ d ∈ s ∨ Q i) : ∀ m i s, d ∈ itr f i m s ↔ d ∈ s ∨ ∃ k, i ≤ k ∧ k < i + m ∧ Q k
  | 0, i, s => by
    show d ∈ s ↔ _
    constructor
    · exact .inl
    · rintro (h | ⟨k, h1, h2, _⟩)
      · exact h
      · omega
  | m + 1, i, s => by
    show d ∈ itr f (i + 1) m (f i s) ↔ _
    rw [itr_mem h m (i + 1) (f i s), h i s]
    constructor
    · rintro ((h | h) | ⟨k, h1, h2, h3⟩)
      · exact .inl h
      · exact .inr ⟨i, by omega, by omega, h⟩
      · exact .inr ⟨k, by omega, by omega, h3⟩
    · rintro (h | ⟨k, h1, h2, h3⟩)
      · exact .inl (.inl h)
      · rcases Nat.lt_or_ge i k with hk | hk
        · exact .inr ⟨k, by omega, by omega, h3⟩
        · have : k = i := by omega
          subst this
          exact .inl (.inr h3)
theorem itr_len {α : Type} {f : Nat → List α → List α} {c : Nat} (h : ∀ i s, (f i s).length ≤ s.length + c) : ∀ m i s, (itr f i m s).length ≤ s.length + m * c
  | 0, i, s => by simp [itr]
  | m + 1, i, s => by
    have h1 := itr_len h m (i + 1) (f i s)
    have h2 := h i s
    rw [Nat.add_mul]
    show (itr f (i + 1) m (f i s)).length ≤ _
    omega
theorem itr_inv2 {σ : Type} {f : Nat → σ → σ} {len : Nat} (I : Nat → σ → Prop) (h : ∀ i s, i < len → I i s → I (i + 1) (f i s)) (s : σ) (hs : I 0 s) : I len (itr f 0 len s) := itr_inv I h len 0 s (by omega) hs
def round (step : Int → Int → List Pg → List Pg) (M : Nat) (i : Nat) (L : List Pg) : List Pg := itr (fun j L => step ((i : Int) - M) ((j : Int) - M) L) 0 (2 * M + 1) L
def whole (step : Int → Int → List Pg → List Pg) (M : Nat) : List Pg := itr (round step M) 0 (2 * M + 1) []
/-- A triangle of a list. -/
structure Ctx (xs : List Pg) (a b : Pg) (area : Int) : Prop where
  hl : 0 < xs.length
  hl2 : xs.length < 1000000
  hs : ∀ p ∈ xs, Sm p
  ha : C80 a
  hb : C80 b
  hz : area ≠ 0
  har : area = a.1 * b.2 - a.2 * b.1
  hpa : ∃ p ∈ xs, ∃ q ∈ xs, a = (q.1 - p.1, q.2 - p.2)
  hpb : ∃ p ∈ xs, ∃ q ∈ xs, b = (q.1 - p.1, q.2 - p.2)
theorem val_sub {d p q : Pg} : val d (q.1 - p.1, q.2 - p.2) = val d q - val d p := by
  unfold val; dsimp only; rw [Int.mul_sub, Int.mul_sub]; omega
theorem rng_mem {d : Pg} {xs : List Pg} {p : Pg} (hp : p ∈ xs) : (rng d xs).1 ≤ val d p ∧ val d p ≤ (rng d xs).2 := by
  obtain ⟨i, hi, rfl⟩ := List.getElem_of_mem hp
  have := (rng_spec (d := d) (xs := xs) (by omega)).1 i hi
  rwa [getD_eq hi] at this
theorem wd_edge {d p q : Pg} {xs : List Pg} (hp : p ∈ xs) (hq : q ∈ xs) : -wd d xs ≤ val d (q.1 - p.1, q.2 - p.2) ∧ val d (q.1 - p.1, q.2 - p.2) ≤ wd d xs := by
  have h1 := rng_mem (d := d) hp
  have h2 := rng_mem (d := d) hq
  rw [val_sub]; unfold wd; omega
theorem Ctx.wa {xs : List Pg} {a b : Pg} {area : Int} (h : Ctx xs a b area) (d : Pg) : -wd d xs ≤ val d a ∧ val d a ≤ wd d xs := by
  obtain ⟨p, hp, q, hq, e⟩ := h.hpa
  rw [e]; exact wd_edge hp hq
theorem Ctx.wb {xs : List Pg} {a b : Pg} {area : Int} (h : Ctx xs a b area) (d : Pg) : -wd d xs ≤ val d b ∧ val d b ≤ wd d xs := by
  obtain ⟨p, hp, q, hq, e⟩ := h.hpb
  rw [e]; exact wd_edge hp hq
theorem cx_val (a b d : Pg) : cx a b (val d a) (val d b) = d.1 * (a.1 * b.2 - a.2 * b.1) := by
  unfold cx val
  simp only [Int.mul_sub, Int.mul_add, Int.mul_comm, Int.mul_left_comm]
  omega
theorem cy_val (a b d : Pg) : cy a b (val d a) (val d b) = d.2 * (a.1 * b.2 - a.2 * b.1) := by
  unfold cy val
  simp only [Int.mul_sub, Int.mul_add, Int.mul_comm, Int.mul_left_comm]
  omega
theorem val_cdir_a {a b : Pg} {area s t : Int} (hz : area ≠ 0) (har : area = a.1 * b.2 - a.2 * b.1) (h1 : Int.tmod (cx a b s t) area = 0) (h2 : Int.tmod (cy a b s t) area = 0) : val (cdir a b area s t) a = s ∧ val (cdir a b area s t) b = t := by
  have e1 := Int.tmod_add_mul_tdiv (cx a b s t) area
  have e2 := Int.tmod_add_mul_tdiv (cy a b s t) area
  rw [h1, Int.zero_add] at e1
  rw [h2, Int.zero_add] at e2
  constructor
  · apply Int.eq_of_mul_eq_mul_left hz
    have : area * val (cdir a b area s t) a = cx a b s t * a.1 + cy a b s t * a.2 := by
      rw [← e1, ← e2]
      unfold val cdir
      dsimp only
      rw [Int.mul_add, Int.mul_assoc, Int.mul_assoc]
    rw [this, har]
    unfold cx cy
    simp only [Int.mul_sub, Int.mul_comm, Int.mul_left_comm]
    omega
  · apply Int.eq_of_mul_eq_mul_left hz
    have : area * val (cdir a b area s t) b = cx a b s t * b.1 + cy a b s t * b.2 := by
      rw [← e1, ← e2]
      unfold val cdir
      dsimp only
      rw [Int.mul_add, Int.mul_assoc, Int.mul_assoc]
    rw [this, har]
    unfold cx cy
    simp only [Int.mul_sub, Int.mul_comm, Int.mul_left_comm]
    omega
theorem fits_val {xs : List Pg} {a b : Pg} {area : Int} (h : Ctx xs a b area) {most : Int} {d : Pg} (hp : prim d) (hw : wd d xs ≤ most) : fits xs a b area most (val d a) (val d b) ∧ cdir a b area (val d a) (val d b) = d := by
  have e1 : cx a b (val d a) (val d b) = d.1 * area := by rw [cx_val, h.har]
  have e2 : cy a b (val d a) (val d b) = d.2 * area := by rw [cy_val, h.har]
  have e3 : cdir a b area (val d a) (val d b) = d := by
    unfold cdir
    rw [e1, e2, Int.mul_tdiv_cancel _ h.hz, Int.mul_tdiv_cancel _ h.hz]
  refine ⟨⟨?_, ?_, ?_, ?_⟩, e3⟩
  · rw [e1, Int.mul_tmod_left]
  · rw [e2, Int.mul_tmod_left]
  · rw [e3]; exact hp
  · rw [e3]; exact hw
theorem mem_stepI {xs : List Pg} {a b : Pg} {area most s t : Int} {L : List Pg} {d : Pg} : d ∈ stepI xs a b area most s t L ↔ d ∈ L ∨ (fits xs a b area most s t ∧ d = cdir a b area s t) := by
  unfold stepI
  split
  · rename_i h
    rw [List.mem_append, List.mem_singleton]
    constructor
    · rintro (h1 | h1)
      · exact .inl h1
      · exact .inr ⟨h, h1⟩
    · rintro (h1 | h1)
      · exact .inl h1
      · exact .inr h1.2
  · rename_i h
    constructor
    · exact .inl
    · rintro (h1 | h1)
      · exact h1
      · exact (h h1.1).elim
theorem mem_whole {xs : List Pg} {a b : Pg} {area : Int} (h : Ctx xs a b area) {M : Nat} {d : Pg} : d ∈ whole (stepI xs a b area M) M ↔ prim d ∧ wd d xs ≤ M := by
  unfold whole
  rw [itr_mem (Q := fun i => ∃ j, 0 ≤ j ∧ j < 0 + (2 * M + 1) ∧ fits xs a b area M ((i : Int) - M) ((j : Int) - M) ∧ d = cdir a b area ((i : Int) - M) ((j : Int) - M)) (by
    intro i s
    unfold round
    exact itr_mem (f := fun j L => stepI xs a b area M ((i : Int) - M) ((j : Int) - M) L) (Q := fun j => fits xs a b area M ((i : Int) - M) ((j : Int) - M) ∧ d = cdir a b area ((i : Int) - M) ((j : Int) - M)) (fun j s => mem_stepI) _ _ _)]
  constructor
  · rintro (h1 | ⟨i, _, _, j, _, _, hf, rfl⟩)
    · simp at h1
    · exact ⟨hf.2.2.1, hf.2.2.2⟩
  · rintro ⟨hp, hw⟩
    have h1 := h.wa d
    have h2 := h.wb d
    have h3 := fits_val h hp hw
    refine .inr ⟨(val d a + M).toNat, by omega, by omega, (val d b + M).toNat, by omega, by omega, ?_⟩
    rw [show (((val d a + M).toNat : Nat) : Int) - M = val d a by omega, show (((val d b + M).toNat : Nat) : Int) - M = val d b by omega]
    exact ⟨h3.1, h3.2.symm⟩
theorem nodup_whole {xs : List Pg} {a b : Pg} {area : Int} (h : Ctx xs a b area) (M : Nat) : (whole (stepI xs a b area M) M).Nodup := by
  have key := itr_inv2 (f := round (stepI xs a b area M) M) (len := 2 * M + 1) (fun i L => L.Nodup ∧ ∀ d ∈ L, val d a < (i : Int) - M) (by
    rintro i L hi ⟨hn, hv⟩
    have := itr_inv2 (f := fun j L => stepI xs a b area M ((i : Int) - M) ((j : Int) - M) L) (len := 2 * M + 1) (fun j L => L.Nodup ∧ ∀ d ∈ L, val d a < (i : Int) - M ∨ (val d a = (i : Int) - M ∧ val d b < (j : Int) - M)) (by
      rintro j L hj ⟨hn, hv⟩
      unfold stepI
      by_cases hf : fits xs a b area M ((i : Int) - M) ((j : Int) - M)
      · rw [if_pos hf]
        have he := val_cdir_a h.hz h.har hf.1 hf.2.1
        constructor
        · rw [List.nodup_append]
          refine ⟨hn, by simp, ?_⟩
          intro p hp q hq
          rw [List.mem_singleton] at hq
          subst hq
          rintro rfl
          have := hv _ hp
          omega
        · intro d hd
          rw [List.mem_append, List.mem_singleton] at hd
          rcases hd with hd | rfl
          · have := hv d hd
            omega
          · omega
      · rw [if_neg hf]
        refine ⟨hn, fun d hd => ?_⟩
        have := hv d hd
        omega) L ⟨hn, fun d hd => .inl (hv d hd)⟩
    refine ⟨this.1, fun d hd => ?_⟩
    have := this.2 d hd
    omega) [] ⟨List.nodup_nil, fun d hd => by simp at hd⟩
  exact key.1
/-- The directions whose width is at most M, in order. -/
noncomputable def D (xs : List Pg) (a b : Pg) (area : Int) (M : Nat) : List Pg := whole (stepS xs a b area M) M
theorem D_rel (xs : List Pg) (a b : Pg) (area : Int) (M : Nat) : (D xs a b area M).Perm (whole (stepI xs a b area M) M) ∧ (D xs a b area M).Pairwise leP := by
  unfold D whole
  refine itr_rel (fun L L' => List.Perm L L' ∧ L.Pairwise leP) (fun i L L' hr => ?_) _ _ _ _ ⟨List.Perm.refl _, List.Pairwise.nil⟩
  unfold round
  refine itr_rel (fun L L' => List.Perm L L' ∧ L.Pairwise leP) (fun j L L' hr => ?_) _ _ _ _ hr
  unfold stepS stepI
  split
  · exact ⟨(ins_perm _ _).trans ((List.Perm.cons _ hr.1).trans (List.perm_append_singleton _ _).symm), ins_sorted _ hr.2⟩
  · exact hr
theorem mem_D {xs : List Pg} {a b : Pg} {area : Int} (h : Ctx xs a b area) {M : Nat} {d : Pg} : d ∈ D xs a b area M ↔ prim d ∧ wd d xs ≤ M := by
  rw [(D_rel xs a b area M).1.mem_iff, mem_whole h]
theorem D_filter {xs : List Pg} {a b : Pg} {area : Int} (h : Ctx xs a b area) {M W : Nat} (hW : W ≤ M) : (D xs a b area M).filter (fun d => decide (wd d xs ≤ W)) = D xs a b area W := by
  have n1 : (D xs a b area M).Nodup := (D_rel xs a b area M).1.nodup_iff.2 (nodup_whole h M)
  have n2 : (D xs a b area W).Nodup := (D_rel xs a b area W).1.nodup_iff.2 (nodup_whole h W)
  refine sorted_perm_eq ?_ ((D_rel xs a b area M).2.filter _) (D_rel xs a b area W).2
  rw [List.perm_ext_iff_of_nodup (n1.filter _) n2]
  intro d
  rw [List.mem_filter, mem_D h, mem_D h, decide_eq_true_iff]
  constructor
  · rintro ⟨⟨h1, _⟩, h2⟩
    exact ⟨h1, h2⟩
  · rintro ⟨h1, h2⟩
    exact ⟨⟨h1, by omega⟩, h2⟩
theorem len_S (xs : List Pg) (a b : Pg) (area most : Int) (M i : Nat) (L : List Pg) : (round (stepS xs a b area most) M i L).length ≤ L.length + (2 * M + 1) := by
  have := itr_len (f := fun j L => stepS xs a b area most ((i : Int) - M) ((j : Int) - M) L) (c := 1) (fun j s => stepS_length _ _ _ _ _ _ _ _) (2 * M + 1) 0 L
  unfold round; omega
theorem len_I (xs : List Pg) (a b : Pg) (area most : Int) (M i : Nat) (L : List Pg) : (round (stepI xs a b area most) M i L).length ≤ L.length + (2 * M + 1) := by
  have := itr_len (f := fun j L => stepI xs a b area most ((i : Int) - M) ((j : Int) - M) L) (c := 1) (fun j s => stepI_length _ _ _ _ _ _ _ _) (2 * M + 1) 0 L
  unfold round; omega
section
variable {ρ : Type}
theorem all_L9 {xs : List Pg} {a b : Pg} {area : Int} (h : Ctx xs a b area) {M : Nat} (hM : M ≤ 100) {i : Nat} (hi : i < 2 * M + 1) {L : List Pg} (hL : L.length < 100000) (k0 : List Pg → Int → Pg → Pg → Int → List (List Int) → Int → Option ρ) :
    spec_wiAll_L9 LIMN xs M a b area (L.map pr) ((i : Int) - M) ((0 : Int) - M) k0 = k0 xs M a b area ((round (stepS xs a b area M) M i L).map pr) ((i : Int) - M) := by
  have h := fold_loop (σ := List Pg) (g := fun n j L => spec_wiAll_L9 n xs M a b area (L.map pr) ((i : Int) - M) ((j : Int) - M) k0) (len := 2 * M + 1) (f := fun j L => stepS xs a b area M ((i : Int) - M) ((j : Int) - M) L) (I := fun j L => L.length < 100000 + j) (K := fun L => k0 xs M a b area (L.map pr) ((i : Int) - M)) (by
    intro n j L hj hI
    rw [spec_wiAll_L9_s, all_R9 h.hl h.hl2 h.hs h.ha h.hb (by unfold Rg; omega) (by unfold Rg; omega) h.hz (by omega) (by omega)]
    rw [show (j : Int) - M + 1 = ((j + 1 : Nat) : Int) - M by omega]) (by
    intro j L hj hI
    have := stepS_length xs a b area M ((i : Int) - M) ((j : Int) - M) L
    omega) (by
    intro n L hI
    rw [spec_wiAll_L9_s]
    unfold spec_wiAll_R9
    rw [bif_dec, if_neg (by omega)]) (2 * M + 1) LIMN 0 L (by omega) (limn_lt (by omega)) (by omega)
  exact h
theorem spec_L6 {xs : List Pg} {a b : Pg} {area : Int} (h : Ctx xs a b area) {M : Nat} (hM : M ≤ 100) (k0 : List (List Int) → Option ρ) :
    spec_wiAll_L6 LIMN xs M a b area [] ((0 : Int) - M) k0 = k0 ((D xs a b area M).map pr) := by
  have h := fold_loop (σ := List Pg) (g := fun n i L => spec_wiAll_L6 n xs M a b area (L.map pr) ((i : Int) - M) k0) (len := 2 * M + 1) (f := round (stepS xs a b area M) M) (I := fun i L => L.length ≤ i * 201) (K := fun L => k0 (L.map pr)) (by
    intro n i L hi hI
    rw [spec_wiAll_L6_s]
    unfold spec_wiAll_R6
    rw [bif_dec, if_pos (by omega), w64_eq (n := (0 : Int) - M) (by omega) (by omega), all_L9 h hM hi (by omega), w64_eq (by omega) (by omega), show (i : Int) - M + 1 = ((i + 1 : Nat) : Int) - M by omega]) (by
    intro i L hi hI
    have := len_S xs a b area M M i L
    omega) (by
    intro n L hI
    rw [spec_wiAll_L6_s]
    unfold spec_wiAll_R6
    rw [bif_dec, if_neg (by omega)]) (2 * M + 1) LIMN 0 [] (by omega) (limn_lt (by omega)) (by simp)
  exact h
theorem dir_L8 {xs : List Pg} {a b : Pg} {area : Int} (h : Ctx xs a b area) {M : Nat} (hM : M ≤ 100) {i : Nat} (hi : i < 2 * M + 1) {L : List Pg} (hL : L.length < 100000) (k0 : List Pg → Int → List Pg → Pg → Pg → Int → Int → Option ρ) :
    impl_directions_L8 LIMN xs M L a b area ((i : Int) - M) ((0 : Int) - M) k0 = k0 xs M (round (stepI xs a b area M) M i L) a b area ((i : Int) - M) := by
  have h := fold_loop (σ := List Pg) (g := fun n j L => impl_directions_L8 n xs M L a b area ((i : Int) - M) ((j : Int) - M) k0) (len := 2 * M + 1) (f := fun j L => stepI xs a b area M ((i : Int) - M) ((j : Int) - M) L) (I := fun j L => L.length < 100000 + j) (K := fun L => k0 xs M L a b area ((i : Int) - M)) (by
    intro n j L hj hI
    rw [impl_directions_L8_s, dir_R8 h.hl h.hl2 h.hs h.ha h.hb (by unfold Rg; omega) (by unfold Rg; omega) h.hz (by omega) (by omega)]
    rw [show (j : Int) - M + 1 = ((j + 1 : Nat) : Int) - M by omega]) (by
    intro j L hj hI
    have := stepI_length xs a b area M ((i : Int) - M) ((j : Int) - M) L
    omega) (by
    intro n L hI
    rw [impl_directions_L8_s]
    unfold impl_directions_R8
    rw [bif_dec, if_neg (by omega)]) (2 * M + 1) LIMN 0 L (by omega) (limn_lt (by omega)) (by omega)
  exact h
theorem dir_L5 {xs : List Pg} {a b : Pg} {area : Int} (h : Ctx xs a b area) {M : Nat} (hM : M ≤ 100) (k0 : List Pg → Option ρ) :
    impl_directions_L5 LIMN xs M [] a b area ((0 : Int) - M) k0 = k0 (whole (stepI xs a b area M) M) := by
  have h := fold_loop (σ := List Pg) (g := fun n i L => impl_directions_L5 n xs M L a b area ((i : Int) - M) k0) (len := 2 * M + 1) (f := round (stepI xs a b area M) M) (I := fun i L => L.length ≤ i * 201) (K := fun L => k0 L) (by
    intro n i L hi hI
    rw [impl_directions_L5_s]
    unfold impl_directions_R5
    rw [bif_dec, if_pos (by omega), w64_eq (n := (0 : Int) - M) (by omega) (by omega), dir_L8 h hM hi (by omega), w64_eq (by omega) (by omega), show (i : Int) - M + 1 = ((i + 1 : Nat) : Int) - M by omega]) (by
    intro i L hi hI
    have := len_I xs a b area M M i L
    omega) (by
    intro n L hI
    rw [impl_directions_L5_s]
    unfold impl_directions_R5
    rw [bif_dec, if_neg (by omega)]) (2 * M + 1) LIMN 0 [] (by omega) (limn_lt (by omega)) (by simp)
  exact h
end
end Go.Proofs.Ga

namespace Go.Proofs.Ga
open Go.VI Go.Sort
open Classical
/-! ### the triangle of a polygon -/
def crn (xs : List Pg) (i : Nat) : Pg := xs.getD i (0, 0)
def eA (xs : List Pg) : Pg := ((crn xs 1).1 - (crn xs 0).1, (crn xs 1).2 - (crn xs 0).2)
def eB (xs : List Pg) : Pg := ((crn xs 2).1 - (crn xs 0).1, (crn xs 2).2 - (crn xs 0).2)
def eR (xs : List Pg) : Int := tur (crn xs 0) (crn xs 1) (crn xs 2)
theorem crn_mem {xs : List Pg} {i : Nat} (h : i < xs.length) : crn xs i ∈ xs := getD_mem h
theorem Poly.sm {xs : List Pg} (h : Poly xs) : ∀ p ∈ xs, Sm p := fun p hp => inR_sm (h.peg p hp)
theorem Poly.ctx {xs : List Pg} (h : Poly xs) : Ctx xs (eA xs) (eB xs) (eR xs) := by
  have h3 := h.low
  have hh := h.high
  have r0 := inR_iff.1 (h.peg _ (crn_mem (xs := xs) (i := 0) (by omega)))
  have r1 := inR_iff.1 (h.peg _ (crn_mem (xs := xs) (i := 1) (by omega)))
  have r2 := inR_iff.1 (h.peg _ (crn_mem (xs := xs) (i := 2) (by omega)))
  refine ⟨by omega, by omega, h.sm, ?_, ?_, ?_, rfl, ⟨_, crn_mem (by omega), _, crn_mem (by omega), rfl⟩, ⟨_, crn_mem (by omega), _, crn_mem (by omega), rfl⟩⟩
  · unfold C80 eA; dsimp only; omega
  · unfold C80 eB; dsimp only; omega
  · have := h.turn 0 (by omega)
    rwa [cyc_lt (by omega), cyc_lt (by omega), cyc_lt (by omega)] at this
noncomputable def DP (xs : List Pg) (M : Nat) : List Pg := D xs (eA xs) (eB xs) (eR xs) M
theorem wd_pos {xs : List Pg} (h : Poly xs) {d : Pg} (hp : prim d) : 1 ≤ wd d xs := by
  have c := h.ctx
  have h1 := c.wa d
  have h2 := c.wb d
  rcases Int.lt_or_le 0 (wd d xs) with h0 | h0
  · omega
  · have e1 : val d (eA xs) = 0 := by omega
    have e2 : val d (eB xs) = 0 := by omega
    have f1 := cx_val (eA xs) (eB xs) d
    have f2 := cy_val (eA xs) (eB xs) d
    rw [e1, e2, ← c.har] at f1 f2
    simp only [cx, cy, Int.zero_mul, Int.sub_zero] at f1 f2
    have g1 : d.1 = 0 := by rcases Int.mul_eq_zero.1 f1.symm with h | h; · exact h
                            · exact (c.hz h).elim
    have g2 : d.2 = 0 := by rcases Int.mul_eq_zero.1 f2.symm with h | h; · exact h
                            · exact (c.hz h).elim
    have := hp.2
    omega
theorem wd_axis {xs : List Pg} (h : Poly xs) : wd (1, 0) xs ≤ 80 ∧ wd (0, 1) xs ≤ 80 := by
  have h3 := h.low
  obtain ⟨_, ⟨i, hi, e1⟩, ⟨j, hj, e2⟩⟩ := rng_spec (d := (1, 0)) (xs := xs) (by omega)
  obtain ⟨_, ⟨k, hk, e3⟩, ⟨l, hl, e4⟩⟩ := rng_spec (d := (0, 1)) (xs := xs) (by omega)
  have a1 := inR_iff.1 (h.peg _ (crn_mem hi))
  have a2 := inR_iff.1 (h.peg _ (crn_mem hj))
  have a3 := inR_iff.1 (h.peg _ (crn_mem hk))
  have a4 := inR_iff.1 (h.peg _ (crn_mem hl))
  unfold crn at a1 a2 a3 a4
  unfold wd
  rw [e1, e2, e3, e4]
  unfold val
  dsimp only
  omega
theorem prim10 : prim (1, 0) := ⟨by decide, .inl (by decide)⟩
theorem prim01 : prim (0, 1) := ⟨by decide, .inr ⟨rfl, rfl⟩⟩
theorem sm_of_D {xs : List Pg} (h : Poly xs) {M : Nat} (hM : M ≤ 100) {d : Pg} (hd : d ∈ DP xs M) : Sm d := by
  have c := h.ctx
  obtain ⟨hp, hw⟩ := (mem_D c).1 hd
  have h1 := c.wa d
  have h2 := c.wb d
  have e := (fits_val c hp hw).2
  rw [← e]
  have hx := cx_bd (s := val d (eA xs)) (t := val d (eB xs)) c.ha c.hb (by unfold Rg; omega) (by unfold Rg; omega)
  have hy := cy_bd (s := val d (eA xs)) (t := val d (eB xs)) c.ha c.hb (by unfold Rg; omega) (by unfold Rg; omega)
  have hu := tdiv_bd (y := eR xs) hx.1 hx.2
  have hv := tdiv_bd (y := eR xs) hy.1 hy.2
  unfold Sm cdir
  dsimp only
  omega
section
variable {ρ : Type}
theorem spec_wiAll_eq {xs : List Pg} (h : Poly xs) {M : Nat} (hM : M ≤ 100) (K : List (List Int) → Option ρ) : spec_wiAll xs M K = K ((DP xs M).map pr) := by
  have h3 := h.low
  have hm := h.sm
  have b0 : inB 0 xs.length = true := inB_of (by omega) (by omega)
  have b1 : inB 1 xs.length = true := inB_of (by omega) (by omega)
  have b2 : inB 2 xs.length = true := inB_of (by omega) (by omega)
  have s0 := hm _ (crn_mem (xs := xs) (i := 0) (by omega))
  have s1 := hm _ (crn_mem (xs := xs) (i := 1) (by omega))
  have s2 := hm _ (crn_mem (xs := xs) (i := 2) (by omega))
  have ht := turn_w64 s0 s1 s2
  unfold Sm crn at *
  unfold spec_wiAll
  rw [b0, b1, b2]
  simp only [chk_true]
  rw [ht, w64_eq (n := (xs.getD 1 (0, 0)).1 - (xs.getD 0 (0, 0)).1) (by omega) (by omega), w64_eq (n := (xs.getD 1 (0, 0)).2 - (xs.getD 0 (0, 0)).2) (by omega) (by omega), w64_eq (n := (xs.getD 2 (0, 0)).1 - (xs.getD 0 (0, 0)).1) (by omega) (by omega), w64_eq (n := (xs.getD 2 (0, 0)).2 - (xs.getD 0 (0, 0)).2) (by omega) (by omega), w64_eq (n := 0 - (M : Int)) (by omega) (by omega)]
  exact spec_L6 h.ctx hM _
theorem impl_directions_eq {xs : List Pg} (h : Poly xs) {M : Nat} (hM : M ≤ 100) (hne : DP xs M ≠ []) (K : List Pg → Option ρ) : impl_directions xs M K = K (DP xs M) := by
  have h3 := h.low
  have hm := h.sm
  have b0 : inB 0 xs.length = true := inB_of (by omega) (by omega)
  have b1 : inB 1 xs.length = true := inB_of (by omega) (by omega)
  have b2 : inB 2 xs.length = true := inB_of (by omega) (by omega)
  have s0 := hm _ (crn_mem (xs := xs) (i := 0) (by omega))
  have s1 := hm _ (crn_mem (xs := xs) (i := 1) (by omega))
  have s2 := hm _ (crn_mem (xs := xs) (i := 2) (by omega))
  have ht := turn_w64 s0 s1 s2
  unfold Sm crn at *
  unfold impl_directions impl_Peg_less impl_cross
  rw [b0, b1, b2]
  simp only [chk_true]
  rw [ht, w64_eq (n := (xs.getD 1 (0, 0)).1 - (xs.getD 0 (0, 0)).1) (by omega) (by omega), w64_eq (n := (xs.getD 1 (0, 0)).2 - (xs.getD 0 (0, 0)).2) (by omega) (by omega), w64_eq (n := (xs.getD 2 (0, 0)).1 - (xs.getD 0 (0, 0)).1) (by omega) (by omega), w64_eq (n := (xs.getD 2 (0, 0)).2 - (xs.getD 0 (0, 0)).2) (by omega) (by omega), w64_eq (n := 0 - (M : Int)) (by omega) (by omega)]
  refine Eq.trans (dir_L5 h.ctx hM _) ?_
  have hr := D_rel xs (eA xs) (eB xs) (eR xs) M
  have hlen := hr.1.length_eq
  have hpos : 0 < (DP xs M).length := List.length_pos_iff.2 hne
  have hle : (whole (stepI xs (eA xs) (eB xs) (eR xs) M) M).length ≤ 0 + (2 * M + 1) * (2 * M + 1) := itr_len (fun i s => len_I xs _ _ _ _ M i s) (2 * M + 1) 0 []
  have hle2 : (2 * M + 1) * (2 * M + 1) ≤ 201 * 201 := Nat.mul_le_mul (by omega) (by omega)
  unfold DP at hpos
  change impl_sorted (whole (stepI xs (eA xs) (eB xs) (eR xs) M) M) _ = _
  unfold impl_sorted slices_Clone_Peg slices_SortFunc_Peg_at_comparePegs
  have hLIM : 1000000000 < LIM := by unfold LIM; decide
  rw [chk_dec (by omega)]
  dsimp only
  rw [show (decide (0 < (whole (stepI xs (eA xs) (eB xs) (eR xs) M) M).length) && decide ((whole (stepI xs (eA xs) (eB xs) (eR xs) M) M).length < 4611686018427387904)) = true by simp; omega, chk_true, sortBy_eq hr.1 hr.2]
  rfl
theorem spec_wiLeast_eq {xs : List Pg} (h : Poly xs) {W : Nat} (h1 : 1 ≤ W) (hW : W ≤ 100) (hne : DP xs W ≠ []) (hno : ∀ m, m < W → DP xs m = []) (K : Int → List (List Int) → Option ρ) : spec_wiLeast xs K = K W ((DP xs W).map pr) := by
  unfold spec_wiLeast
  have key : ∀ k m n, m + k = W → k < n → 1 ≤ m → spec_wiLeast_L3 n xs (m : Int) (fun t2 t3 => K t2 t3) = K W ((DP xs W).map pr) := by
    intro k
    induction k with
    | zero =>
      intro m n hm hn _
      obtain ⟨n, rfl⟩ : ∃ q, n = q + 1 := ⟨n - 1, by omega⟩
      have : m = W := by omega
      subst this
      have hpos : 0 < (DP xs m).length := List.length_pos_iff.2 hne
      rw [spec_wiLeast_L3_s]
      unfold spec_wiLeast_R3
      rw [spec_wiAll_eq h hW, bif_dec, if_pos (by simp; omega)]
    | succ k ih =>
      intro m n hm hn _
      obtain ⟨n, rfl⟩ : ∃ q, n = q + 1 := ⟨n - 1, by omega⟩
      rw [spec_wiLeast_L3_s]
      unfold spec_wiLeast_R3
      rw [spec_wiAll_eq h (by omega), hno m (by omega), bif_dec, if_neg (by simp), w64_nat (by omega)]
      exact ih (m + 1) n (by omega) (by omega) (by omega)
  exact key (W - 1) 1 LIMN (by omega) (limn_lt (by omega)) (by omega)
/-! ### what the program drops -/
theorem index_eq {xs : List Pg} (hl : 0 < xs.length) (hl2 : xs.length < 1000000) (hs : ∀ p ∈ xs, Sm p) {L : List Pg} (hL : L.length < 1000000) (hd : ∀ d ∈ L, Sm d) (W : Int) (K : Int → Option ρ) :
    slices_IndexFunc_Peg_at_least_1 L (xs, W) K = match L.findIdx? (fun d => decide (wd d xs > W)) with | some i => K (i : Int) | none => K (-1) := by
  unfold slices_IndexFunc_Peg_at_least_1
  have key : ∀ m n i, i + m = L.length → m < n → slices_IndexFunc_Peg_at_least_1_L2 n L (xs, W) (L.length : Int) (i : Int) (fun t4 => K t4) (K (-1)) = match (L.drop i).findIdx? (fun d => decide (wd d xs > W)) with | some j => K ((i + j : Nat) : Int) | none => K (-1) := by
    intro m
    induction m with
    | zero =>
      intro n i hi hn
      obtain ⟨n, rfl⟩ : ∃ q, n = q + 1 := ⟨n - 1, by omega⟩
      rw [slices_IndexFunc_Peg_at_least_1_L2_s]
      unfold slices_IndexFunc_Peg_at_least_1_R2
      rw [bif_dec, if_neg (by omega), List.drop_eq_nil_of_le (by omega)]
      rfl
    | succ m ih =>
      intro n i hi hn
      obtain ⟨n, rfl⟩ : ∃ q, n = q + 1 := ⟨n - 1, by omega⟩
      rw [slices_IndexFunc_Peg_at_least_1_L2_s]
      unfold slices_IndexFunc_Peg_at_least_1_R2 impl_least_1
      rw [bif_dec, if_pos (by omega), inB_nat (by omega), chk_true, Int.toNat_natCast, impl_width_eq hl hl2 (hd _ (getD_mem (by omega))) hs]
      dsimp only
      rw [bif_dec, w64_nat (by omega), drop_cons (0, 0) (show i < L.length by omega), List.findIdx?_cons]
      by_cases hc : wd (L.getD i (0, 0)) xs > W
      · rw [if_pos hc, decide_eq_true hc]; rfl
      · rw [if_neg hc, decide_eq_false hc]
        refine (ih n (i + 1) (by omega) (by omega)).trans ?_
        simp only [Bool.false_eq_true, if_false]
        cases List.findIdx? (fun d => decide (wd d xs > W)) (L.drop (i + 1)) with
        | none => rfl
        | some j =>
          show K ((i + 1 + j : Nat) : Int) = K ((i + (j + 1) : Nat) : Int)
          rw [show i + 1 + j = i + (j + 1) by omega]
  have := key L.length LIMN 0 (by omega) (limn_lt (by omega))
  rw [List.drop_zero] at this
  refine Eq.trans this ?_
  cases List.findIdx? (fun d => decide (wd d xs > W)) L with
  | none => rfl
  | some j => show K _ = K _; congr 2; omega
/-- One step of the packing. -/
noncomputable def pack (xs : List Pg) (W : Int) (j : Nat) (s : List Pg × Nat) : List Pg × Nat := if wd (s.1.getD j (0, 0)) xs > W then s else (s.1.set s.2 (s.1.getD j (0, 0)), s.2 + 1)
def packed (L : List Pg) (p : Pg → Bool) (j : Nat) (s : List Pg × Nat) : Prop := s.1.length = L.length ∧ s.2 < j ∧ s.1.take s.2 = (L.take j).filter p ∧ s.1.drop j = L.drop j
theorem packed_step {L : List Pg} {xs : List Pg} {W : Int} {j : Nat} {s : List Pg × Nat} (hj : j < L.length) (h : packed L (fun d => decide (wd d xs ≤ W)) j s) : packed L (fun d => decide (wd d xs ≤ W)) (j + 1) (pack xs W j s) ∧ s.1.getD j (0, 0) = L.getD j (0, 0) := by
  obtain ⟨h1, h2, h3, h4⟩ := h
  have e : s.1.getD j (0, 0) = L.getD j (0, 0) := by
    have := drop_cons (0, 0) (show j < s.1.length by omega)
    rw [h4, drop_cons (0, 0) hj] at this
    exact (List.cons.inj this).1.symm
  have e2 : s.1.drop (j + 1) = L.drop (j + 1) := by
    have := congrArg (List.drop 1) h4
    simpa using this
  have e3 : L.take (j + 1) = L.take j ++ [L.getD j (0, 0)] := by rw [getD_eq hj]; exact List.take_succ_eq_append_getElem hj
  refine ⟨?_, e⟩
  unfold pack
  rw [e]
  by_cases hc : wd (L.getD j (0, 0)) xs > W
  · rw [if_pos hc]
    refine ⟨h1, by omega, ?_, e2⟩
    rw [h3, e3, List.filter_append, List.filter_cons, if_neg (by simpa using hc)]; simp
  · rw [if_neg hc]
    refine ⟨by simp [h1], by dsimp only; omega, ?_, ?_⟩
    · dsimp only
      rw [List.take_succ_eq_append_getElem (by rw [List.length_set]; omega), List.getElem_set_self, List.take_set_of_le (Nat.le_refl _), h3, e3, List.filter_append, List.filter_cons, if_pos (by simpa using hc)]; simp
    · dsimp only
      rw [List.drop_set_of_lt (by omega)]; exact e2
theorem delete_eq {xs : List Pg} (hl : 0 < xs.length) (hl2 : xs.length < 1000000) (hs : ∀ p ∈ xs, Sm p) {L : List Pg} (hL : L.length < 1000000) (hd : ∀ d ∈ L, Sm d) (W : Int) (K : List Pg → Option ρ) :
    slices_DeleteFunc_Peg_at_least_1 L (xs, W) K = K (L.filter (fun d => decide (wd d xs ≤ W))) := by
  unfold slices_DeleteFunc_Peg_at_least_1
  rw [index_eq hl hl2 hs hL hd]
  cases hf : List.findIdx? (fun d => decide (wd d xs > W)) L with
  | none =>
    dsimp only
    rw [bif_dec, if_pos rfl]
    congr 1
    symm
    rw [List.filter_eq_self]
    intro d hd
    rw [List.findIdx?_eq_none_iff] at hf
    have := hf d hd
    simp at this ⊢
    omega
  | some i =>
    dsimp only
    rw [List.findIdx?_eq_some_iff_getElem] at hf
    obtain ⟨hi, hw, hb⟩ := hf
    rw [bif_dec, if_neg (by omega), w64_nat (by omega)]
    have h0 : packed L (fun d => decide (wd d xs ≤ W)) (i + 1) (L, i) := by
      refine ⟨rfl, by omega, ?_, rfl⟩
      dsimp only
      rw [List.take_succ_eq_append_getElem hi, List.filter_append, List.filter_cons, if_neg (by simpa using hw)]
      simp only [List.filter_nil, List.append_nil]
      symm
      rw [List.filter_eq_self]
      intro d hd
      obtain ⟨k, hk, rfl⟩ := List.getElem_of_mem hd
      rw [List.length_take] at hk
      rw [List.getElem_take]
      have := hb k (by omega)
      simp at this ⊢
      omega
    have h := fold_loop (σ := List Pg × Nat) (g := fun n j s => slices_DeleteFunc_Peg_at_least_1_L5 n s.1 (xs, W) (s.2 : Int) (j : Int) (fun s1 i =>
       chk (decide (0 ≤ i) && decide (i ≤ (s1.length : Int))) <|
       chk (decide (0 < (s1.drop (Int.toNat i)).length) && decide ((0 + (Int.toNat i)) + (s1.drop (Int.toNat i)).length ≤ s1.length)) <|
       chk (decide (0 ≤ i) && decide (i ≤ ((s1.take (0 + (Int.toNat i)) ++ List.replicate (s1.drop (Int.toNat i)).length ((0 : Int), (0 : Int)) ++ s1.drop ((0 + (Int.toNat i)) + (s1.drop (Int.toNat i)).length)).length : Int))) <|
       K ((s1.take (0 + (Int.toNat i)) ++ List.replicate (s1.drop (Int.toNat i)).length ((0 : Int), (0 : Int)) ++ s1.drop ((0 + (Int.toNat i)) + (s1.drop (Int.toNat i)).length)).take (Int.toNat i)))) (len := L.length) (f := pack xs W) (I := packed L (fun d => decide (wd d xs ≤ W))) (K := fun _ => K (L.filter (fun d => decide (wd d xs ≤ W)))) (by
      intro n j s hj hI
      have hp := packed_step hj hI
      obtain ⟨h1, h2, h3, h4⟩ := hI
      rw [slices_DeleteFunc_Peg_at_least_1_L5_s]
      unfold slices_DeleteFunc_Peg_at_least_1_R5 impl_least_1
      rw [bif_dec, if_pos (by omega), inB_nat (by omega), chk_true, Int.toNat_natCast, impl_width_eq hl hl2 (by rw [hp.2]; exact hd _ (getD_mem hj)) hs]
      dsimp only
      rw [bif_ndec, inB_nat (by omega), chk_true, Int.toNat_natCast, Nat.zero_add, chk_dec (by omega), w64_nat (by omega), w64_nat (by omega)]
      unfold pack
      by_cases hc : wd (s.1.getD j (0, 0)) xs > W
      · rw [if_pos hc, if_pos hc]
      · rw [if_neg hc, if_neg hc]) (fun j s hj hI => (packed_step hj hI).1) (by
      intro n s hI
      obtain ⟨h1, h2, h3, h4⟩ := hI
      rw [slices_DeleteFunc_Peg_at_least_1_L5_s]
      unfold slices_DeleteFunc_Peg_at_least_1_R5
      rw [bif_dec, if_neg (by omega)]
      dsimp only
      rw [Int.toNat_natCast, Nat.zero_add]
      rw [show (decide ((0 : Int) ≤ (s.2 : Int)) && decide ((s.2 : Int) ≤ (s.1.length : Int))) = true by simp; omega, chk_true]
      rw [show (decide (0 < (s.1.drop s.2).length) && decide (s.2 + (s.1.drop s.2).length ≤ s.1.length)) = true by simp; omega, chk_true]
      rw [show (decide ((0 : Int) ≤ (s.2 : Int)) && decide ((s.2 : Int) ≤ ((s.1.take s.2 ++ List.replicate (s.1.drop s.2).length ((0 : Int), (0 : Int)) ++ s.1.drop (s.2 + (s.1.drop s.2).length)).length : Int))) = true by simp; omega, chk_true]
      congr 1
      rw [List.append_assoc, List.take_append_of_le_length (by simp; omega), List.take_take, Nat.min_self, h3, List.take_of_length_le (by omega)]) (L.length - (i + 1)) LIMN (i + 1) (L, i) (by omega) (limn_lt (by omega)) h0
    exact h
end
end Go.Proofs.Ga

namespace Go.Proofs.Ga
open Go.VI Go.Sort
open Classical
section
variable {ρ : Type}
/-! ### the least width -/
def minF (xs L : List Pg) (i : Nat) (m : Int) : Int := min m (wd (L.getD i (0, 0)) xs)
theorem least_L4 {xs : List Pg} (hl : 0 < xs.length) (hl2 : xs.length < 1000000) (hs : ∀ p ∈ xs, Sm p) {L : List Pg} (hL : L.length < 1000000) (hd : ∀ d ∈ L, Sm d) (m : Int) (k0 : List Pg → List Pg → Int → Option ρ) :
    impl_least_L4 LIMN xs L m (0, L) (L.length : Int) 0 k0 = k0 xs L (itr (minF xs L) 0 L.length m) := by
  have h := fold_loop (σ := Int) (g := fun n i m => impl_least_L4 n xs L m (0, L) (L.length : Int) (i : Int) k0) (len := L.length) (f := minF xs L) (I := fun _ _ => True) (K := fun m => k0 xs L m) (by
    intro n i m hi _
    rw [impl_least_L4_s]
    unfold impl_least_R4
    dsimp only
    rw [bif_dec, if_pos (by omega), inB_nat hi, chk_true, Int.toNat_natCast, impl_width_eq hl hl2 (hd _ (getD_mem hi)) hs, w64_nat (by omega)]
    rfl) (fun _ _ _ _ => trivial) (by
    intro n m _
    rw [impl_least_L4_s]
    unfold impl_least_R4
    rw [bif_dec, if_neg (by omega)]) L.length LIMN 0 m (by omega) (limn_lt (by omega)) trivial
  exact h
theorem DP_len (xs : List Pg) {M : Nat} (hM : M ≤ 100) : (DP xs M).length ≤ 40401 := by
  have hr := D_rel xs (eA xs) (eB xs) (eR xs) M
  have hlen := hr.1.length_eq
  have hle : (whole (stepI xs (eA xs) (eB xs) (eR xs) M) M).length ≤ 0 + (2 * M + 1) * (2 * M + 1) := itr_len (fun i s => len_I xs _ _ _ _ M i s) (2 * M + 1) 0 []
  have hle2 : (2 * M + 1) * (2 * M + 1) ≤ 201 * 201 := Nat.mul_le_mul (by omega) (by omega)
  unfold DP
  omega
theorem least_ex {xs : List Pg} (h : Poly xs) : ∃ W : Nat, 1 ≤ W ∧ W ≤ 100 ∧ DP xs W ≠ [] ∧ (∀ m, m < W → DP xs m = []) ∧ ∀ {ρ : Type} (K : List Pg → Int → Option ρ), impl_least xs K = K (DP xs W) W := by
  have h3 := h.low
  have hh := h.high
  have c := h.ctx
  have hw := wd_axis h
  have p1 := wd_pos h prim10
  have p2 := wd_pos h prim01
  have hm := h.sm
  obtain ⟨M, hM⟩ : ∃ M : Nat, min (wd (1, 0) xs) (wd (0, 1) xs) = (M : Int) := ⟨(min (wd (1, 0) xs) (wd (0, 1) xs)).toNat, by omega⟩
  have hM1 : M ≤ 100 := by omega
  have hne : DP xs M ≠ [] := by
    rcases Int.le_total (wd (1, 0) xs) (wd (0, 1) xs) with hx | hx
    · have : (1, 0) ∈ DP xs M := (mem_D c).2 ⟨prim10, by omega⟩
      exact List.ne_nil_of_mem this
    · have : (0, 1) ∈ DP xs M := (mem_D c).2 ⟨prim01, by omega⟩
      exact List.ne_nil_of_mem this
  have hpos : 0 < (DP xs M).length := List.length_pos_iff.2 hne
  have hlen := DP_len xs hM1
  have inv := itr_inv2 (f := minF xs (DP xs M)) (len := (DP xs M).length) (fun j m => (∀ i, i < j → m ≤ wd ((DP xs M).getD i (0, 0)) xs) ∧ ∃ i, i < (DP xs M).length ∧ m = wd ((DP xs M).getD i (0, 0)) xs) (by
    rintro j m hj ⟨h1, i, hi, h2⟩
    unfold minF
    refine ⟨fun k hk => ?_, ?_⟩
    · rcases Nat.lt_or_ge k j with hk2 | hk2
      · have := h1 k hk2; omega
      · have : k = j := by omega
        subst this
        omega
    · by_cases hx : m ≤ wd ((DP xs M).getD j (0, 0)) xs
      · exact ⟨i, hi, by omega⟩
      · exact ⟨j, hj, by omega⟩) (wd ((DP xs M).getD 0 (0, 0)) xs) ⟨fun i hi => by omega, ⟨0, hpos, rfl⟩⟩
  generalize hW0 : itr (minF xs (DP xs M)) 0 (DP xs M).length (wd ((DP xs M).getD 0 (0, 0)) xs) = W0 at inv
  obtain ⟨i1, i, hi, i2⟩ := inv
  have hmem : prim ((DP xs M).getD i (0, 0)) ∧ wd ((DP xs M).getD i (0, 0)) xs ≤ M := (mem_D c).1 (getD_mem (d := ((0 : Int), (0 : Int))) hi)
  have hge := wd_pos h hmem.1
  obtain ⟨W, rfl⟩ : ∃ W : Nat, W0 = (W : Int) := ⟨W0.toNat, by omega⟩
  have hWM : W ≤ M := by omega
  refine ⟨W, by omega, by omega, ?_, ?_, ?_⟩
  · exact List.ne_nil_of_mem ((mem_D c).2 ⟨hmem.1, by omega⟩)
  · intro m hmW
    rw [List.eq_nil_iff_forall_not_mem]
    intro d hd
    have hd' := (mem_D c).1 hd
    have hd2 : d ∈ DP xs M := (mem_D c).2 ⟨hd'.1, by omega⟩
    obtain ⟨k, hk, rfl⟩ := List.getElem_of_mem hd2
    have := i1 k hk
    rw [getD_eq hk] at this
    omega
  · intro ρ K
    unfold impl_least
    rw [impl_width_eq (d := ((1 : Int), (0 : Int))) (by omega) (by omega) (by unfold Sm; decide) hm, impl_width_eq (d := ((0 : Int), (1 : Int))) (by omega) (by omega) (by unfold Sm; decide) hm, hM, impl_directions_eq h hM1 hne, inB_of (by omega) (by omega), chk_true, impl_width_eq (by omega) (by omega) (sm_of_D h hM1 (getD_mem hpos)) hm]
    rw [least_L4 (by omega) (by omega) hm (by omega) (fun d hd => sm_of_D h hM1 hd), hW0, delete_eq (by omega) (by omega) hm (by omega) (fun d hd => sm_of_D h hM1 hd)]
    exact congrArg (fun l => K l W) (D_filter c hWM)
theorem dow_L6 {L : List Pg} (hL : L.length < 1000000) (k0 : List (List Int) → Option ρ) : impl_DirectionsOfWidth_L6 LIMN [] L (L.length : Int) 0 k0 = k0 (L.map pr) := by
  have hLIM : 1000000000 < LIM := by unfold LIM; decide
  have h := fold_loop (σ := List (List Int)) (g := fun n i out => impl_DirectionsOfWidth_L6 n out L (L.length : Int) (i : Int) k0) (len := L.length) (f := fun i out => out ++ [pr (L.getD i (0, 0))]) (I := fun i out => out = (L.take i).map pr) (K := fun _ => k0 (L.map pr)) (by
    intro n i out hi hI
    rw [impl_DirectionsOfWidth_L6_s]
    unfold impl_DirectionsOfWidth_R6
    rw [bif_dec, if_pos (by omega), inB_nat hi, chk_true, Int.toNat_natCast, chk_dec (by rw [hI]; simp; omega), w64_nat (by omega)]
    rfl) (by
    rintro i out hi rfl
    rw [List.take_succ_eq_append_getElem hi, List.map_append, getD_eq hi]; rfl) (by
    rintro n out rfl
    rw [impl_DirectionsOfWidth_L6_s]
    unfold impl_DirectionsOfWidth_R6
    rw [bif_dec, if_neg (by omega), List.take_length]) L.length LIMN 0 [] (by omega) (limn_lt (by omega)) (by simp)
  exact h
/-- The reference and the program answer alike. -/
theorem both (xs : List Pg) : ∃ (r : List Pg) (b : Bool), r.length ≤ 40401 ∧ (∀ {ρ : Type} (K : List (List Int) → Bool → Option ρ), spec_DirectionsOfWidth xs K = K (r.map pr) b) ∧ (∀ {ρ : Type} (K : List (List Int) → Bool → Option ρ), impl_DirectionsOfWidth xs K = K (r.map pr) b) := by
  cases hp : poly xs with
  | false =>
    refine ⟨[], false, by simp, ?_, ?_⟩
    · intro ρ K
      unfold spec_DirectionsOfWidth
      rw [spec_pgGood_eq, hp]; rfl
    · intro ρ K
      unfold impl_DirectionsOfWidth
      rw [impl_IsPolygon_eq, hp]; rfl
  | true =>
    have h : Poly xs := by unfold poly at hp; exact of_decide_eq_true hp
    obtain ⟨W, h1, hW, hne, hno, hi⟩ := least_ex h
    have hlen := DP_len xs hW
    refine ⟨DP xs W, true, hlen, ?_, ?_⟩
    · intro ρ K
      unfold spec_DirectionsOfWidth
      rw [spec_pgGood_eq, hp]
      simp only [Bool.not_true, cond_false]
      rw [spec_wiLeast_eq h h1 hW hne hno]
    · intro ρ K
      unfold impl_DirectionsOfWidth
      rw [impl_IsPolygon_eq, hp]
      simp only [Bool.not_true, cond_false]
      rw [hi, dow_L6 (by omega)]
/-! ### the law's own loops -/
theorem toPegS_eq {xs : List Pg} (hl : xs.length ≤ 2000000) (K : List Pg → Option ρ) : laws_toPegS xs K = K xs := by
  unfold laws_toPegS
  have hLIM : 1000000000 < LIM := by unfold LIM; decide
  rw [show (decide (0 ≤ (xs.length : Int)) && (decide ((xs.length : Int) ≤ (xs.length : Int)) && decide ((xs.length : Int) ≤ (LIM : Int)))) = true by simp; omega, chk_true, Int.toNat_natCast]
  have h := fold_loop (σ := List Pg) (g := fun n i out => laws_toPegS_L3 n xs out (i : Int) (fun out => K out)) (len := xs.length) (f := fun i out => out.set i (xs.getD i (0, 0))) (I := fun i out => out.length = xs.length ∧ out.take i = xs.take i) (K := fun _ => K xs) (by
    rintro n i out hi ⟨h1, h2⟩
    rw [laws_toPegS_L3_s]
    unfold laws_toPegS_R3 laws_toPeg
    rw [bif_dec, if_pos (by omega), inB_nat hi, chk_true, Int.toNat_natCast, inB_nat (by omega)]
    dsimp only
    rw [chk_true, Nat.zero_add, chk_dec (by omega), w64_nat (by omega)]) (by
    rintro i out hi ⟨h1, h2⟩
    refine ⟨by simpa using h1, ?_⟩
    rw [List.take_succ_eq_append_getElem (by rw [List.length_set]; omega), List.getElem_set_self, List.take_set_of_le (Nat.le_refl _), h2, List.take_succ_eq_append_getElem hi, getD_eq hi]) (by
    rintro n out ⟨h1, h2⟩
    rw [laws_toPegS_L3_s]
    unfold laws_toPegS_R3
    rw [bif_dec, if_neg (by omega)]
    rw [List.take_length, List.take_of_length_le (by omega)] at h2
    rw [h2]) xs.length LIMN 0 (List.replicate xs.length (0, 0)) (by omega) (limn_lt (by omega)) ⟨by simp, by simp⟩
  exact h
theorem eqIntS_self {l : List Int} (hl : l.length ≤ 2000000) (K : Bool → Option ρ) : laws_eqIntS l l K = K true := by
  unfold laws_eqIntS
  rw [bif_ndec, if_pos rfl]
  have h := search_loop (g := fun n i => laws_eqIntS_L4 n l l (i : Int) (fun t4 => K t4) (K true)) (lo := 0) (len := l.length) (c := fun _ => False) (A := K true) (B := K true) (by
    intro n i _ hi
    rw [laws_eqIntS_L4_s]
    unfold laws_eqIntS_R4
    rw [bif_dec, if_pos (by omega), inB_nat hi, chk_true, chk_true, bif_ndec, if_pos rfl, if_neg (by simp), w64_nat (by omega)]) (by
    intro n
    rw [laws_eqIntS_L4_s]
    unfold laws_eqIntS_R4
    rw [bif_dec, if_neg (by omega)]) l.length LIMN 0 (Nat.le_refl _) (by omega) (limn_lt (by omega))
  refine Eq.trans h ?_
  split <;> rfl
theorem eqIntSS_self {l : List (List Int)} (hl : l.length ≤ 2000000) (h2 : ∀ x ∈ l, x.length ≤ 2000000) (K : Bool → Option ρ) : laws_eqIntSS l l K = K true := by
  unfold laws_eqIntSS
  rw [bif_ndec, if_pos rfl]
  have h := search_loop (g := fun n i => laws_eqIntSS_L4 n l l (i : Int) (fun t4 => K t4) (K true)) (lo := 0) (len := l.length) (c := fun _ => False) (A := K true) (B := K true) (by
    intro n i _ hi
    rw [laws_eqIntSS_L4_s]
    unfold laws_eqIntSS_R4
    rw [bif_dec, if_pos (by omega), inB_nat hi, chk_true, chk_true, Int.toNat_natCast, eqIntS_self (h2 _ (getD_mem hi)), if_neg (by simp), w64_nat (by omega)]
    rfl) (by
    intro n
    rw [laws_eqIntSS_L4_s]
    unfold laws_eqIntSS_R4
    rw [bif_dec, if_neg (by omega)]) l.length LIMN 0 (Nat.le_refl _) (by omega) (limn_lt (by omega))
  refine Eq.trans h ?_
  split <;> rfl
theorem eqPeg_self (p : Pg) (K : Bool → Option ρ) : laws_eqPeg p p K = K true := by
  unfold laws_eqPeg
  rw [bif_ndec, if_pos rfl, bif_ndec, if_pos rfl]
theorem eqPegS_self {l : List Pg} (hl : l.length ≤ 2000000) (K : Bool → Option ρ) : laws_eqPegS l l K = K true := by
  unfold laws_eqPegS
  rw [bif_ndec, if_pos rfl]
  have h := search_loop (g := fun n i => laws_eqPegS_L4 n l l (i : Int) (fun t4 => K t4) (K true)) (lo := 0) (len := l.length) (c := fun _ => False) (A := K true) (B := K true) (by
    intro n i _ hi
    rw [laws_eqPegS_L4_s]
    unfold laws_eqPegS_R4
    rw [bif_dec, if_pos (by omega), inB_nat hi, chk_true, chk_true, Int.toNat_natCast, eqPeg_self, if_neg (by simp), w64_nat (by omega)]
    rfl) (by
    intro n
    rw [laws_eqPegS_L4_s]
    unfold laws_eqPegS_R4
    rw [bif_dec, if_neg (by omega)]) l.length LIMN 0 (Nat.le_refl _) (by omega) (limn_lt (by omega))
  refine Eq.trans h ?_
  split <;> rfl
theorem markPegS_ex {l : List Pg} (hl : l.length ≤ 2000000) : ∃ w : List Pg, ∀ {ρ : Type} (K : Int → List Pg → Option ρ), laws_markPegS 1 l K = K (1 + 2 * (l.length : Int)) w := by
  let f : Nat → List Pg → List Pg := fun i o => (o.set i (1 + 2 * (i : Int), (o.getD i (0, 0)).2)).set i (((o.set i (1 + 2 * (i : Int), (o.getD i (0, 0)).2)).getD i (0, 0)).1, 1 + 2 * (i : Int) + 1)
  refine ⟨itr f 0 l.length l, fun {ρ} K => ?_⟩
  unfold laws_markPegS
  have h := fold_loop (σ := List Pg) (g := fun n i o => laws_markPegS_L2 n o (1 + 2 * (i : Int)) (i : Int) (fun o01 k1 => K k1 o01)) (len := l.length) (f := f) (I := fun i out => out.length = l.length) (K := fun o => K (1 + 2 * (l.length : Int)) o) (by
    rintro n i out hi h1
    rw [laws_markPegS_L2_s]
    unfold laws_markPegS_R2
    rw [bif_dec, if_pos (by omega), inB_nat (by omega), chk_true, Int.toNat_natCast, Nat.zero_add, chk_dec (by omega), inB_nat (by simp; omega), chk_true, chk_dec (by simp; omega), w64_nat (by omega), w64_eq (n := 1 + 2 * (i : Int) + 1) (by omega) (by omega), w64_eq (by omega) (by omega), show 1 + 2 * (i : Int) + 1 + 1 = 1 + 2 * ((i + 1 : Nat) : Int) by omega]) (by
    intro i out hi h1
    simpa [f] using h1) (by
    intro n out h1
    rw [laws_markPegS_L2_s]
    unfold laws_markPegS_R2
    rw [bif_dec, if_neg (by omega)]) l.length LIMN 0 l (by omega) (limn_lt (by omega)) rfl
  exact h
theorem limn_three : ∃ m, LIMN = m + 3 := ⟨LIMN - 3, by rw [LIMN_eq]⟩
theorem two_of {l : List Int} (h : l.length = 2) : ∃ a b, l = [a, b] := by
  match l, h with
  | [a, b], _ => exact ⟨a, b, rfl⟩
theorem mark2 (k a b : Int) (h1 : 0 ≤ k) (h2 : k < 1000000000) (K : Int → List Int → Option ρ) : laws_markIntS k [a, b] K = K (k + 2) [k, k + 1] := by
  unfold laws_markIntS
  obtain ⟨m, hm⟩ := limn_three
  rw [hm]
  rw [laws_markIntS_L2_s]
  unfold laws_markIntS_R2
  rw [bif_dec, if_pos (by simp), inB_of (by omega) (by simp), chk_true, chk_dec (by simp), w64_eq (by omega) (by omega), w64_eq (by omega) (by omega)]
  dsimp only
  rw [laws_markIntS_L2_s]
  unfold laws_markIntS_R2
  rw [bif_dec, if_pos (by simp), inB_of (by omega) (by simp), chk_true, chk_dec (by simp), w64_eq (by omega) (by omega), w64_eq (by omega) (by omega)]
  dsimp only
  rw [laws_markIntS_L2_s]
  unfold laws_markIntS_R2
  rw [bif_dec, if_neg (by simp)]
  rw [show k + 1 + 1 = k + 2 by omega]
  rfl
theorem held2 (k : Int) (h1 : 0 ≤ k) (h2 : k < 1000000000) (K : Int → Option ρ) : laws_heldIntS [k, k + 1] k K = K (k + 2) := by
  unfold laws_heldIntS
  obtain ⟨m, hm⟩ := limn_three
  rw [hm]
  rw [laws_heldIntS_L2_s]
  unfold laws_heldIntS_R2
  rw [bif_dec, if_pos (by simp), inB_of (by omega) (by simp), chk_true, bif_ndec, if_pos (by rfl), w64_eq (by omega) (by omega), w64_eq (by omega) (by omega)]
  dsimp only
  rw [laws_heldIntS_L2_s]
  unfold laws_heldIntS_R2
  rw [bif_dec, if_pos (by simp), inB_of (by omega) (by simp), chk_true, bif_ndec, if_pos (by rfl), w64_eq (by omega) (by omega), w64_eq (by omega) (by omega)]
  dsimp only
  rw [laws_heldIntS_L2_s]
  unfold laws_heldIntS_R2
  rw [bif_dec, if_neg (by simp)]
  rw [show k + 1 + 1 = k + 2 by omega]
def blk (i : Nat) : List Int := [1 + 2 * (i : Int), 1 + 2 * (i : Int) + 1]
theorem getD_set {α : Type} {l : List α} {i j : Nat} {v d : α} (hi : i < l.length) : (l.set i v).getD j d = if i = j then v else l.getD j d := by
  rw [List.getD_eq_getElem?_getD, List.getElem?_set, List.getD_eq_getElem?_getD]
  by_cases h : i = j
  · subst h; simp [hi]
  · simp [h]
theorem marks_ex {l : List (List Int)} (hl : l.length ≤ 2000000) (h2 : ∀ x ∈ l, x.length = 2) : ∃ w : List (List Int), (w.length = l.length ∧ ∀ j, j < l.length → w.getD j [] = blk j) ∧ ∀ {ρ : Type} (K : Int → List (List Int) → Option ρ), laws_markIntSS 1 l K = K (1 + 2 * (l.length : Int)) w := by
  have hI : ∀ i (s : List (List Int)), i < l.length → (s.length = l.length ∧ (∀ j, j < i → s.getD j [] = blk j) ∧ ∀ j, i ≤ j → j < l.length → (s.getD j []).length = 2) → ((s.set i (blk i)).length = l.length ∧ (∀ j, j < i + 1 → (s.set i (blk i)).getD j [] = blk j) ∧ ∀ j, i + 1 ≤ j → j < l.length → ((s.set i (blk i)).getD j []).length = 2) := by
    rintro i s hi ⟨h1, h3, h4⟩
    refine ⟨by simpa using h1, fun j hj => ?_, fun j hj hj2 => ?_⟩
    · rw [getD_set (by omega)]
      by_cases hx : i = j
      · subst hx; simp
      · rw [if_neg hx]; exact h3 j (by omega)
    · rw [getD_set (by omega), if_neg (by omega)]
      exact h4 j (by omega) hj2
  have h0 : l.length = l.length ∧ (∀ j, j < 0 → l.getD j [] = blk j) ∧ ∀ j, 0 ≤ j → j < l.length → (l.getD j []).length = 2 := ⟨rfl, fun j hj => by omega, fun j _ hj => h2 _ (getD_mem hj)⟩
  have key := itr_inv2 (f := fun i (o : List (List Int)) => o.set i (blk i)) (len := l.length) _ hI l h0
  refine ⟨itr (fun i (o : List (List Int)) => o.set i (blk i)) 0 l.length l, ⟨key.1, key.2.1⟩, fun {ρ} K => ?_⟩
  unfold laws_markIntSS
  have h := fold_loop (σ := List (List Int)) (g := fun n i o => laws_markIntSS_L2 n o (1 + 2 * (i : Int)) (i : Int) (fun o01 k1 => K k1 o01)) (len := l.length) (f := fun i (o : List (List Int)) => o.set i (blk i)) (I := fun i s => s.length = l.length ∧ (∀ j, j < i → s.getD j [] = blk j) ∧ ∀ j, i ≤ j → j < l.length → (s.getD j []).length = 2) (K := fun o => K (1 + 2 * (l.length : Int)) o) (by
    rintro n i out hi ⟨h1, h3, h4⟩
    rw [laws_markIntSS_L2_s]
    unfold laws_markIntSS_R2
    obtain ⟨a, b, hab⟩ := two_of (h4 i (Nat.le_refl _) hi)
    rw [bif_dec, if_pos (by omega), inB_nat (by omega), chk_true, Int.toNat_natCast, Nat.zero_add, chk_dec (by omega), hab, mark2 _ _ _ (by omega) (by omega), w64_nat (by omega), show 1 + 2 * (i : Int) + 2 = 1 + 2 * ((i + 1 : Nat) : Int) by omega]
    rfl) hI (by
    rintro n out ⟨h1, h3, h4⟩
    rw [laws_markIntSS_L2_s]
    unfold laws_markIntSS_R2
    rw [bif_dec, if_neg (by omega)]) l.length LIMN 0 l (by omega) (limn_lt (by omega)) h0
  exact h
theorem held_eq {w : List (List Int)} (hl : w.length ≤ 2000000) (hw : ∀ j, j < w.length → w.getD j [] = blk j) (K : Int → Option ρ) : laws_heldIntSS w 1 K = K (1 + 2 * (w.length : Int)) := by
  unfold laws_heldIntSS
  have h := fold_loop (σ := Unit) (g := fun n i _ => laws_heldIntSS_L2 n w (1 + 2 * (i : Int)) (i : Int) (fun k1 t4 => K t4) (fun k2 => K k2)) (len := w.length) (f := fun _ u => u) (I := fun _ _ => True) (K := fun _ => K (1 + 2 * (w.length : Int))) (by
    rintro n i out hi _
    rw [laws_heldIntSS_L2_s]
    unfold laws_heldIntSS_R2
    rw [bif_dec, if_pos (by omega), inB_nat (by omega), chk_true, Int.toNat_natCast, hw i hi]
    unfold blk
    rw [held2 _ (by omega) (by omega)]
    rw [bif_dec, if_neg (by omega), w64_nat (by omega), show 1 + 2 * (i : Int) + 2 = 1 + 2 * ((i + 1 : Nat) : Int) by omega]) (fun _ _ _ _ => trivial) (by
    rintro n out _
    rw [laws_heldIntSS_L2_s]
    unfold laws_heldIntSS_R2
    rw [bif_dec, if_neg (by omega)]) w.length LIMN 0 () (by omega) (limn_lt (by omega)) trivial
  exact h
/-- The law answers true. -/
theorem law_true (xs : List Pg) (hx : xs.length ≤ 9223372036854775807) (K : Bool → Option ρ) : laws_FnExactDirectionsOfWidth xs K = K true := by
  unfold laws_FnExactDirectionsOfWidth laws_szPegS
  rw [w64_eq (by omega) (by omega), bif_dec]
  by_cases h0 : (1048576 : Int) - xs.length < 0
  · rw [if_pos h0]
    rfl
  · rw [if_neg h0]
    dsimp only
    rw [bif_dec, if_neg h0, toPegS_eq (by omega)]
    obtain ⟨r, b, hr, hs, hi⟩ := both xs
    have hlen : (r.map pr).length ≤ 2000000 := by simp; omega
    have h2 : ∀ x ∈ r.map pr, x.length = 2 := by
      intro x hx
      rw [List.mem_map] at hx
      obtain ⟨p, _, rfl⟩ := hx
      rfl
    obtain ⟨w0, hw0⟩ := markPegS_ex (l := xs) (by omega)
    obtain ⟨w, ⟨hw, hw2⟩, hm⟩ := marks_ex hlen h2
    have heq : ∀ (K : Bool → Option ρ), laws_eqIntSS (r.map pr) (r.map pr) K = K true := eqIntSS_self hlen (fun x hx => by rw [h2 x hx]; omega)
    rw [hs]
    rw [toPegS_eq (by omega), hi]
    rw [heq]
    simp only [Bool.not_true, cond_false, decide_true]
    rw [toPegS_eq (by omega), eqPegS_self (by omega)]
    simp only [Bool.not_true, cond_false]
    rw [hw0]
    rw [bif_dec, if_neg (by omega), heq]
    simp only [Bool.not_true, cond_false]
    rw [hm]
    rw [held_eq (by omega) (fun j hj => hw2 j (by omega)), hw, bif_dec, if_neg (by omega), bif_ndec, if_pos rfl, toPegS_eq (by omega), hi]
    rw [heq]
    simp only [Bool.not_true, cond_false, decide_true]
    rw [held_eq (by omega) (fun j hj => hw2 j (by omega)), hw, bif_dec, if_neg (by omega), bif_ndec, if_pos rfl]
end
end Go.Proofs.Ga

namespace Go.Proofs.Ga
open Go.VI Go.Sort
open Classical
/-! ### common divisors with their factors -/
theorem L2_same {ρ : Type} (n : Nat) (a b x y u v : Int) (k0 : Int → Int → Int → Option ρ) : spec_mvFull_L2 n a b x y u v k0 = impl_bezout_L2 n a b x y u v k0 := rfl
/-- What holds of a, b, x, y, u, v when A, B were given. -/
structure Euc (A B a b x y u v : Int) : Prop where
  ea : a = x * A + y * B
  eb : b = u * A + v * B
  bu : u.natAbs * a.natAbs + x.natAbs * b.natAbs ≤ B.natAbs
  bv : v.natAbs * a.natAbs + y.natAbs * b.natAbs ≤ A.natAbs
  hu : u.natAbs ≤ B.natAbs
  hv : v.natAbs ≤ A.natAbs + 1
  hx : x.natAbs ≤ B.natAbs ∨ (a = A ∧ b = B ∧ x = 1 ∧ y = 0)
  hy : y.natAbs ≤ A.natAbs + 1
  gcd : Int.gcd a b = Int.gcd A B
theorem Euc.start (A B : Int) : Euc A B A B 1 0 0 1 where
  ea := by omega
  eb := by omega
  bu := by simp
  bv := by simp
  hu := by simp
  hv := by simp
  hx := .inr ⟨rfl, rfl, rfl, rfl⟩
  hy := by simp
  gcd := rfl
theorem nat_le_mul {a b c : Nat} (h : a * b ≤ c) (hb : 0 < b) : a ≤ c := Nat.le_trans (Nat.le_mul_of_pos_right a hb) h
theorem abs_tri (x q u : Int) : (x - q * u).natAbs ≤ x.natAbs + q.natAbs * u.natAbs := by
  rw [← Int.natAbs_mul]; omega
/-- The parts of a division. -/
theorem div_parts (a b : Int) : a.natAbs = (Int.tdiv a b).natAbs * b.natAbs + (Int.tmod a b).natAbs := by
  have h1 : (Int.tdiv a b).natAbs = a.natAbs / b.natAbs := Int.natAbs_tdiv a b
  rw [h1, Int.natAbs_tmod, Nat.mul_comm]
  exact (Nat.div_add_mod _ _).symm
theorem Euc.step {A B a b x y u v : Int} (h : Euc A B a b x y u v) (hb : b ≠ 0) : Euc A B b (Int.tmod a b) u v (x - Int.tdiv a b * u) (y - Int.tdiv a b * v) := by
  have hb0 : 0 < b.natAbs := by omega
  have hd := div_parts a b
  have em : Int.tmod a b = a - Int.tdiv a b * b := by have := Int.tmod_add_mul_tdiv a b; rw [Int.mul_comm] at this; omega
  have bu' : (x - Int.tdiv a b * u).natAbs * b.natAbs + u.natAbs * (Int.tmod a b).natAbs ≤ B.natAbs := by
    have h1 := Nat.mul_le_mul_right b.natAbs (abs_tri x (Int.tdiv a b) u)
    have h2 := h.bu
    rw [hd, Nat.mul_add] at h2
    rw [Nat.add_mul] at h1
    have e : u.natAbs * ((Int.tdiv a b).natAbs * b.natAbs) = (Int.tdiv a b).natAbs * u.natAbs * b.natAbs := by rw [← Nat.mul_assoc, Nat.mul_comm u.natAbs]
    omega
  have bv' : (y - Int.tdiv a b * v).natAbs * b.natAbs + v.natAbs * (Int.tmod a b).natAbs ≤ A.natAbs := by
    have h1 := Nat.mul_le_mul_right b.natAbs (abs_tri y (Int.tdiv a b) v)
    have h2 := h.bv
    rw [hd, Nat.mul_add] at h2
    rw [Nat.add_mul] at h1
    have e : v.natAbs * ((Int.tdiv a b).natAbs * b.natAbs) = (Int.tdiv a b).natAbs * v.natAbs * b.natAbs := by rw [← Nat.mul_assoc, Nat.mul_comm v.natAbs]
    omega
  refine ⟨h.eb, ?_, bu', bv', nat_le_mul (Nat.le_trans (Nat.le_add_right _ _) bu') hb0, Nat.le_succ_of_le (nat_le_mul (Nat.le_trans (Nat.le_add_right _ _) bv') hb0), .inl h.hu, h.hv, ?_⟩
  · rw [em]
    have key : ∀ q : Int, a - q * b = (x - q * u) * A + (y - q * v) * B := by
      intro q
      rw [h.ea, h.eb]
      simp only [Int.mul_add, Int.sub_mul, Int.mul_assoc]
      omega
    exact key _
  · rw [← h.gcd]
    unfold Int.gcd
    rw [Int.natAbs_tmod, Nat.gcd_comm a.natAbs, Nat.gcd_rec b.natAbs a.natAbs, Nat.gcd_comm]
theorem Euc.prod {A B a b x y u v : Int} (h : Euc A B a b x y u v) (hb : b ≠ 0) : (Int.tdiv a b * u).natAbs ≤ B.natAbs + B.natAbs + 1 ∧ (Int.tdiv a b * v).natAbs ≤ A.natAbs + A.natAbs + 3 := by
  have h2 := h.step hb
  have e1 := h2.hu
  have e2 := h2.hv
  have hx := h.hx
  have hy := h.hy
  have : x.natAbs ≤ B.natAbs + 1 := by
    rcases hx with hx | ⟨_, _, hx, _⟩
    · omega
    · rw [hx]; simp
  omega
theorem bezout_loop {A B : Int} (hA : A.natAbs ≤ 1000000) (hB : B.natAbs ≤ 1000000) : ∀ (m : Nat) (a b x y u v : Int), Euc A B a b x y u v → b.natAbs ≤ m → a.natAbs ≤ 1000000 → m ≤ 1000000 →
    ∃ g x' y' u' v', Euc A B g 0 x' y' u' v' ∧ ∀ {ρ : Type} (n : Nat) (k0 : Int → Int → Int → Option ρ), m < n → impl_bezout_L2 n a b x y u v k0 = k0 g x' y' := by
  intro m
  induction m with
  | zero =>
    intro a b x y u v h hb _ _
    obtain rfl : b = 0 := by omega
    refine ⟨a, x, y, u, v, h, fun {ρ} n k0 hn => ?_⟩
    obtain ⟨n, rfl⟩ : ∃ q, n = q + 1 := ⟨n - 1, by omega⟩
    rw [impl_bezout_L2_s]
    unfold impl_bezout_R2
    rw [bif_ndec, if_pos rfl]
  | succ m ih =>
    intro a b x y u v h hb ha hm
    by_cases h0 : b = 0
    · subst h0
      refine ⟨a, x, y, u, v, h, fun {ρ} n k0 hn => ?_⟩
      obtain ⟨n, rfl⟩ : ∃ q, n = q + 1 := ⟨n - 1, by omega⟩
      rw [impl_bezout_L2_s]
      unfold impl_bezout_R2
      rw [bif_ndec, if_pos rfl]
    · have hs := h.step h0
      have hp := h.prod h0
      have hd := div_parts a b
      have hlt : (Int.tmod a b).natAbs < b.natAbs := by rw [Int.natAbs_tmod]; exact Nat.mod_lt _ (by omega)
      obtain ⟨g, x', y', u', v', h1, h2⟩ := ih b (Int.tmod a b) u v _ _ hs (by omega) (by omega) (by omega)
      refine ⟨g, x', y', u', v', h1, fun {ρ} n k0 hn => ?_⟩
      obtain ⟨n, rfl⟩ : ∃ q, n = q + 1 := ⟨n - 1, by omega⟩
      rw [impl_bezout_L2_s]
      unfold impl_bezout_R2
      have em : Int.tmod a b = a - Int.tdiv a b * b := by have := Int.tmod_add_mul_tdiv a b; rw [Int.mul_comm] at this; omega
      have hq : (Int.tdiv a b).natAbs ≤ a.natAbs := by rw [show (Int.tdiv a b).natAbs = a.natAbs / b.natAbs from Int.natAbs_tdiv a b]; exact Nat.div_le_self _ _
      have hsu := hs.hu
      have hsv := hs.hv
      rw [bif_ndec, if_neg h0, nchk_dec h0, w64_eq (n := Int.tdiv a b) (by omega) (by omega)]
      rw [w64_eq (n := Int.tdiv a b * b) (by omega) (by omega), w64_eq (n := Int.tdiv a b * u) (by omega) (by omega), w64_eq (n := Int.tdiv a b * v) (by omega) (by omega), ← em, w64_eq (n := Int.tmod a b) (by omega) (by omega), w64_eq (n := x - Int.tdiv a b * u) (by omega) (by omega), w64_eq (n := y - Int.tdiv a b * v) (by omega) (by omega)]
      exact h2 n k0 (by omega)
theorem bezout_ex {A B : Int} (hA : A.natAbs ≤ 1000000) (hB : B.natAbs ≤ 1000000) : ∃ g x y u v, Euc A B g 0 x y u v ∧ (∀ {ρ : Type} (K : Int → Int → Int → Option ρ), impl_bezout A B K = K g x y) ∧ (∀ {ρ : Type} (k0 : Int → Int → Int → Option ρ), spec_mvFull_L2 LIMN A B 1 0 0 1 k0 = k0 g x y) := by
  obtain ⟨g, x, y, u, v, h1, h2⟩ := bezout_loop hA hB B.natAbs A B 1 0 0 1 (Euc.start A B) (Nat.le_refl _) hA hB
  refine ⟨g, x, y, u, v, h1, fun {ρ} K => ?_, fun {ρ} k0 => ?_⟩
  · unfold impl_bezout
    exact h2 LIMN _ (limn_lt (by omega))
  · rw [L2_same]
    exact h2 LIMN _ (limn_lt (by omega))
/-- Both programs' first move. -/
theorem first_ex {d : Pg} (hp : prim d) (hd : Sm d) :
    (∃ a b : Int, (a * d.2 - b * d.1 = 1 ∧ a.natAbs ≤ max 1 d.1.natAbs ∧ b.natAbs ≤ d.2.natAbs + 1 ∧ (d.1 = 0 → a = 1 ∧ b = 0)) ∧ ∀ {ρ : Type} (K : Int → Int → Option ρ), spec_mvFull d.2 (-d.1) K = K a b) ∧
    (∃ a b : Int, (a * d.2 - b * d.1 = 1 ∧ a.natAbs ≤ max 1 d.1.natAbs ∧ b.natAbs ≤ d.2.natAbs + 1 ∧ (d.1 = 0 → a = 1 ∧ b = 0)) ∧ ∀ {ρ : Type} (K : Int → Int → Option ρ), (impl_bezout d.2 d.1 fun g x y => K (w64 (g * x)) (w64 ((w64 (0 - g)) * y))) = K a b) := by
  have hS := hd
  unfold Sm at hS
  constructor
  · obtain ⟨g, x, y, u, v, h, _, h2⟩ := bezout_ex (A := d.2) (B := -d.1) (by omega) (by omega)
    have hg : g.natAbs = 1 := by
      have := h.gcd
      rw [Int.gcd_zero_right] at this
      rw [this, Int.gcd_neg, Int.gcd_comm]; exact hp.1
    have ea := h.ea
    rw [Int.mul_neg] at ea
    have hx := h.hx
    have hy := h.hy
    have hb : x.natAbs ≤ max 1 d.1.natAbs := by
      rcases hx with hx | ⟨_, _, hx, _⟩
      · omega
      · rw [hx]; simp; omega
    by_cases hneg : g < 0
    · refine ⟨-x, -y, ⟨by rw [Int.neg_mul, Int.neg_mul]; omega, by omega, by omega, fun h0 => ?_⟩, fun {ρ} K => ?_⟩
      · have := hp.2
        rw [h0] at h
        have d2 : d.2 = 1 := by omega
        rcases h.hx with hx | ⟨e1, _, _, _⟩
        · have : x = 0 := by simp at hx; omega
          have e := h.ea
          rw [this, d2] at e
          simp at e; omega
        · omega
      · unfold spec_mvFull
        rw [h2, bif_dec, if_pos hneg, w64_eq (by omega) (by omega), w64_eq (by omega) (by omega), Int.zero_sub, Int.zero_sub]
    · refine ⟨x, y, ⟨by omega, by omega, by omega, fun h0 => ?_⟩, fun {ρ} K => ?_⟩
      · have := hp.2
        rw [h0] at h
        have d2 : d.2 = 1 := by omega
        rcases h.hx with hx | ⟨_, _, e1, e2⟩
        · have : x = 0 := by simp at hx; omega
          have e := h.ea
          rw [this, d2] at e
          simp at e; omega
        · exact ⟨e1, e2⟩
      · unfold spec_mvFull
        rw [h2, bif_dec, if_neg hneg]
  · obtain ⟨g, x, y, u, v, h, h2, _⟩ := bezout_ex (A := d.2) (B := d.1) (by omega) (by omega)
    have hg : g.natAbs = 1 := by
      have := h.gcd
      rw [Int.gcd_zero_right] at this
      rw [this, Int.gcd_comm]; exact hp.1
    have ea := h.ea
    have hx := h.hx
    have hy := h.hy
    have hb : x.natAbs ≤ max 1 d.1.natAbs := by
      rcases hx with hx | ⟨_, _, hx, _⟩
      · omega
      · rw [hx]; simp; omega
    rcases (show g = 1 ∨ g = -1 by omega) with rfl | rfl
    · refine ⟨x, -y, ⟨by rw [Int.neg_mul]; omega, by omega, by omega, fun h0 => ?_⟩, fun {ρ} K => ?_⟩
      · have := hp.2
        rw [h0] at h
        have d2 : d.2 = 1 := by omega
        rcases h.hx with hx | ⟨_, _, e1, e2⟩
        · have : x = 0 := by simp at hx; omega
          have e := h.ea
          rw [this, d2] at e
          simp at e
        · exact ⟨e1, by omega⟩
      · rw [h2, Int.one_mul, w64_eq (n := x) (by omega) (by omega), w64_eq (n := 0 - 1) (by omega) (by omega), w64_eq (by omega) (by omega)]
        congr 1; omega
    · refine ⟨-x, y, ⟨by rw [Int.neg_mul]; omega, by omega, by omega, fun h0 => ?_⟩, fun {ρ} K => ?_⟩
      · have := hp.2
        rw [h0] at h
        have d2 : d.2 = 1 := by omega
        rcases h.hx with hx | ⟨e1, _, _, _⟩
        · have : x = 0 := by simp at hx; omega
          have e := h.ea
          rw [this, d2] at e
          simp at e
        · omega
      · rw [h2, w64_eq (n := -1 * x) (by omega) (by omega), w64_eq (n := 0 - -1) (by omega) (by omega), w64_eq (by omega) (by omega)]
        congr 1 <;> omega
end Go.Proofs.Ga

namespace Go.Proofs.Ga
open Go.VI Go.Sort
open Classical
/-! ### the nearest solution -/
def near (a b : Int) : Prop := a.natAbs < b.natAbs ∨ (a.natAbs = b.natAbs ∧ a > b)
def less (p q : Pg) : Prop := near p.1 q.1 ∨ (p.1 = q.1 ∧ near p.2 q.2)
theorem less_trans {p q r : Pg} (h1 : less p q) (h2 : less q r) : less p r := by
  unfold less near at *; omega
theorem less_irrefl (p : Pg) : ¬ less p p := by
  unfold less near; omega
theorem less_tri {p q : Pg} (h1 : ¬ less p q) (h2 : ¬ less q p) : p = q := by
  unfold less near at *
  exact Prod.ext (by omega) (by omega)
def along (b d : Pg) (k : Int) : Pg := (b.1 + k * d.1, b.2 + k * d.2)
theorem along_zero (b d : Pg) : along b d 0 = b := by unfold along; simp
theorem along_along (b d : Pg) (j k : Int) : along (along b d j) d k = along b d (j + k) := by
  unfold along; dsimp only; rw [Int.add_mul, Int.add_mul]; exact Prod.ext (by dsimp only; omega) (by dsimp only; omega)
noncomputable def bstF (b d : Pg) (M : Nat) (j : Nat) (s : Pg) : Pg := if less (along b d ((j : Int) - M)) s then along b d ((j : Int) - M) else s
noncomputable def bst (b d : Pg) (M : Nat) : Pg := itr (bstF b d M) 0 (2 * M + 1) b
theorem bst_spec (b d : Pg) (M : Nat) : (∃ k : Int, k.natAbs ≤ M ∧ bst b d M = along b d k) ∧ ∀ k : Int, k.natAbs ≤ M → ¬ less (along b d k) (bst b d M) := by
  have key := itr_inv2 (f := bstF b d M) (len := 2 * M + 1) (fun j s => (∃ k : Int, k.natAbs ≤ M ∧ s = along b d k) ∧ ∀ i : Nat, i < j → ¬ less (along b d ((i : Int) - M)) s) (by
    rintro j s hj ⟨⟨k, hk, rfl⟩, h2⟩
    unfold bstF
    by_cases hl : less (along b d ((j : Int) - M)) (along b d k)
    · rw [if_pos hl]
      refine ⟨⟨_, by omega, rfl⟩, fun i hi => ?_⟩
      rcases Nat.lt_or_ge i j with h | h
      · exact fun hx => h2 i h (less_trans hx hl)
      · have : i = j := by omega
        subst this
        exact less_irrefl _
    · rw [if_neg hl]
      refine ⟨⟨k, hk, rfl⟩, fun i hi => ?_⟩
      rcases Nat.lt_or_ge i j with h | h
      · exact h2 i h
      · have : i = j := by omega
        subst this
        exact hl) b ⟨⟨0, by simp, (along_zero b d).symm⟩, fun i hi => by omega⟩
  refine ⟨key.1, fun k hk => ?_⟩
  have := key.2 (k + M).toNat (by omega)
  rwa [show (((k + M).toNat : Nat) : Int) - M = k by omega] at this
/-- A solution near enough to be a start. -/
structure Start (d b : Pg) : Prop where
  eq : b.1 * d.2 - b.2 * d.1 = 1
  lo : b.1.natAbs ≤ max 1 d.1.natAbs
  zero : d.1 = 0 → b = (1, 0)
theorem far_mul {k u : Int} (hk : 3 ≤ k.natAbs) (hu : 0 < u) : 3 * u.natAbs ≤ (k * u).natAbs := by
  rw [Int.natAbs_mul]; exact Nat.mul_le_mul_right _ hk
theorem bst_all {d b : Pg} (hp : prim d) (h : Start d b) {M : Nat} (hM : 2 ≤ M) (k : Int) : ¬ less (along b d k) (bst b d M) := by
  obtain ⟨⟨k1, hk1, e1⟩, h2⟩ := bst_spec b d M
  by_cases hk : k.natAbs ≤ M
  · exact h2 k hk
  · have h0 := h2 0 (by simp)
    rw [along_zero] at h0
    rcases hp.2 with hu | ⟨hu, hv⟩
    · have hf := far_mul (k := k) (u := d.1) (by omega) hu
      have hl := h.lo
      unfold less near at h0 ⊢
      unfold along
      dsimp only
      omega
    · have hb := h.zero hu
      rw [e1] at h0 ⊢
      unfold less near along at h0 ⊢
      rw [hb, hu, hv] at h0 ⊢
      simp only [Int.mul_zero, Int.mul_one, Int.add_zero, Int.zero_add] at h0 ⊢
      omega
theorem start_same {d b1 b2 : Pg} (h1 : b1.1 * d.2 - b1.2 * d.1 = 1) (h2 : b2.1 * d.2 - b2.2 * d.1 = 1) : ∃ k, b1 = along b2 d k := by
  refine ⟨b1.2 * b2.1 - b1.1 * b2.2, ?_⟩
  have h3 : (b1.1 - b2.1) * d.2 = (b1.2 - b2.2) * d.1 := by rw [Int.sub_mul, Int.sub_mul]; omega
  unfold along
  refine Prod.ext ?_ ?_
  · dsimp only
    have e : b1.1 - b2.1 = (b1.1 - b2.1) * (b1.1 * d.2 - b1.2 * d.1) := by rw [h1, Int.mul_one]
    have e2 : (b1.1 - b2.1) * (b1.1 * d.2 - b1.2 * d.1) = b1.1 * ((b1.1 - b2.1) * d.2) - (b1.1 - b2.1) * (b1.2 * d.1) := by
      rw [Int.mul_sub, Int.mul_left_comm]
    rw [e2, h3] at e
    have e3 : b1.1 * ((b1.2 - b2.2) * d.1) - (b1.1 - b2.1) * (b1.2 * d.1) = (b1.2 * b2.1 - b1.1 * b2.2) * d.1 := by
      simp only [Int.sub_mul, Int.mul_sub, Int.mul_assoc, Int.mul_left_comm]
      omega
    omega
  · dsimp only
    have e : b1.2 - b2.2 = (b1.2 - b2.2) * (b1.1 * d.2 - b1.2 * d.1) := by rw [h1, Int.mul_one]
    have e2 : (b1.2 - b2.2) * (b1.1 * d.2 - b1.2 * d.1) = (b1.2 - b2.2) * (b1.1 * d.2) - b1.2 * ((b1.2 - b2.2) * d.1) := by
      rw [Int.mul_sub, Int.mul_left_comm (b1.2 - b2.2) b1.2 d.1]
    rw [e2, ← h3] at e
    have e3 : (b1.2 - b2.2) * (b1.1 * d.2) - b1.2 * ((b1.1 - b2.1) * d.2) = (b1.2 * b2.1 - b1.1 * b2.2) * d.2 := by
      simp only [Int.sub_mul, Int.mul_sub, Int.mul_assoc, Int.mul_left_comm]
      omega
    omega
theorem bst_same {d b1 b2 : Pg} (hp : prim d) (h1 : Start d b1) (h2 : Start d b2) {M1 M2 : Nat} (hM1 : 2 ≤ M1) (hM2 : 2 ≤ M2) : bst b1 d M1 = bst b2 d M2 := by
  obtain ⟨⟨k1, _, e1⟩, _⟩ := bst_spec b1 d M1
  obtain ⟨⟨k2, _, e2⟩, _⟩ := bst_spec b2 d M2
  obtain ⟨k, hk⟩ := start_same h1.eq h2.eq
  apply less_tri
  · rw [e1, hk, along_along]; exact bst_all hp h2 hM2 _
  · obtain ⟨k', hk'⟩ := start_same h2.eq h1.eq
    rw [e2, hk', along_along]; exact bst_all hp h1 hM1 _
section
variable {ρ : Type}
theorem spec_wiNearer_eq {a b : Int} (ha : a.natAbs < 1000000000000) (hb : b.natAbs < 1000000000000) (K : Bool → Option ρ) : spec_wiNearer a b K = K (decide (near a b)) := by
  unfold spec_wiNearer
  rw [spec_l1Abs_eq (by omega) (by omega), spec_l1Abs_eq (by omega) (by omega), bif_dec]
  by_cases h1 : (a.natAbs : Int) < b.natAbs
  · rw [if_pos h1, decide_eq_true (.inl (by omega))]
  · rw [if_neg h1, spec_l1Abs_eq (by omega) (by omega), spec_l1Abs_eq (by omega) (by omega), bif_dec]
    by_cases h2 : (a.natAbs : Int) = b.natAbs
    · rw [if_pos h2]
      congr 1
      rw [decide_eq_decide]
      unfold near; omega
    · rw [if_neg h2]
      congr 1
      symm
      rw [decide_eq_false_iff_not]
      unfold near; omega
theorem impl_isLess_eq {a b : Int} (ha : a.natAbs < 1000000000000) (hb : b.natAbs < 1000000000000) (K : Bool → Option ρ) : impl_isLess a b K = K (decide (near a b)) := by
  unfold impl_isLess
  rw [impl_size_eq (by omega) (by omega), impl_size_eq (by omega) (by omega), bif_dec]
  by_cases h1 : (a.natAbs : Int) < b.natAbs
  · rw [if_pos h1, decide_eq_true (.inl (by omega))]
  · rw [if_neg h1, impl_size_eq (by omega) (by omega), impl_size_eq (by omega) (by omega), bif_dec]
    by_cases h2 : (a.natAbs : Int) = b.natAbs
    · rw [if_pos h2]
      congr 1
      rw [decide_eq_decide]
      unfold near; omega
    · rw [if_neg h2]
      congr 1
      symm
      rw [decide_eq_false_iff_not]
      unfold near; omega
def Small (p : Pg) : Prop := p.1.natAbs < 100000000000 ∧ p.2.natAbs < 100000000000
theorem along_bd {b d : Pg} {k : Int} (hb : Sm b) (hd : Sm d) (hk : -100000 ≤ k ∧ k ≤ 100000) : (-10000000000 ≤ k * d.1 ∧ k * d.1 ≤ 10000000000) ∧ (-10000000000 ≤ k * d.2 ∧ k * d.2 ≤ 10000000000) := by
  unfold Sm at *
  have h1 := mul_bd (a := k) (b := d.1) (A := 100000) (B := 100000) (by omega) (by omega) (by omega) (by omega)
  have h2 := mul_bd (a := k) (b := d.2) (A := 100000) (B := 100000) (by omega) (by omega) (by omega) (by omega)
  omega
theorem along_w64 {b d : Pg} {k : Int} (hb : Sm b) (hd : Sm d) (hk : -100000 ≤ k ∧ k ≤ 100000) : w64 (b.1 + w64 (k * d.1)) = (along b d k).1 ∧ w64 (b.2 + w64 (k * d.2)) = (along b d k).2 ∧ Small (along b d k) := by
  have h := along_bd hb hd hk
  unfold Sm at hb
  refine ⟨?_, ?_, ?_⟩
  · rw [w64_eq (n := k * d.1) (by omega) (by omega), w64_eq (by omega) (by omega)]; rfl
  · rw [w64_eq (n := k * d.2) (by omega) (by omega), w64_eq (by omega) (by omega)]; rfl
  · unfold Small along; dsimp only; omega
theorem flat_L6 (xs : List Pg) (t2 : Int × Int × Int × Int × Int × Int) {b d : Pg} (hb : Sm b) (hd : Sm d) {M : Nat} (hM : M = b.1.natAbs + b.2.natAbs + 1) (hM2 : M < 90000) (k0 : List Pg → (Int × Int × Int × Int × Int × Int) → Int → Int → (Int × Int × Int × Int × Int × Int) → Option ρ) :
    spec_wiFlat_L6 LIMN xs t2 d.1 d.2 b.1 b.2 (b.1, b.2, 0, 0, 0, 0) ((0 : Int) - M) k0 = k0 xs t2 d.1 d.2 ((bst b d M).1, (bst b d M).2, 0, 0, 0, 0) := by
  have hbs : Small b := by unfold Sm at hb; unfold Small; omega
  have hbs' := hb
  unfold Sm at hbs'
  have h := fold_loop (σ := Pg) (g := fun n j s => spec_wiFlat_L6 n xs t2 d.1 d.2 b.1 b.2 (s.1, s.2, 0, 0, 0, 0) ((j : Int) - M) k0) (len := 2 * M + 1) (f := bstF b d M) (I := fun _ s => Small s) (K := fun s => k0 xs t2 d.1 d.2 (s.1, s.2, 0, 0, 0, 0)) (by
    intro n j s hj hs
    obtain ⟨w1, w2, w3⟩ := along_w64 (k := (j : Int) - M) hb hd (by omega)
    rw [spec_wiFlat_L6_s]
    unfold spec_wiFlat_R6
    dsimp only
    unfold Small at hs w3
    rw [spec_l1Abs_eq (by omega) (by omega), spec_l1Abs_eq (by omega) (by omega), w1, w2, w64_eq (n := (b.1.natAbs : Int) + b.2.natAbs) (by omega) (by omega), w64_eq (n := (b.1.natAbs : Int) + b.2.natAbs + 1) (by omega) (by omega), w64_eq (n := (j : Int) - M + 1) (by omega) (by omega), bif_dec, if_pos (by omega), spec_wiNearer_eq (by omega) (by omega), bif_dec, show (j : Int) - M + 1 = ((j + 1 : Nat) : Int) - M by omega]
    unfold bstF
    by_cases c1 : near (along b d ((j : Int) - M)).1 s.1
    · rw [if_pos c1, if_pos (.inl c1)]
    · rw [if_neg c1, bif_dec]
      by_cases c2 : (along b d ((j : Int) - M)).1 = s.1
      · rw [if_pos c2, spec_wiNearer_eq (by omega) (by omega), bif_dec]
        by_cases c3 : near (along b d ((j : Int) - M)).2 s.2
        · rw [if_pos c3, if_pos (.inr ⟨c2, c3⟩)]
        · rw [if_neg c3, if_neg (by rintro (h | h); · exact c1 h
                                    · exact c3 h.2)]
      · rw [if_neg c2, if_neg (by rintro (h | h); · exact c1 h
                                  · exact c2 h.1)]) (by
    intro j s hj hs
    unfold bstF
    split
    · exact (along_w64 (k := (j : Int) - M) hb hd (by omega)).2.2
    · exact hs) (by
    intro n s hs
    rw [spec_wiFlat_L6_s]
    unfold spec_wiFlat_R6
    rw [spec_l1Abs_eq (by omega) (by omega), spec_l1Abs_eq (by omega) (by omega), w64_eq (n := (b.1.natAbs : Int) + b.2.natAbs) (by omega) (by omega), w64_eq (n := (b.1.natAbs : Int) + b.2.natAbs + 1) (by omega) (by omega), bif_dec, if_neg (by omega)]) (2 * M + 1) LIMN 0 b (by omega) (limn_lt (by omega)) hbs
  exact h
theorem flat_L7 (xs : List Pg) (t2 : Int × Int × Int × Int × Int × Int) {b d : Pg} (hb : Sm b) (hd : Sm d) (k0 : List Pg → (Int × Int × Int × Int × Int × Int) → (Int × Int × Int × Int × Int × Int) → Option ρ) :
    impl_flatMove_L7 LIMN xs t2 (b.1, b.2, d.1, d.2, 0, 0) (b.1, b.2, d.1, d.2, 0, 0) (-2) k0 = k0 xs t2 ((bst b d 2).1, (bst b d 2).2, d.1, d.2, 0, 0) := by
  have hbs : Small b := by unfold Sm at hb; unfold Small; omega
  have h := fold_loop (σ := Pg) (g := fun n j s => impl_flatMove_L7 n xs t2 (b.1, b.2, d.1, d.2, 0, 0) (s.1, s.2, d.1, d.2, 0, 0) ((j : Int) - (2 : Nat)) k0) (len := 2 * 2 + 1) (f := bstF b d 2) (I := fun _ s => Small s) (K := fun s => k0 xs t2 (s.1, s.2, d.1, d.2, 0, 0)) (by
    intro n j s hj hs
    obtain ⟨w1, w2, w3⟩ := along_w64 (k := (j : Int) - (2 : Nat)) hb hd (by omega)
    rw [impl_flatMove_L7_s]
    unfold impl_flatMove_R7
    dsimp only
    unfold Small at hs w3
    rw [w1, w2, w64_eq (n := (j : Int) - (2 : Nat) + 1) (by omega) (by omega), bif_dec, if_pos (by omega), impl_isLess_eq (by omega) (by omega), bif_dec, show (j : Int) - (2 : Nat) + 1 = ((j + 1 : Nat) : Int) - (2 : Nat) by omega]
    unfold bstF
    by_cases c1 : near (along b d ((j : Int) - (2 : Nat))).1 s.1
    · rw [if_pos c1, if_pos (.inl c1)]
    · rw [if_neg c1, bif_dec]
      by_cases c2 : (along b d ((j : Int) - (2 : Nat))).1 = s.1
      · rw [if_pos c2, impl_isLess_eq (by omega) (by omega), bif_dec]
        by_cases c3 : near (along b d ((j : Int) - (2 : Nat))).2 s.2
        · rw [if_pos c3, if_pos (.inr ⟨c2, c3⟩)]
        · rw [if_neg c3, if_neg (by rintro (h | h); · exact c1 h
                                    · exact c3 h.2)]
      · rw [if_neg c2, if_neg (by rintro (h | h); · exact c1 h
                                  · exact c2 h.1)]) (by
    intro j s hj hs
    unfold bstF
    split
    · exact (along_w64 (k := (j : Int) - (2 : Nat)) hb hd (by omega)).2.2
    · exact hs) (by
    intro n s hs
    rw [impl_flatMove_L7_s]
    unfold impl_flatMove_R7
    rw [bif_dec, if_neg (by omega)]) (2 * 2 + 1) LIMN 0 b (by omega) (limn_lt (by omega)) hbs
  exact h
end
end Go.Proofs.Ga

namespace Go.Proofs.Ga
open Go.VI Go.Sort
open Classical
abbrev Mv := Int × Int × Int × Int × Int × Int
def bring (m : Mv) (p : Pg) : Pg := (m.1 * p.1 + m.2.1 * p.2 + m.2.2.2.2.1, m.2.2.1 * p.1 + m.2.2.2.1 * p.2 + m.2.2.2.2.2)
/-- Whether numbers are a move. -/
def gm (m : Mv) : Prop := (-20 ≤ m.1 ∧ m.1 ≤ 20) ∧ (-20 ≤ m.2.1 ∧ m.2.1 ≤ 20) ∧ (-20 ≤ m.2.2.1 ∧ m.2.2.1 ≤ 20) ∧ (-20 ≤ m.2.2.2.1 ∧ m.2.2.2.1 ≤ 20) ∧ (-80 ≤ m.2.2.2.2.1 ∧ m.2.2.2.2.1 ≤ 80) ∧ (-80 ≤ m.2.2.2.2.2 ∧ m.2.2.2.2.2 ≤ 80) ∧ (m.1 * m.2.2.2.1 - m.2.1 * m.2.2.1).natAbs = 1
/-- Numbers of a size that a computation may have. -/
structure Mid (m : Mv) : Prop where
  a : Sm (m.1, m.2.1)
  c : Sm (m.2.2.1, m.2.2.2.1)
  x : m.2.2.2.2.1.natAbs < 100000000000
  y : m.2.2.2.2.2.natAbs < 100000000000
theorem Mid.det {m : Mv} (h : Mid m) : w64 ((w64 (m.1 * m.2.2.2.1)) - (w64 (m.2.1 * m.2.2.1))) = m.1 * m.2.2.2.1 - m.2.1 * m.2.2.1 ∧ (m.1 * m.2.2.2.1 - m.2.1 * m.2.2.1).natAbs < 100000000000 := by
  have ha := h.a
  have hc := h.c
  unfold Sm at ha hc
  dsimp only at ha hc
  have h1 := mul_bd (a := m.1) (b := m.2.2.2.1) (A := 100000) (B := 100000) (by omega) (by omega) (by omega) (by omega)
  have h2 := mul_bd (a := m.2.1) (b := m.2.2.1) (A := 100000) (B := 100000) (by omega) (by omega) (by omega) (by omega)
  rw [w64_eq (n := m.1 * m.2.2.2.1) (by omega) (by omega), w64_eq (n := m.2.1 * m.2.2.1) (by omega) (by omega), w64_eq (by omega) (by omega)]
  exact ⟨rfl, by omega⟩
section
variable {ρ : Type}
theorem spec_l1In_eq2 (n lo hi : Int) (K : Bool → Option ρ) : spec_l1In n lo hi K = K (decide (lo ≤ n ∧ n ≤ hi)) := by
  unfold spec_l1In
  rw [bif_dec]
  by_cases h : n ≥ lo
  · rw [if_pos h]; congr 1; rw [decide_eq_decide]; omega
  · rw [if_neg h]; congr 1; symm; rw [decide_eq_false_iff_not]; omega
theorem impl_within_eq2 (n lo hi : Int) (K : Bool → Option ρ) : impl_within n lo hi K = K (decide (lo ≤ n ∧ n ≤ hi)) := by
  unfold impl_within
  rw [bif_dec]
  by_cases h : n ≥ lo
  · rw [if_pos h]; congr 1; rw [decide_eq_decide]; omega
  · rw [if_neg h]; congr 1; symm; rw [decide_eq_false_iff_not]; omega
theorem exists_mem {l : List Int} {p : Int → Prop} : (∃ j, 0 ≤ j ∧ j < l.length ∧ p (l.getD j 0)) ↔ ∃ x ∈ l, p x := by
  constructor
  · rintro ⟨j, _, hj, h⟩
    exact ⟨_, getD_mem hj, h⟩
  · rintro ⟨x, hx, h⟩
    obtain ⟨j, hj, rfl⟩ := List.getElem_of_mem hx
    exact ⟨j, by omega, hj, by rw [getD_eq hj]; exact h⟩
theorem spec_l1All_eq (l : List Int) (hl : l.length < 1000) (lo hi : Int) (K : Bool → Option ρ) : spec_l1All l lo hi K = K (decide (∀ x ∈ l, lo ≤ x ∧ x ≤ hi)) := by
  unfold spec_l1All
  have h := search_loop (g := fun n i => spec_l1All_L2 n lo hi l (l.length : Int) (i : Int) (fun t6 => K t6) (K true)) (lo := 0) (len := l.length) (c := fun j => ¬ (lo ≤ l.getD j 0 ∧ l.getD j 0 ≤ hi)) (A := K false) (B := K true) (by
    intro n i _ hi'
    rw [spec_l1All_L2_s]
    unfold spec_l1All_R2
    rw [bif_dec, if_pos (by omega), inB_nat hi', chk_true, Int.toNat_natCast, spec_l1In_eq2, bif_ndec, w64_nat (by omega)]
    by_cases hx : lo ≤ l.getD i 0 ∧ l.getD i 0 ≤ hi
    · rw [if_pos hx, if_neg (fun h => h hx)]
    · rw [if_neg hx, if_pos hx]) (by
    intro n
    rw [spec_l1All_L2_s]
    unfold spec_l1All_R2
    rw [bif_dec, if_neg (by omega)]) l.length LIMN 0 (Nat.le_refl _) (by omega) (limn_lt (by omega))
  refine Eq.trans h ?_
  by_cases hx : ∀ x ∈ l, lo ≤ x ∧ x ≤ hi
  · rw [if_neg, decide_eq_true hx]
    rw [exists_mem (p := fun y => ¬ (lo ≤ y ∧ y ≤ hi))]
    rintro ⟨x, h1, h2⟩
    exact h2 (hx x h1)
  · rw [if_pos, decide_eq_false hx]
    rw [exists_mem (p := fun y => ¬ (lo ≤ y ∧ y ≤ hi))]
    rw [Classical.not_forall] at hx
    obtain ⟨x, hx⟩ := hx
    rw [Classical.not_imp] at hx
    exact ⟨x, hx.1, hx.2⟩
theorem spec_mvGood_eq {m : Mv} (h : Mid m) (K : Bool → Option ρ) : spec_mvGood m K = K (decide (gm m)) := by
  have hd := h.det
  unfold spec_mvGood
  rw [spec_l1All_eq _ (by simp), spec_l1All_eq _ (by simp), hd.1, spec_l1Abs_eq (by omega) (by omega)]
  by_cases h1 : ∀ x ∈ [m.1, m.2.1, m.2.2.1, m.2.2.2.1], (-20 : Int) ≤ x ∧ x ≤ 20
  · rw [decide_eq_true h1]
    simp only [cond_true]
    by_cases h2 : ∀ x ∈ [m.2.2.2.2.1, m.2.2.2.2.2], (-80 : Int) ≤ x ∧ x ≤ 80
    · rw [decide_eq_true h2]
      simp only [cond_true]
      congr 1
      rw [decide_eq_decide]
      simp only [List.forall_mem_cons, List.not_mem_nil, false_implies, implies_true, and_true] at h1 h2
      unfold gm
      constructor
      · intro h; exact ⟨h1.1, h1.2.1, h1.2.2.1, h1.2.2.2, h2.1, h2.2, by omega⟩
      · intro h; have := h.2.2.2.2.2.2; omega
    · rw [decide_eq_false h2]
      simp only [cond_false]
      congr 1; symm
      rw [decide_eq_false_iff_not]
      rintro ⟨_, _, _, _, g1, g2, _⟩
      exact h2 (by simp only [List.forall_mem_cons, List.not_mem_nil, false_implies, implies_true, and_true]; exact ⟨g1, g2⟩)
  · rw [decide_eq_false h1]
    simp only [cond_false]
    congr 1; symm
    rw [decide_eq_false_iff_not]
    rintro ⟨g1, g2, g3, g4, _⟩
    exact h1 (by simp only [List.forall_mem_cons, List.not_mem_nil, false_implies, implies_true, and_true]; exact ⟨g1, g2, g3, g4⟩)
theorem isMove_L2 (m : Mv) (l : List Int) (hl : l.length < 1000) (k0 : Mv → Bool → Option ρ) (k1 : Mv → Option ρ) : impl_IsMove_L2 LIMN m l (l.length : Int) 0 k0 k1 = if ∀ x ∈ l, (-20 : Int) ≤ x ∧ x ≤ 20 then k1 m else k0 m false := by
  have h := search_loop (g := fun n i => impl_IsMove_L2 n m l (l.length : Int) (i : Int) k0 k1) (lo := 0) (len := l.length) (c := fun j => ¬ ((-20 : Int) ≤ l.getD j 0 ∧ l.getD j 0 ≤ 20)) (A := k0 m false) (B := k1 m) (by
    intro n i _ hi'
    rw [impl_IsMove_L2_s]
    unfold impl_IsMove_R2
    rw [bif_dec, if_pos (by omega), inB_nat hi', chk_true, Int.toNat_natCast, impl_within_eq2, bif_ndec, w64_nat (by omega)]
    by_cases hx : (-20 : Int) ≤ l.getD i 0 ∧ l.getD i 0 ≤ 20
    · rw [if_pos hx, if_neg (fun h => h hx)]
    · rw [if_neg hx, if_pos hx]) (by
    intro n
    rw [impl_IsMove_L2_s]
    unfold impl_IsMove_R2
    rw [bif_dec, if_neg (by omega)]) l.length LIMN 0 (Nat.le_refl _) (by omega) (limn_lt (by omega))
  refine Eq.trans h ?_
  by_cases hx : ∀ x ∈ l, (-20 : Int) ≤ x ∧ x ≤ 20
  · rw [if_neg, if_pos hx]
    rw [exists_mem (p := fun y => ¬ ((-20 : Int) ≤ y ∧ y ≤ 20))]
    rintro ⟨x, h1, h2⟩
    exact h2 (hx x h1)
  · rw [if_pos, if_neg hx]
    rw [exists_mem (p := fun y => ¬ ((-20 : Int) ≤ y ∧ y ≤ 20))]
    rw [Classical.not_forall] at hx
    obtain ⟨x, hx⟩ := hx
    rw [Classical.not_imp] at hx
    exact ⟨x, hx.1, hx.2⟩
theorem impl_isWay_eq {x y : Int} (hx : x.natAbs < 100000000000) (hy : y.natAbs < 100000000000) (K : Bool → Option ρ) : impl_isWay x y K = K (decide ((-80 ≤ x ∧ x ≤ 80) ∧ (-80 ≤ y ∧ y ≤ 80))) := by
  unfold impl_isWay
  rw [impl_size_eq (by omega) (by omega), impl_size_eq (by omega) (by omega), bif_dec]
  by_cases h1 : (x.natAbs : Int) ≤ 80
  · rw [if_pos h1, bif_dec]
    by_cases h2 : (y.natAbs : Int) ≤ 80
    · rw [if_pos h2, bif_dec, if_pos (by omega)]
      congr 1; rw [decide_eq_decide]; omega
    · rw [if_neg h2]; congr 1; symm; rw [decide_eq_false_iff_not]; omega
  · rw [if_neg h1]; congr 1; symm; rw [decide_eq_false_iff_not]; omega
theorem impl_IsMove_eq {m : Mv} (h : Mid m) (K : Bool → Option ρ) : impl_IsMove m K = K (decide (gm m)) := by
  have hd := h.det
  unfold impl_IsMove impl_Move_side
  rw [isMove_L2 _ _ (by simp)]
  by_cases h1 : ∀ x ∈ [m.1, m.2.1, m.2.2.1, m.2.2.2.1], (-20 : Int) ≤ x ∧ x ≤ 20
  · rw [if_pos h1, impl_isWay_eq h.x h.y, hd.1]
    dsimp only
    rw [impl_size_eq (by omega) (by omega)]
    simp only [List.forall_mem_cons, List.not_mem_nil, false_implies, implies_true, and_true] at h1
    by_cases h2 : (-80 ≤ m.2.2.2.2.1 ∧ m.2.2.2.2.1 ≤ 80) ∧ (-80 ≤ m.2.2.2.2.2 ∧ m.2.2.2.2.2 ≤ 80)
    · rw [decide_eq_true h2]
      simp only [cond_true]
      congr 1
      rw [decide_eq_decide]
      unfold gm
      constructor
      · intro h; exact ⟨h1.1, h1.2.1, h1.2.2.1, h1.2.2.2, h2.1, h2.2, by omega⟩
      · intro h; have := h.2.2.2.2.2.2; omega
    · rw [decide_eq_false h2]
      simp only [cond_false]
      congr 1; symm
      rw [decide_eq_false_iff_not]
      rintro ⟨_, _, _, _, g1, g2, _⟩
      exact h2 ⟨g1, g2⟩
  · rw [if_neg h1]
    congr 1; symm
    rw [decide_eq_false_iff_not]
    rintro ⟨g1, g2, g3, g4, _⟩
    exact h1 (by simp only [List.forall_mem_cons, List.not_mem_nil, false_implies, implies_true, and_true]; exact ⟨g1, g2, g3, g4⟩)
/-! ### the least values of moved corners -/
theorem bring_eq {m : Mv} (h : Mid m) {p : Pg} (hp : Sm p) (K : Pg → Option ρ) : impl_Move_bring m p K = K (bring m p) := by
  unfold impl_Move_bring
  have h1 := val_bd h.a hp
  have h2 := val_bd h.c hp
  have hx := h.x
  have hy := h.y
  have e1 := val_w64 h.a hp
  have e2 := val_w64 h.c hp
  dsimp only at e1 e2
  rw [e1, e2, w64_eq (by omega) (by omega), w64_eq (by omega) (by omega)]
  rfl
theorem flat_L15 (t2 m : Mv) (hm : Mid m) {xs : List Pg} (hl : xs.length < 1000000) (hs : ∀ p ∈ xs, Sm p) (k0 : Mv → Mv → List Pg → Option ρ) : impl_flatMove_L15 LIMN t2 m [] xs (xs.length : Int) 0 k0 = k0 t2 m (xs.map (bring m)) := by
  have hLIM : 1000000000 < LIM := by unfold LIM; decide
  have h := fold_loop (σ := List Pg) (g := fun n i out => impl_flatMove_L15 n t2 m out xs (xs.length : Int) (i : Int) k0) (len := xs.length) (f := fun i out => out ++ [bring m (xs.getD i (0, 0))]) (I := fun i out => out = (xs.take i).map (bring m)) (K := fun _ => k0 t2 m (xs.map (bring m))) (by
    intro n i out hi hI
    rw [impl_flatMove_L15_s]
    unfold impl_flatMove_R15
    rw [bif_dec, if_pos (by omega), inB_nat hi, chk_true, Int.toNat_natCast, bring_eq hm (hs _ (getD_mem hi)), chk_dec (by rw [hI]; simp; omega), w64_nat (by omega)]) (by
    rintro i out hi rfl
    rw [List.take_succ_eq_append_getElem hi, List.map_append, getD_eq hi]; rfl) (by
    rintro n out rfl
    rw [impl_flatMove_L15_s]
    unfold impl_flatMove_R15
    rw [bif_dec, if_neg (by omega), List.take_length]) xs.length LIMN 0 [] (by omega) (limn_lt (by omega)) (by simp)
  exact h
def boxF (ys : List Pg) (i : Nat) (s : Pg × Pg) : Pg × Pg := ((min s.1.1 (ys.getD i (0, 0)).1, min s.1.2 (ys.getD i (0, 0)).2), (max s.2.1 (ys.getD i (0, 0)).1, max s.2.2 (ys.getD i (0, 0)).2))
theorem impl_box_eq {ys : List Pg} (h0 : 0 < ys.length) (hl : ys.length < 1000000) (K : Pg → Pg → Option ρ) : impl_box ys K = K (itr (boxF ys) 0 ys.length (ys.getD 0 (0, 0), ys.getD 0 (0, 0))).1 (itr (boxF ys) 0 ys.length (ys.getD 0 (0, 0), ys.getD 0 (0, 0))).2 := by
  unfold impl_box
  rw [inB_of (by omega) (by omega), chk_true, chk_true]
  have h := fold_loop (σ := Pg × Pg) (g := fun n i s => impl_box_L3 n ((0 : Int), (0 : Int)) ((0 : Int), (0 : Int)) s.1 s.2 ys (ys.length : Int) (i : Int) (fun t2 t3 lowv high => K lowv high)) (len := ys.length) (f := boxF ys) (I := fun _ _ => True) (K := fun s => K s.1 s.2) (by
    intro n i s hi _
    rw [impl_box_L3_s]
    unfold impl_box_R3
    rw [bif_dec, if_pos (by omega), inB_nat hi, chk_true, Int.toNat_natCast, w64_nat (by omega)]
    rfl) (fun _ _ _ _ => trivial) (by
    intro n s _
    rw [impl_box_L3_s]
    unfold impl_box_R3
    rw [bif_dec, if_neg (by omega)]) ys.length LIMN 0 (ys.getD 0 (0, 0), ys.getD 0 (0, 0)) (by omega) (limn_lt (by omega)) trivial
  exact h
theorem itr_pair {σ τ υ : Type} {f : Nat → σ → σ} {g : Nat → τ → τ} {h : Nat → υ → υ} (p : σ → τ) (q : σ → υ) {len : Nat} (hp : ∀ i s, i < len → p (f i s) = g i (p s) ∧ q (f i s) = h i (q s)) : ∀ m i s, i + m ≤ len → p (itr f i m s) = itr g i m (p s) ∧ q (itr f i m s) = itr h i m (q s)
  | 0, _, _, _ => ⟨rfl, rfl⟩
  | m + 1, i, s, hl => by
    have h1 := hp i s (by omega)
    have h2 := itr_pair p q hp m (i + 1) (f i s) (by omega)
    rw [h1.1, h1.2] at h2
    exact h2
theorem box_low {a c : Pg} {xs : List Pg} (h0 : 0 < xs.length) {ys : List Pg} (hy : ys = xs.map (bring (a.1, a.2, c.1, c.2, 0, 0))) : (itr (boxF ys) 0 ys.length (ys.getD 0 (0, 0), ys.getD 0 (0, 0))).1 = ((rng a xs).1, (rng c xs).1) := by
  have hg : ∀ i, i < xs.length → ys.getD i (0, 0) = (val a (xs.getD i (0, 0)), val c (xs.getD i (0, 0))) := by
    intro i hi
    rw [hy, getD_map hi (0, 0) (0, 0)]
    unfold bring val
    dsimp only
    exact Prod.ext (by dsimp only; omega) (by dsimp only; omega)
  have hlen : ys.length = xs.length := by rw [hy]; simp
  have h := itr_pair (f := boxF ys) (g := rngF a xs) (h := rngF c xs) (fun s : Pg × Pg => (s.1.1, s.2.1)) (fun s => (s.1.2, s.2.2)) (len := xs.length) (by
    intro i s hi
    unfold boxF rngF
    dsimp only
    rw [hg i hi]
    exact ⟨rfl, rfl⟩) xs.length 0 (ys.getD 0 (0, 0), ys.getD 0 (0, 0)) (by omega)
  rw [hlen]
  dsimp only at h
  rw [hg 0 h0] at h ⊢
  dsimp only at h
  have e1 := congrArg Prod.fst h.1
  have e2 := congrArg Prod.fst h.2
  dsimp only at e1 e2
  exact Prod.ext e1 e2
/-! ### flat moves -/
theorem small_of_D {xs : List Pg} (h : Poly xs) {M : Nat} (hM : M ≤ 100) {d : Pg} (hd : d ∈ DP xs M) : d.1.natAbs ≤ 32000 ∧ d.2.natAbs ≤ 32000 := by
  have c := h.ctx
  obtain ⟨hp, hw⟩ := (mem_D c).1 hd
  have h1 := c.wa d
  have h2 := c.wb d
  have e := (fits_val c hp hw).2
  have hx := cx_bd (s := val d (eA xs)) (t := val d (eB xs)) c.ha c.hb (by unfold Rg; omega) (by unfold Rg; omega)
  have hy := cy_bd (s := val d (eA xs)) (t := val d (eB xs)) c.ha c.hb (by unfold Rg; omega) (by unfold Rg; omega)
  have hu := tdiv_bd (y := eR xs) hx.1 hx.2
  have hv := tdiv_bd (y := eR xs) hy.1 hy.2
  rw [← e]
  unfold cdir
  dsimp only
  omega
theorem flat_ex {xs : List Pg} (h : Poly xs) : ∃ m : Mv, Mid m ∧ (∀ {ρ : Type} (K : Mv → Option ρ), spec_wiFlat xs K = K m) ∧ (∀ {ρ : Type} (K : Mv → Option ρ), impl_flatMove xs K = K m) := by
  have h3 := h.low
  have hh := h.high
  have hs := h.sm
  obtain ⟨W, h1, hW, hne, hno, hi⟩ := least_ex h
  have hpos : 0 < (DP xs W).length := List.length_pos_iff.2 hne
  generalize hd : (DP xs W).getD 0 (0, 0) = d
  have hmem : d ∈ DP xs W := by rw [← hd]; exact getD_mem hpos
  have hp : prim d := ((mem_D h.ctx).1 hmem).1
  have hsm := small_of_D h hW hmem
  have hdS : Sm d := by unfold Sm; omega
  obtain ⟨⟨a1, b1, ⟨q1, q2, q3, q4⟩, s1⟩, ⟨a2, b2, ⟨p1, p2, p3, p4⟩, s2⟩⟩ := first_ex hp hdS
  have st1 : Start d (a1, b1) := ⟨q1, q2, fun h0 => by rw [(q4 h0).1, (q4 h0).2]⟩
  have st2 : Start d (a2, b2) := ⟨p1, p2, fun h0 => by rw [(p4 h0).1, (p4 h0).2]⟩
  have n1 : 1 ≤ a1.natAbs + b1.natAbs := by
    rcases Nat.eq_zero_or_pos (a1.natAbs + b1.natAbs) with h0 | h0
    · obtain rfl : a1 = 0 := by omega
      obtain rfl : b1 = 0 := by omega
      simp at q1
    · exact h0
  have same := bst_same hp st1 st2 (M1 := a1.natAbs + b1.natAbs + 1) (M2 := 2) (by omega) (by omega)
  generalize hS : bst (a2, b2) d 2 = S at same
  have hSm : Sm S := by
    obtain ⟨⟨k, hk, e⟩, _⟩ := bst_spec (a2, b2) d 2
    rw [hS] at e
    have g1 : (k * d.1).natAbs ≤ 2 * d.1.natAbs := by rw [Int.natAbs_mul]; exact Nat.mul_le_mul_right _ hk
    have g2 : (k * d.2).natAbs ≤ 2 * d.2.natAbs := by rw [Int.natAbs_mul]; exact Nat.mul_le_mul_right _ hk
    rw [e]
    unfold Sm along
    dsimp only
    omega
  have r1 := rng_bd (xs := xs) (by omega) hSm hs
  have r2 := rng_bd (xs := xs) (by omega) hdS hs
  have hb1 : Sm (a1, b1) := by unfold Sm; dsimp only; omega
  have hb2 : Sm (a2, b2) := by unfold Sm; dsimp only; omega
  refine ⟨(S.1, S.2, d.1, d.2, -(rng S xs).1, -(rng d xs).1), ⟨hSm, hdS, by dsimp only; omega, by dsimp only; omega⟩, fun {ρ} K => ?_, fun {ρ} K => ?_⟩
  · unfold spec_wiFlat
    rw [spec_wiLeast_eq h h1 hW hne hno]
    have hlen : (0 : Int) < ((DP xs W).map pr).length := by simp; omega
    have hg : ((DP xs W).map pr).getD 0 [] = pr d := by rw [getD_map hpos (0, 0), hd]
    rw [inB_of (by omega) hlen, chk_true, chk_true, hg, inB_of (by omega) (by simp [pr]), chk_true, inB_of (by omega) (by simp [pr]), chk_true, show (pr d).getD 1 0 = d.2 from rfl, show (pr d).getD 0 0 = d.1 from rfl, w64_eq (n := 0 - d.1) (by omega) (by omega), Int.zero_sub, s1, spec_l1Abs_eq (by omega) (by omega), spec_l1Abs_eq (by omega) (by omega)]
    rw [w64_eq (n := 0 - (a1.natAbs : Int)) (by omega) (by omega), w64_eq (n := 0 - (a1.natAbs : Int) - b1.natAbs) (by omega) (by omega), w64_eq (n := 0 - (a1.natAbs : Int) - b1.natAbs - 1) (by omega) (by omega), show 0 - (a1.natAbs : Int) - b1.natAbs - 1 = (0 : Int) - ((a1.natAbs + b1.natAbs + 1 : Nat) : Int) by omega]
    refine Eq.trans (flat_L6 xs _ hb1 hdS rfl (by omega) _) ?_
    rw [same]
    dsimp only
    rw [spec_wiRange_eq (d := (S.1, S.2)) (by omega) (by omega) hSm hs, spec_wiRange_eq (d := (d.1, d.2)) (by omega) (by omega) hdS hs, show ((S.1, S.2) : Pg) = S from rfl, show ((d.1, d.2) : Pg) = d from rfl, w64_eq (n := 0 - (rng S xs).1) (by omega) (by omega), w64_eq (n := 0 - (rng d xs).1) (by omega) (by omega), Int.zero_sub, Int.zero_sub]
  · unfold impl_flatMove
    rw [hi, inB_of (by omega) (by omega), chk_true, chk_true, hd]
    refine Eq.trans (s2 (fun A B => impl_flatMove_L7 LIMN xs (0, 0, 0, 0, 0, 0) (A, B, d.1, d.2, 0, 0) (A, B, d.1, d.2, 0, 0) (-2) (fun corners1 t2 best =>
      impl_flatMove_L15 LIMN t2 best ([] : List (Int × Int)) corners1 (corners1.length : Int) (0 : Int)
       (fun t21 best1 moved =>
       impl_box moved fun r5 r6 =>
       K (best1.1, best1.2.1, best1.2.2.1, best1.2.2.2.1, (w64 (0 - r5.1)), (w64 (0 - r5.2))))))) ?_
    refine Eq.trans (flat_L7 xs _ hb2 hdS _) ?_
    rw [hS]
    rw [flat_L15 _ _ ⟨hSm, hdS, by simp, by simp⟩ (by omega) hs]
    rw [impl_box_eq (by simp; omega) (by simp; omega), box_low (a := S) (c := d) (by omega) rfl]
    dsimp only
    rw [w64_eq (n := 0 - (rng S xs).1) (by omega) (by omega), w64_eq (n := 0 - (rng d xs).1) (by omega) (by omega), Int.zero_sub, Int.zero_sub]
/-- Both flat moves are one. -/
theorem flatMove_both (xs : List Pg) : ∃ (m : Mv) (b : Bool), (b = true → Mid m ∧ gm m ∧ Poly xs) ∧ (∀ {ρ : Type} (K : Mv → Bool → Option ρ), spec_FlatMove xs K = K m b) ∧ (∀ {ρ : Type} (K : Mv → Bool → Option ρ), impl_FlatMove xs K = K m b) := by
  cases hp : poly xs with
  | false =>
    refine ⟨(0, 0, 0, 0, 0, 0), false, fun h => by simp at h, fun {ρ} K => ?_, fun {ρ} K => ?_⟩
    · unfold spec_FlatMove
      rw [spec_pgGood_eq, hp]; rfl
    · unfold impl_FlatMove
      rw [impl_IsPolygon_eq, hp]; rfl
  | true =>
    have h : Poly xs := by unfold poly at hp; exact of_decide_eq_true hp
    obtain ⟨m, hm, h1, h2⟩ := flat_ex h
    by_cases hg : gm m
    · refine ⟨m, true, fun _ => ⟨hm, hg, h⟩, fun {ρ} K => ?_, fun {ρ} K => ?_⟩
      · unfold spec_FlatMove spec_mvIf
        rw [spec_pgGood_eq, hp]
        simp only [Bool.not_true, cond_false]
        rw [h1, spec_mvGood_eq hm, decide_eq_true hg]; rfl
      · unfold impl_FlatMove impl_checkedMove
        rw [impl_IsPolygon_eq, hp]
        simp only [Bool.not_true, cond_false]
        rw [h2, impl_IsMove_eq hm, decide_eq_true hg]; rfl
    · refine ⟨(0, 0, 0, 0, 0, 0), false, fun h => by simp at h, fun {ρ} K => ?_, fun {ρ} K => ?_⟩
      · unfold spec_FlatMove spec_mvIf
        rw [spec_pgGood_eq, hp]
        simp only [Bool.not_true, cond_false]
        rw [h1, spec_mvGood_eq hm, decide_eq_false hg]; rfl
      · unfold impl_FlatMove impl_checkedMove
        rw [impl_IsPolygon_eq, hp]
        simp only [Bool.not_true, cond_false]
        rw [h2, impl_IsMove_eq hm, decide_eq_false hg]; rfl
theorem eqMove_self (m : Mv) (K : Bool → Option ρ) : laws_eqMove m m K = K true := by
  unfold laws_eqMove
  simp only [decide_true, Bool.not_true, cond_false]
theorem law_flatMove (xs : List Pg) (hx : xs.length ≤ 9223372036854775807) (K : Bool → Option ρ) : laws_FnExactFlatMove xs K = K true := by
  unfold laws_FnExactFlatMove laws_szPegS
  rw [w64_eq (by omega) (by omega), bif_dec]
  by_cases h0 : (1048576 : Int) - xs.length < 0
  · rw [if_pos h0]
    rfl
  · rw [if_neg h0]
    dsimp only
    rw [bif_dec, if_neg h0, toPegS_eq (by omega)]
    obtain ⟨m, b, _, hs, hi⟩ := flatMove_both xs
    rw [hs, toPegS_eq (by omega), hi, eqMove_self]
    simp only [Bool.not_true, cond_false, decide_true]
    rw [toPegS_eq (by omega), eqPegS_self (by omega)]
    rfl
end
end Go.Proofs.Ga

namespace Go.Proofs.Ga
open Go.VI Go.Sort
open Classical
def blkP (i : Nat) : Pg := (1 + 2 * (i : Int), 1 + 2 * (i : Int) + 1)
/-- Marked pegs, and what was marked is held. -/
theorem marksP_ex {l : List Pg} (hl : l.length ≤ 2000000) : ∃ w : List Pg, (w.length = l.length ∧ ∀ j, j < l.length → w.getD j (0, 0) = blkP j) ∧ ∀ {ρ : Type} (K : Int → List Pg → Option ρ), laws_markPegS 1 l K = K (1 + 2 * (l.length : Int)) w := by
  have hI : ∀ i (s : List Pg), i < l.length → (s.length = l.length ∧ ∀ j, j < i → s.getD j (0, 0) = blkP j) → ((s.set i (blkP i)).length = l.length ∧ ∀ j, j < i + 1 → (s.set i (blkP i)).getD j (0, 0) = blkP j) := by
    rintro i s hi ⟨h1, h3⟩
    refine ⟨by simpa using h1, fun j hj => ?_⟩
    rw [getD_set (by omega)]
    by_cases hx : i = j
    · subst hx; simp
    · rw [if_neg hx]; exact h3 j (by omega)
  have h0 : l.length = l.length ∧ ∀ j, j < 0 → l.getD j (0, 0) = blkP j := ⟨rfl, fun j hj => by omega⟩
  have key := itr_inv2 (f := fun i (o : List Pg) => o.set i (blkP i)) (len := l.length) _ hI l h0
  refine ⟨itr (fun i (o : List Pg) => o.set i (blkP i)) 0 l.length l, key, fun {ρ} K => ?_⟩
  unfold laws_markPegS
  have h := fold_loop (σ := List Pg) (g := fun n i o => laws_markPegS_L2 n o (1 + 2 * (i : Int)) (i : Int) (fun o01 k1 => K k1 o01)) (len := l.length) (f := fun i (o : List Pg) => o.set i (blkP i)) (I := fun i s => s.length = l.length ∧ ∀ j, j < i → s.getD j (0, 0) = blkP j) (K := fun o => K (1 + 2 * (l.length : Int)) o) (by
    rintro n i out hi ⟨h1, h3⟩
    rw [laws_markPegS_L2_s]
    unfold laws_markPegS_R2
    rw [bif_dec, if_pos (by omega), inB_nat (by omega), chk_true, Int.toNat_natCast, Nat.zero_add, chk_dec (by omega), inB_nat (by simp; omega), chk_true, chk_dec (by simp; omega), w64_nat (by omega), w64_eq (n := 1 + 2 * (i : Int) + 1) (by omega) (by omega), w64_eq (by omega) (by omega), show 1 + 2 * (i : Int) + 1 + 1 = 1 + 2 * ((i + 1 : Nat) : Int) by omega, List.set_set, getD_set (by omega), if_pos rfl]
    rfl) hI (by
    rintro n out ⟨h1, h3⟩
    rw [laws_markPegS_L2_s]
    unfold laws_markPegS_R2
    rw [bif_dec, if_neg (by omega)]) l.length LIMN 0 l (by omega) (limn_lt (by omega)) h0
  exact h
section
variable {ρ : Type}
theorem heldP_eq {w : List Pg} (hl : w.length ≤ 2000000) (hw : ∀ j, j < w.length → w.getD j (0, 0) = blkP j) (K : Int → Option ρ) : laws_heldPegS w 1 K = K (1 + 2 * (w.length : Int)) := by
  unfold laws_heldPegS
  have h := fold_loop (σ := Unit) (g := fun n i _ => laws_heldPegS_L2 n w (1 + 2 * (i : Int)) (i : Int) (fun k1 t4 => K t4) (fun k2 => K k2)) (len := w.length) (f := fun _ u => u) (I := fun _ _ => True) (K := fun _ => K (1 + 2 * (w.length : Int))) (by
    rintro n i out hi _
    rw [laws_heldPegS_L2_s]
    unfold laws_heldPegS_R2
    rw [bif_dec, if_pos (by omega), inB_nat (by omega), chk_true, Int.toNat_natCast, hw i hi, bif_ndec, if_pos (by rfl), chk_true, w64_eq (n := 1 + 2 * (i : Int) + 1) (by omega) (by omega), bif_ndec, if_pos (by rfl), w64_nat (by omega), w64_eq (by omega) (by omega), show 1 + 2 * (i : Int) + 1 + 1 = 1 + 2 * ((i + 1 : Nat) : Int) by omega]) (fun _ _ _ _ => trivial) (by
    rintro n out _
    rw [laws_heldPegS_L2_s]
    unfold laws_heldPegS_R2
    rw [bif_dec, if_neg (by omega)]) w.length LIMN 0 () (by omega) (limn_lt (by omega)) trivial
  exact h
/-! ### corners brought -/
theorem pgMap_eq {m : Mv} (hm : Mid m) {xs : List Pg} (hl : xs.length < 1000000) (hs : ∀ p ∈ xs, Sm p) (K : List Pg → Bool → Option ρ) :
    spec_pgMap xs m.1 m.2.1 m.2.2.1 m.2.2.2.1 m.2.2.2.2.1 m.2.2.2.2.2 K = if ∀ p ∈ xs.map (bring m), inR p = true then K (xs.map (bring m)) true else K [] false := by
  have hLIM : 1000000000 < LIM := by unfold LIM; decide
  unfold spec_pgMap
  have h := search_loop (g := fun n i => spec_pgMap_L3 n m.1 m.2.1 m.2.2.1 m.2.2.2.1 m.2.2.2.2.1 m.2.2.2.2.2 ((xs.take i).map (bring m)) xs (xs.length : Int) (i : Int) (fun t14 t15 out => K t14 t15) (fun out1 => K out1 true)) (lo := 0) (len := xs.length) (c := fun j => inR (bring m (xs.getD j (0, 0))) = false) (A := K [] false) (B := K (xs.map (bring m)) true) (by
    intro n i _ hi
    have hp := hs _ (getD_mem (d := ((0 : Int), (0 : Int))) hi)
    have h1 := val_bd hm.a hp
    have h2 := val_bd hm.c hp
    have hx := hm.x
    have hy := hm.y
    have e1 := val_w64 hm.a hp
    have e2 := val_w64 hm.c hp
    dsimp only at e1 e2
    rw [spec_pgMap_L3_s]
    unfold spec_pgMap_R3
    rw [bif_dec, if_pos (by omega), inB_nat hi, chk_true, Int.toNat_natCast, e1, e2, w64_eq (n := val (m.1, m.2.1) (xs.getD i (0, 0)) + m.2.2.2.2.1) (by omega) (by omega), w64_eq (n := val (m.2.2.1, m.2.2.2.1) (xs.getD i (0, 0)) + m.2.2.2.2.2) (by omega) (by omega), show (val (m.1, m.2.1) (xs.getD i (0, 0)) + m.2.2.2.2.1, val (m.2.2.1, m.2.2.2.1) (xs.getD i (0, 0)) + m.2.2.2.2.2) = bring m (xs.getD i (0, 0)) from rfl, spec_pgIs_eq, w64_nat (by omega)]
    cases hr : inR (bring m (xs.getD i (0, 0))) with
    | false => rw [if_pos rfl]; rfl
    | true =>
      rw [if_neg (by simp)]
      simp only [Bool.not_true, cond_false]
      rw [chk_dec (by simp; omega), List.take_succ_eq_append_getElem hi, List.map_append, getD_eq hi]
      rfl) (by
    intro n
    rw [spec_pgMap_L3_s]
    unfold spec_pgMap_R3
    rw [bif_dec, if_neg (by omega), List.take_length]) xs.length LIMN 0 (Nat.le_refl _) (by omega) (limn_lt (by omega))
  refine Eq.trans h ?_
  by_cases hx : ∀ p ∈ xs.map (bring m), inR p = true
  · rw [if_pos hx, if_neg]
    rintro ⟨j, _, hj, h⟩
    rw [hx _ (List.mem_map_of_mem (getD_mem hj))] at h
    simp at h
  · rw [if_neg hx, if_pos]
    rw [Classical.not_forall] at hx
    obtain ⟨p, hp⟩ := hx
    rw [Classical.not_imp, List.mem_map] at hp
    obtain ⟨⟨q, hq, rfl⟩, h2⟩ := hp
    obtain ⟨j, hj, rfl⟩ := List.getElem_of_mem hq
    exact ⟨j, by omega, hj, by rw [getD_eq hj]; simpa using h2⟩
theorem changed_L5 {m : Mv} (hm : Mid m) {xs : List Pg} (hl : xs.length < 1000000) (hs : ∀ p ∈ xs, Sm p) (k0 : List Pg → Option ρ) : impl_changed_at_Move_bring_L5 LIMN m [] xs (xs.length : Int) 0 k0 = k0 (xs.map (bring m)) := by
  have hLIM : 1000000000 < LIM := by unfold LIM; decide
  have h := fold_loop (σ := List Pg) (g := fun n i out => impl_changed_at_Move_bring_L5 n m out xs (xs.length : Int) (i : Int) k0) (len := xs.length) (f := fun i out => out ++ [bring m (xs.getD i (0, 0))]) (I := fun i out => out = (xs.take i).map (bring m)) (K := fun _ => k0 (xs.map (bring m))) (by
    intro n i out hi hI
    rw [impl_changed_at_Move_bring_L5_s]
    unfold impl_changed_at_Move_bring_R5
    rw [bif_dec, if_pos (by omega), inB_nat hi, chk_true, Int.toNat_natCast, bring_eq hm (hs _ (getD_mem hi)), chk_dec (by rw [hI]; simp; omega), w64_nat (by omega)]) (by
    rintro i out hi rfl
    rw [List.take_succ_eq_append_getElem hi, List.map_append, getD_eq hi]; rfl) (by
    rintro n out rfl
    rw [impl_changed_at_Move_bring_L5_s]
    unfold impl_changed_at_Move_bring_R5
    rw [bif_dec, if_neg (by omega), List.take_length]) xs.length LIMN 0 [] (by omega) (limn_lt (by omega)) (by simp)
  exact h
theorem changed_eq {m : Mv} (hm : Mid m) {xs : List Pg} (h : Poly xs) (K : List Pg → Bool → Option ρ) : impl_changed_at_Move_bring xs m K = if ∀ p ∈ xs.map (bring m), inR p = true then K (xs.map (bring m)) true else K [] false := by
  have hh := h.high
  unfold impl_changed_at_Move_bring
  rw [impl_IsPolygon_eq, show poly xs = true by unfold poly; exact decide_eq_true h]
  simp only [Bool.not_true, cond_false]
  rw [changed_L5 hm (by omega) h.sm, arePegs_eq _ (by simp; omega), bif_ndec]
theorem moveCorners_eq {m : Mv} (hm : Mid m) (hg : gm m) {xs : List Pg} (h : Poly xs) (K : List Pg → Bool → Option ρ) : spec_MoveCorners m xs K = if ∀ p ∈ xs.map (bring m), inR p = true then K (xs.map (bring m)) true else K [] false := by
  have hh := h.high
  unfold spec_MoveCorners
  rw [spec_mvGood_eq hm, decide_eq_true hg]
  simp only [Bool.not_true, cond_false]
  rw [spec_pgGood_eq, show poly xs = true by unfold poly; exact decide_eq_true h]
  simp only [Bool.not_true, cond_false]
  rw [pgMap_eq hm (by omega) h.sm]
theorem flatPoly_both (xs : List Pg) : ∃ (l : List Pg) (b : Bool), l.length ≤ 10 ∧ (∀ {ρ : Type} (K : List Pg → Bool → Option ρ), spec_FlatPolygon xs K = K l b) ∧ (∀ {ρ : Type} (K : List Pg → Bool → Option ρ), impl_FlatPolygon xs K = K l b) := by
  obtain ⟨m, b, hb, h1, h2⟩ := flatMove_both xs
  cases b with
  | false =>
    refine ⟨[], false, by simp, fun {ρ} K => ?_, fun {ρ} K => ?_⟩
    · unfold spec_FlatPolygon; rw [h1]; rfl
    · unfold impl_FlatPolygon; rw [h2]; rfl
  | true =>
    obtain ⟨hm, hg, hp⟩ := hb rfl
    have hh := hp.high
    by_cases hx : ∀ p ∈ xs.map (bring m), inR p = true
    · refine ⟨xs.map (bring m), true, by simp; omega, fun {ρ} K => ?_, fun {ρ} K => ?_⟩
      · unfold spec_FlatPolygon; rw [h1]
        simp only [Bool.not_true, cond_false]
        rw [moveCorners_eq hm hg hp, if_pos hx]
      · unfold impl_FlatPolygon; rw [h2]
        simp only [Bool.not_true, cond_false]
        rw [changed_eq hm hp, if_pos hx]
    · refine ⟨[], false, by simp, fun {ρ} K => ?_, fun {ρ} K => ?_⟩
      · unfold spec_FlatPolygon; rw [h1]
        simp only [Bool.not_true, cond_false]
        rw [moveCorners_eq hm hg hp, if_neg hx]
      · unfold impl_FlatPolygon; rw [h2]
        simp only [Bool.not_true, cond_false]
        rw [changed_eq hm hp, if_neg hx]
theorem law_flatPolygon (xs : List Pg) (hx : xs.length ≤ 9223372036854775807) (K : Bool → Option ρ) : laws_FnExactFlatPolygon xs K = K true := by
  unfold laws_FnExactFlatPolygon laws_szPegS
  rw [w64_eq (by omega) (by omega), bif_dec]
  by_cases h0 : (1048576 : Int) - xs.length < 0
  · rw [if_pos h0]
    rfl
  · rw [if_neg h0]
    dsimp only
    rw [bif_dec, if_neg h0, toPegS_eq (by omega)]
    obtain ⟨r, b, hr, hs, hi⟩ := flatPoly_both xs
    obtain ⟨w0, hw0⟩ := markPegS_ex (l := xs) (by omega)
    obtain ⟨w, ⟨hw, hw2⟩, hm⟩ := marksP_ex (l := r) (by omega)
    have heq : ∀ (K : Bool → Option ρ), laws_eqPegS r r K = K true := eqPegS_self (by omega)
    rw [hs, toPegS_eq (by omega), hi, heq]
    simp only [Bool.not_true, cond_false, decide_true]
    rw [toPegS_eq (by omega), eqPegS_self (by omega)]
    simp only [Bool.not_true, cond_false]
    rw [hw0, bif_dec, if_neg (by omega), heq]
    simp only [Bool.not_true, cond_false]
    rw [hm, heldP_eq (by omega) (fun j hj => hw2 j (by omega)), hw, bif_dec, if_neg (by omega), bif_ndec, if_pos rfl, toPegS_eq (by omega), hi, heq]
    simp only [Bool.not_true, cond_false, decide_true]
    rw [heldP_eq (by omega) (fun j hj => hw2 j (by omega)), hw, bif_dec, if_neg (by omega), bif_ndec, if_pos rfl]
end
end Go.Proofs.Ga
