/-
  An interpreter of the functions of a program as plain functions of lists and numbers, part 40: what it computes is what the program does. No condition but those that its theorems name.
-/
import Derived.Test.YtjijojnmbjmecaaVi37
set_option linter.unusedVariables false
set_option linter.constructorNameAsVariable false
namespace Go.VI
open Go.Proofs Go.Sort Go.Shelf
/-! ### sorting by a function of the program -/
def Ty.flat : Ty → Bool
  | .l _ => false
  | .p x y => x.flat && y.flat
  | _ => true
def Ty.vals : (t : Ty) → t.D → List Value
  | .i k, n => [.int k n]
  | .b, x => [.bool x]
  | .s, x => [.string ⟨List.toArray x⟩]
  | .p x y, v => x.vals v.1 ++ y.vals v.2
  | .l _, _ => []
theorem vals_rep {w : World} {K : Kn} : ∀ {t : Ty} {d : Nat} {x : t.D} {vs : List Value} {F : FP}, t.flat = true → (RepC w K t d x vs F ↔ vs = t.vals x ∧ F.none)
  | .i _, _, _, _, _, _ => Iff.rfl
  | .b, _, _, _, _, _ => Iff.rfl
  | .s, _, _, _, _, _ => Iff.rfl
  | .p x y, d, v, vs, F, h => by
    have h' : (x.flat && y.flat) = true := h
    rw [Bool.and_eq_true] at h'
    constructor
    · rintro ⟨va, vb, Fa, Fb, h1, h2, h3, h4, h5⟩
      rw [vals_rep h'.1] at h2
      rw [vals_rep h'.2] at h3
      refine ⟨by rw [h1, h2.1, h3.1]; rfl, fun b hb => ?_⟩
      rcases (h5 b).1 hb with h | h
      · exact h2.2 b h
      · exact h3.2 b h
    · rintro ⟨h1, h2⟩
      exact ⟨x.vals v.1, y.vals v.2, Nil, Nil, h1, (vals_rep h'.1).2 ⟨rfl, no_none⟩, (vals_rep h'.2).2 ⟨rfl, no_none⟩, fun _ h => h.elim, fun b => ⟨fun hb => (h2 b hb).elim, fun h => h.elim (fun h => h.elim) (fun h => h.elim)⟩⟩
  | .l _, _, _, _, _, h => by simp [Ty.flat] at h
theorem vals_len : ∀ {t : Ty} (x : t.D), t.flat = true → (t.vals x).length = t.sz
  | .i _, _, _ => rfl
  | .b, _, _ => rfl
  | .s, _, _ => rfl
  | .p x y, v, h => by
    have h' : (x.flat && y.flat) = true := h
    rw [Bool.and_eq_true] at h'
    show (x.vals v.1 ++ y.vals v.2).length = x.sz + y.sz
    rw [List.length_append, vals_len v.1 h'.1, vals_len v.2 h'.2]
  | .l _, _, h => by simp [Ty.flat] at h
theorem vals_one : ∀ {t : Ty} (x : t.D), ∀ v ∈ t.vals x, v.oneCell' = true
  | .i _, _, v, h => by
    rw [show v = _ from List.mem_singleton.1 h]; rfl
  | .b, _, v, h => by
    rw [show v = _ from List.mem_singleton.1 h]; rfl
  | .s, _, v, h => by
    rw [show v = _ from List.mem_singleton.1 h]; rfl
  | .p x y, u, v, h => by
    rcases List.mem_append.1 (show v ∈ x.vals u.1 ++ y.vals u.2 from h) with h | h
    · exact vals_one u.1 v h
    · exact vals_one u.2 v h
  | .l _, _, v, h => by simp [Ty.vals] at h
theorem vals_elems {w : World} {K : Kn} {t : Ty} (ht : t.flat = true) : ∀ {xs : List t.D} {vs : List Value} {F : FP}, Elems (RepC w K t 0) xs vs F ↔ vs = xs.flatMap t.vals ∧ F.none
  | [], _, _ => Iff.rfl
  | x :: xs, vs, F => by
    constructor
    · rintro ⟨va, vb, Fa, Fb, h1, h2, h3, h4, h5⟩
      rw [vals_rep ht] at h2
      rw [vals_elems ht] at h3
      refine ⟨by rw [h1, h2.1, h3.1]; rfl, fun b hb => ?_⟩
      rcases (h5 b).1 hb with h | h
      · exact h2.2 b h
      · exact h3.2 b h
    · rintro ⟨h1, h2⟩
      exact ⟨t.vals x, xs.flatMap t.vals, Nil, Nil, h1, (vals_rep ht).2 ⟨rfl, no_none⟩, (vals_elems ht).2 ⟨rfl, no_none⟩, fun _ h => h.elim, fun b => ⟨fun hb => (h2 b hb).elim, fun h => h.elim (fun h => h.elim) (fun h => h.elim)⟩⟩
theorem flat_get {α : Type} {enc : α → List Value} {k : Nat} (hk : ∀ x, (enc x).length = k) : ∀ (xs : List α) (i c : Nat) (h : i < xs.length), c < k → (xs.flatMap enc)[i * k + c]? = (enc xs[i])[c]?
  | [], i, c, h, _ => by simp at h
  | x :: xs, 0, c, h, hc => by
    rw [List.flatMap_cons, List.getElem?_append_left (by rw [hk]; omega)]; simp
  | x :: xs, i + 1, c, h, hc => by
    rw [List.flatMap_cons, List.getElem?_append_right (by rw [hk, Nat.add_mul]; omega), hk, show (i + 1) * k + c - k = i * k + c by rw [Nat.add_mul]; omega]
    exact flat_get hk xs i c (by simpa using h) hc
theorem flat_len {α : Type} {enc : α → List Value} {k : Nat} (hk : ∀ x, (enc x).length = k) : ∀ xs : List α, (xs.flatMap enc).length = xs.length * k
  | [] => by simp
  | x :: xs => by rw [List.flatMap_cons, List.length_append, hk, flat_len hk xs, List.length_cons, Nat.add_mul]; omega
theorem flatK_list {α : Type} [Inhabited α] {enc : α → List Value} {k : Nat} (hk : ∀ x, (enc x).length = k) (d : Array α) : (flatK enc k d).toList = d.toList.flatMap enc := by
  apply List.ext_getElem?
  intro j
  have hl : (d.toList.flatMap enc).length = d.size * k := by rw [flat_len hk]; simp
  by_cases hj : j < d.size * k
  · have k0 : 0 < k := by
      rcases Nat.eq_zero_or_pos k with h | h
      · subst h; simp at hj
      · exact h
    have hi : j / k < d.size := Nat.div_lt_of_lt_mul (by rwa [Nat.mul_comm] at hj)
    have hg := get_flatK enc k d j hj
    rw [getElem!_pos (flatK enc k d) j (by rw [size_flatK]; exact hj)] at hg
    rw [Array.getElem?_toList, Array.getElem?_eq_getElem (by rw [size_flatK]; exact hj), hg]
    have := flat_get hk d.toList (j / k) (j % k) (by simpa using hi) (Nat.mod_lt _ k0)
    rw [Nat.mul_comm (j / k) k, Nat.div_add_mod] at this
    rw [this]
    have hm : j % k < (enc d[j / k]!).length := by rw [hk]; exact Nat.mod_lt _ k0
    rw [getElem!_pos (enc d[j / k]!) (j % k) hm]
    have e : d[j / k]! = d.toList[j / k]'(by simpa using hi) := by rw [getElem!_pos d _ hi]; simp
    simp only [e] at hm ⊢
    rw [List.getElem?_eq_getElem hm]
  · rw [List.getElem?_eq_none (by rw [Array.length_toList, size_flatK]; omega), List.getElem?_eq_none (by omega)]
/-- A call that answers one value without memory: what was there lies as it lay. -/
theorem call_grows {P : Program} {f : FuncId} {as_ : List PV} {r : PV} {w : World} {vs : Array Value} (hm : Meets P f as_ [] r []) (he : ∀ args w, (callFunc f args).run P w = .ok (.enter f args) w) (ha : ArgsIn w as_ vs) :
    Calls P f vs w fun e w' => ∃ v, e = .returned v ∧ (∃ c' Fr, c'.w = w' ∧ RepV c' r v Fr) ∧ ∃ q os', w' = grow (w.drewN q) os' := by
  let c : Cx := { w := w, K := KW w, S := S0 as_ [], val := fun l => match Nat.beq (l % 2) 0 with | true => vs.getD (l / 2) undef | false => undef, Fq := fun _ => Nil }
  have vT : ∀ k, c.val (T k) = vs.getD k undef := fun k => by simp only [c, T_mod, T_div]
  have hE : Entry c := {
    rep := by
      intro l
      rcases loc_cases l with ⟨k, rfl⟩ | ⟨j, rfl⟩
      · rw [vT]
        show RepV c (S0 as_ [] (T k)).pv _ Nil
        rw [S0_T]
        exact ha.rep c rfl rfl k
      · show RepV c (S0 as_ [] (O j)).pv _ Nil
        rw [S0_O]
        exact no_none
    dis := fun _ _ _ _ h => h.elim
    holds := fun _ _ _ h => h
    kdis := fun _ _ _ _ h => h.elim
    bound := fun _ _ h => h.elim }
  have := hm.2.2 c vs rfl hE ha.size vT
  unfold CallRes at this
  rw [show c.w = w from rfl, he] at this
  refine this.mono ?_
  rintro e w' ⟨v, rfl, c', Fr, rfl, hL⟩
  refine ⟨v, rfl, ⟨c', Fr, rfl, hL.ret⟩, c'.w.drawn - w.drawn, c'.w.heap.extract w.heap.size, ?_⟩
  have e1 : c'.w.os = w.os := hL.os
  have e2 : c'.w.tape = w.tape := hL.tape
  have e3 : c'.w.output = w.output := hL.output
  have e4 : w.drawn ≤ c'.w.drawn := hL.drawn
  have e5 : w.heap.size ≤ c'.w.heap.size := hL.size
  have e6 : ∀ b, b < w.heap.size → c'.w.heap[b]? = w.heap[b]? := fun b hb => hL.frame b hb (fun l h => h)
  generalize c'.w = w2 at e1 e2 e3 e4 e5 e6 ⊢
  obtain ⟨heap, tape, drawn, os, output⟩ := w2
  simp only at e1 e2 e3 e4 e5 e6
  subst e1 e2 e3
  unfold grow World.drewN
  simp only [World.mk.injEq, true_and, and_true]
  refine ⟨?_, by omega⟩
  apply Array.ext_getElem?
  intro b
  rw [Array.getElem?_append]
  by_cases hb : b < w.heap.size
  · rw [if_pos hb, e6 b hb]
  · rw [if_neg hb, Array.getElem?_extract]
    by_cases hb2 : b < heap.size
    · rw [if_pos (by omega), show w.heap.size + (b - w.heap.size) = b by omega]
    · rw [if_neg (by omega), Array.getElem?_eq_none (by omega)]
theorem heap_sorted {α : Type} [Inhabited α] (enc : α → List Value) (k : Nat) (w : World) (blk off m : Nat) (dk : Array α) (os : Array Obj) {arr : Array Value} {ty : TypeId} {fr : Nat × Nat} (hb : w.heap[blk]? = some (.cells arr ty fr)) :
    (sortWorldK enc k w blk off m dk os).heap[blk]? = some (.cells (Go.Sort.putCells id off (flatK enc k dk) arr) ty fr) ∧ (∀ b, b < w.heap.size → b ≠ blk → (sortWorldK enc k w blk off m dk os).heap[b]? = w.heap[b]?) ∧ w.heap.size ≤ (sortWorldK enc k w blk off m dk os).heap.size := by
  have hlt : blk < w.heap.size := (Array.getElem?_eq_some_iff.1 hb).1
  have heq : (sortWorldK enc k w blk off m dk os).heap = w.heap.modify blk (onCells (Go.Sort.putCells id off (flatK enc k dk))) ++ os := rfl
  rw [heq]
  refine ⟨?_, fun b hbs hne => ?_, by simp⟩
  · rw [Array.getElem?_append, if_pos (by simpa using hlt), Array.getElem?_modify, if_pos rfl, hb]; rfl
  · rw [Array.getElem?_append, if_pos (by simpa using hbs), Array.getElem?_modify, if_neg (fun h => hne h.symm)]
theorem putCells_row (off : Nat) (F arr : Array Value) (h : off + F.size ≤ arr.size) : (((Go.Sort.putCells id off F arr).toList.drop off).take F.size) = F.toList := by
  apply List.ext_getElem?
  intro j
  by_cases hj : j < F.size
  · rw [List.getElem?_take, if_pos hj, List.getElem?_drop, Array.getElem?_toList]
    unfold Go.Sort.putCells
    rw [Array.getElem?_mapIdx, Array.getElem?_eq_getElem (by omega), Option.map_some, if_pos ⟨by omega, by omega⟩, show off + j - off = j by omega, getElem!_pos F j hj, Array.getElem?_toList, Array.getElem?_eq_getElem hj]
    rfl
  · rw [List.getElem?_eq_none (by rw [List.length_take]; omega), List.getElem?_eq_none (by simpa using hj)]
theorem sort_sound {P : Program} {rn : Ren} {ρ : Type} (L : SlLaysF0.n6 P rn) (x y : Ty) [Inhabited (Ty.p x y).D] (ht : (Ty.p x y).flat = true)
    (aE : ∀ w, (isAgg (rn.t 24)).run P w = .ok true w) (zE : ∀ w, (Go.sizeOf (rn.t 24)).run P w = .ok (Ty.p x y).sz w) (cf : (Ty.p x y).D → (Ty.p x y).D → Int) (hO : SWO (ltOf cf)) (f g : FuncId) (hf : rn.f 6 = f)
    (ef : ∀ args w, (callFunc f args).run P w = .ok (.enter f args) w) (eg : ∀ args w, (callFunc g args).run P w = .ok (.enter g args) w)
    (hcmp : ∀ u v, Meets P g [(Ty.p x y).toPV 0 u, (Ty.p x y).toPV 0 v] [] (.int .i64 (cf u v)) []) :
    FnSound P (fnC (ρ := ρ) f (lSkip (cAls 1) (lOne (cClo g lNil))) (lOne (cSl 1 (.p x y))) (fun (e : List (Ty.p x y).D) => ((.tup [] : PV), ([.sl 1 (.p x y) e] : List PV)))
      (fun _ o K => chk (decide (0 < o.length) && decide (o.length < 4611686018427387904)) <| K (sortBy cf o))) := by
  intro as_ os_ K r h
  unfold fnC at h
  dsimp only at h
  split at h
  · rename_i a ha
    split at h
    · rename_i xs hos
      have ea := (lSkip (cAls 1) (lOne (cClo g lNil))).ok _ _ ha
      have eo := (lOne (cSl 1 (.p x y))).ok _ _ hos
      subst ea eo
      cases hc : (decide (0 < xs.length) && decide (xs.length < 4611686018427387904)) with
      | false => unfold chk at h; rw [hc] at h; simp at h
      | true =>
        unfold chk at h
        rw [hc] at h
        simp only [Bool.and_eq_true, decide_eq_true_iff] at hc
        refine ⟨.tup [], [.sl 1 (.p x y) (sortBy cf xs)], ?_, h⟩
        refine ⟨rfl, rfl, fun c vs hS hE hsz hval => ?_⟩
        have r0 := hE.rep (T 0)
        have r1 := hE.rep (T 1)
        have r2 := hE.rep (O 0)
        rw [hS, S0_T] at r0 r1
        rw [hS, S0_O] at r2
        have r0' : (c.Fq (T 0)).none ∧ 0 ≤ (c.S 1).ig ∧ ((c.S 1).ig = 0 → c.val (T 0) = c.val 1) := r0
        have v0 := r0'.2.2 (by rw [hS]; exact congrArg Cont.ig (S0_O _ _ 0))
        obtain ⟨_, vs1, v1, v1'⟩ : (c.Fq (T 1)).none ∧ ∃ vs, c.val (T 1) = .func (.func g) #[] vs ∧ RepVs c [] vs.toList (fun _ => False) := r1
        have v1e : vs1 = #[] := by
          have : vs1.toList = [] := v1'.1
          simpa using this
        subst v1e
        have r2' : RepC c.w c.K (.l (.p x y)) 1 xs [c.val (O 0)] (c.Fq (O 0)) := r2
        obtain ⟨ad, cap, e1, e2, e3⟩ := r2'
        have e0 : c.val (O 0) = .slice ad xs.length cap := by simpa using e1
        rcases e3 with ⟨e3, _⟩ | ⟨b, o, arr, ty, F', g1, g2, g3, g4, g5, g6⟩
        · subst e3; simp at hc
        subst g1
        have evs : vs = #[.slice (some ⟨b, o, none⟩) xs.length cap, .func (.func g) #[] #[]] := by
          have h0 := hval 0
          have h1 := hval 1
          rw [v0, show c.val 1 = c.val (O 0) from rfl, e0] at h0
          rw [v1] at h1
          have hs2 : vs.size = 2 := hsz
          apply Array.ext
          · rw [hs2]; rfl
          · intro i hi1 hi2
            have : i = 0 ∨ i = 1 := by omega
            rcases this with rfl | rfl
            · simp [hi1] at h0; simpa using h0.symm
            · simp [hi1] at h1; simpa using h1.symm
        subst evs
        have hk : ∀ u, ((Ty.p x y).vals u).length = (Ty.p x y).sz := fun u => vals_len u ht
        have hblk : b < c.w.heap.size := (Array.getElem?_eq_some_iff.1 g2).1
        rw [vals_elems ht] at g4
        have hsl : xs.length * (Ty.p x y).sz ≤ cap * (Ty.p x y).sz := Nat.mul_le_mul_right _ e2
        have hsz' : (flatK (Ty.p x y).vals (Ty.p x y).sz xs.toArray).size = xs.length * (Ty.p x y).sz := by simp
        have hH : HoldsK (Ty.p x y).vals (Ty.p x y).sz c.w b o xs.toArray := by
          intro j hj
          rw [hsz'] at hj
          have hl := flatK_list hk xs.toArray
          rw [show xs.toArray.toList = xs by simp, ← g4.1] at hl
          have hg : (flatK (Ty.p x y).vals (Ty.p x y).sz xs.toArray).toList[j]? = some (flatK (Ty.p x y).vals (Ty.p x y).sz xs.toArray)[j]! := by
            rw [Array.getElem?_toList, Array.getElem?_eq_getElem (by omega), getElem!_pos _ j (by omega)]
          rw [hl, List.getElem?_take, if_pos hj, List.getElem?_drop, Array.getElem?_toList] at hg
          constructor
          · unfold World.cell?
            rw [show (⟨b, o + j, none⟩ : Addr).block = b from rfl, g2]
            exact hg
          · unfold World.frozen?
            rw [show (⟨b, o + j, none⟩ : Addr).block = b from rfl, g2]
            simp
        have hLays : CmpLays P g #[] (Ty.p x y).vals (Ty.p x y).sz cf b o xs.toArray.size c.w := by
          intro m os dk hs u v
          refine (call_grows (hcmp u v) eg ((ArgsIn.nil.of (arg_agg (v := v) (arr := ((Ty.p x y).vals v).toArray) ((vals_rep ht).2 ⟨by simp, no_none⟩))).of (arg_agg (v := u) (arr := ((Ty.p x y).vals u).toArray) ((vals_rep ht).2 ⟨by simp, no_none⟩)))).mono ?_
          rintro e w' ⟨z, rfl, ⟨c', Fr, _, hz⟩, hq⟩
          exact ⟨by rw [hz.1], hq⟩
        have main := AnyQ.slices_SortFunc_eq L (Ty.p x y).sz aE zE (Ty.p x y).vals hk (fun u => vals_one u) cf hO g #[] b o cap xs.toArray c.w eg hLays hH hblk (by simpa using hc.2)
        rw [hf] at main
        change CallRes P f _ c.w _
        unfold CallRes
        rw [ef]
        refine main.mono ?_
        rintro e w' ⟨rfl, n, os, rfl⟩
        refine ⟨_, rfl, ?_⟩
        have hperm := (pdq_sorts (ltOf cf) hO xs.toArray 0 xs.toArray.size (Lib.bitLen xs.toArray.size) true true (Nat.zero_le _) (Nat.le_refl _) (Or.inl rfl)).1
        have hps := hperm.1
        have hdef : (pdq (ltOf cf) xs.toArray 0 xs.toArray.size (Lib.bitLen xs.toArray.size) true true).toList = sortBy cf xs := rfl
        generalize pdq (ltOf cf) xs.toArray 0 xs.toArray.size (Lib.bitLen xs.toArray.size) true true = D' at hps hdef ⊢
        have hlen : (sortBy cf xs).length = xs.length := by rw [← hdef]; simpa using hps
        obtain ⟨w1, w2, w3⟩ := heap_sorted (Ty.p x y).vals (Ty.p x y).sz c.w b o n D' os g2
        have hfq : c.Fq (O 0) b := (g6 b).2 (.inl rfl)
        refine ⟨{ c with w := sortWorldK (Ty.p x y).vals (Ty.p x y).sz c.w b o n D' os }, Nil, rfl, ?_⟩
        have hfsz : (flatK (Ty.p x y).vals (Ty.p x y).sz D').size = xs.length * (Ty.p x y).sz := by rw [size_flatK, hps]; simp
        have only0 : ∀ j, j < ([.sl 1 (.p x y) xs] : List PV).length → j = 0 := fun j hj => by
          have : ([.sl 1 (.p x y) xs] : List PV).length = 1 := rfl
          omega
        have hcell : ∀ b' o' v, c.K b' o' v → (sortWorldK (Ty.p x y).vals (Ty.p x y).sz c.w b o n D' os).cell? ⟨b', o', none⟩ = some v := by
          intro b' o' v hK
          have hne : b' ≠ b := by
            rintro rfl
            exact hE.kdis _ _ v _ hfq hK
          have hh := hE.holds _ _ _ hK
          have hlt : b' < c.w.heap.size := by
            unfold World.cell? at hh
            rw [show (⟨b', o', none⟩ : Addr).block = b' from rfl] at hh
            rcases Nat.lt_or_ge b' c.w.heap.size with hx | hx
            · exact hx
            · rw [Array.getElem?_eq_none hx] at hh; simp at hh
          unfold World.cell? at hh ⊢
          rw [show (⟨b', o', none⟩ : Addr).block = b' from rfl] at hh ⊢
          rw [w2 b' hlt hne]
          exact hh
        exact {
          ret := ⟨#[], rfl, rfl, no_none⟩
          out := by
            intro j hj
            obtain rfl := only0 j hj
            show RepC _ _ (.l (.p x y)) 1 (sortBy cf xs) [c.val (O 0)] (c.Fq (O 0))
            rw [e0]
            refine ⟨some ⟨b, o, none⟩, cap, by rw [hlen], by rw [hlen]; exact e2, .inr ⟨b, o, _, ty, F', rfl, w1, by simpa [Go.Sort.putCells] using g3, ?_, g5, g6⟩⟩
            rw [vals_elems ht, hlen, ← hfsz, putCells_row _ _ _ (by rw [hfsz]; omega), flatK_list hk, hdef]
            exact ⟨rfl, g4.2⟩
          rdis := fun _ _ _ h => h.elim
          odis := fun i j hi hj hij => by
            rw [only0 i hi, only0 j hj] at hij
            exact (hij rfl).elim
          holds := hcell
          rk := fun _ _ _ h => h.elim
          ok := fun j b' o' v hj hb' => hE.kdis _ _ _ _ hb'
          rbound := fun _ h => h.elim
          obound := fun j b' hj hb' => ⟨Nat.lt_of_lt_of_le (hE.bound _ _ hb') w3, fun _ => ⟨_, hb'⟩⟩
          os := rfl
          tape := rfl
          output := rfl
          drawn := Nat.le_add_right _ _
          size := w3
          frame := fun b' hb' hn => w2 b' hb' (by rintro rfl; exact hn _ hfq)
          K := fun _ _ _ h => h
          knew := fun _ _ _ h => .inl h }
    · simp at h
  · simp at h
end Go.VI
