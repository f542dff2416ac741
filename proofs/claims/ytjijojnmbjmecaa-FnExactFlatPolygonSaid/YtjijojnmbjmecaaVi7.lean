/-
  An interpreter of the functions of a program as plain functions of lists and numbers, part 7: what it computes is what the program does. No condition but those that its theorems name.
-/
import Derived.Test.YtjijojnmbjmecaaVi6
set_option linter.unusedVariables false
set_option linter.constructorNameAsVariable false
namespace Go.VI
/-! ### memory -/
theorem add_addr (b o n : Nat) : (⟨b, o, none⟩ : Addr).add n = ⟨b, o + n, none⟩ := by
  unfold Addr.add
  split
  · next h => subst h; rfl
  · rfl
section
variable {P : Program}
theorem run_load_some {w : World} {a : Addr} {v : Value} (h : w.cell? a = some v) : (load a).run P w = .ok v w := by rw [run_load, h]
theorem loadCellsFrom_ok {w : World} {b o : Nat} : ∀ (vs : List Value) (i : Nat) (acc : Array Value), (∀ j v, vs[j]? = some v → w.cell? ⟨b, o + i + j, none⟩ = some v) →
    (loadCellsFrom ⟨b, o, none⟩ i vs.length acc).run P w = .ok (acc ++ vs.toArray) w
  | [], i, acc, h => by simp [loadCellsFrom]
  | v :: vs, i, acc, h => by
    have h0 := h 0 v rfl
    simp only [List.length_cons, loadCellsFrom, add_addr, Sem.run_bind]
    rw [run_load_some (by simpa using h0), Result.andThen_ok, loadCellsFrom_ok vs (i + 1) (acc.push v) (fun j u hu => by
      have := h (j + 1) u (by simpa using hu)
      rwa [show o + i + (j + 1) = o + (i + 1) + j by omega] at this)]
    simp
theorem loadCells_ok {w : World} {b o : Nat} (vs : List Value) (h : ∀ j v, vs[j]? = some v → w.cell? ⟨b, o + j, none⟩ = some v) :
    (loadCells ⟨b, o, none⟩ vs.length).run P w = .ok vs.toArray w := by
  unfold loadCells
  rw [loadCellsFrom_ok vs 0 #[] (fun j v hv => by simpa using h j v hv)]
  simp
theorem loadVar_ok {w : World} {b o : Nat} {τ : List (TypeId × TI)} {t : TypeId} {ti : TI} (ht : TIok P τ t ti) (vs : List Value) (hl : vs.length = ti.sz)
    (h : ∀ j v, vs[j]? = some v → w.cell? ⟨b, o + j, none⟩ = some v) :
    (loadVar t ⟨b, o, none⟩).run P w = match ti.agg with
      | true => .ok (.agg vs.toArray) w
      | false => match vs with
        | [] => (load ⟨b, o, none⟩).run P w
        | v :: _ => .ok v w := by
  obtain ⟨i, hi, hsz, _⟩ := ht.info
  obtain ⟨d, hd, hag, _⟩ := ht.desc
  have hsize : (sizeOf t).run P w = .ok ti.sz w := by
    simp [sizeOf, typeInfo, run_program, hi, hsz]
  have hisag : (isAgg t).run P w = .ok ti.agg w := by
    simp only [isAgg, Sem.run_bind, run_underlying hd, Result.andThen_ok, hag]
    cases d <;> rfl
  unfold loadVar
  rw [Sem.run_bind, hisag, Result.andThen_ok]
  cases ti.agg with
  | true =>
    simp only [if_true, Sem.run_bind, hsize, Result.andThen_ok]
    rw [← hl, loadCells_ok vs h]
    rfl
  | false =>
    cases vs with
    | nil => rfl
    | cons v r =>
      have := h 0 v rfl
      simp only [Bool.false_eq_true, if_false]
      rw [run_load_some (by simpa using this)]
def oneCell : Value → Bool
  | .agg _ | .tuple _ => false
  | _ => true
def putCells (arr : Array Value) (o : Nat) : List Value → Array Value
  | [] => arr
  | v :: r => putCells (arr.setIfInBounds o v) (o + 1) r
theorem putCells_size : ∀ (vs : List Value) (arr : Array Value) (o : Nat), (putCells arr o vs).size = arr.size
  | [], _, _ => rfl
  | v :: r, arr, o => by rw [putCells, putCells_size r, Array.size_setIfInBounds]
theorem putCells_get : ∀ (vs : List Value) (arr : Array Value) (o j : Nat), o + vs.length ≤ arr.size →
    (putCells arr o vs)[j]? = if j < o then arr[j]? else if j < o + vs.length then vs[j - o]? else arr[j]?
  | [], arr, o, j, h => by
    by_cases h1 : j < o
    · rw [if_pos h1]; rfl
    · rw [if_neg h1, if_neg (by simpa using h1)]; rfl
  | v :: r, arr, o, j, h => by
    simp only [List.length_cons] at h
    rw [putCells, putCells_get r _ (o + 1) j (by simpa using by omega), Array.getElem?_setIfInBounds]
    simp only [List.length_cons]
    by_cases h1 : j < o
    · rw [if_pos (by omega), if_pos h1, if_neg (by omega)]
    · by_cases h2 : j = o
      · subst h2
        rw [if_pos (by omega), if_pos rfl, if_neg h1, if_pos (by omega), if_pos (by omega)]; simp
      · by_cases h3 : j < o + 1 + r.length
        · rw [if_neg (by omega), if_pos h3, if_neg h1, if_pos (by omega)]
          rw [show j - o = (j - (o + 1)) + 1 by omega]; simp
        · rw [if_neg (by omega), if_neg h3, if_neg (by omega), if_neg h1, if_neg (by omega)]
/-- The world with one row of cells another one. -/
def World.row (w : World) (b : Nat) (arr : Array Value) (ty : TypeId) : World := { w with heap := w.heap.setIfInBounds b (.cells arr ty (0, 0)) }
theorem row_get {w : World} {b : Nat} {arr : Array Value} {ty : TypeId} (h : b < w.heap.size) : (World.row w b arr ty).heap[b]? = some (.cells arr ty (0, 0)) := by
  simp [World.row, h]
theorem row_ne {w : World} {b c : Nat} {arr : Array Value} {ty : TypeId} (h : c ≠ b) : (World.row w b arr ty).heap[c]? = w.heap[c]? := by
  simp only [World.row]
  rw [Array.getElem?_setIfInBounds_ne (fun e => h e.symm)]
theorem heap_lt {w : World} {b : Nat} {o : Obj} (h : w.heap[b]? = some o) : b < w.heap.size := by
  rcases Nat.lt_or_ge b w.heap.size with h' | h'
  · exact h'
  · rw [Array.getElem?_eq_none h'] at h; simp at h
theorem row_same {w : World} {b : Nat} {arr : Array Value} {ty : TypeId} (h : w.heap[b]? = some (.cells arr ty (0, 0))) : World.row w b arr ty = w := by
  have hb := heap_lt h
  have : w.heap.setIfInBounds b (.cells arr ty (0, 0)) = w.heap := by
    apply Array.ext_getElem?
    intro i
    rw [Array.getElem?_setIfInBounds]
    split
    · next e => subst e; exact h.symm
    · rfl
  simp [World.row, this]
theorem row_row {w : World} {b : Nat} {arr arr' : Array Value} {ty : TypeId} : World.row (World.row w b arr ty) b arr' ty = World.row w b arr' ty := by
  simp [World.row]
theorem store_ok {w : World} {b o : Nat} {arr : Array Value} {ty : TypeId} (h : w.heap[b]? = some (.cells arr ty (0, 0))) (ho : o < arr.size) {v : Value} (hv : oneCell v = true) :
    (store ⟨b, o, none⟩ v).run P w = .ok () (World.row w b (arr.setIfInBounds o v) ty) := by
  have hc : w.cell? ⟨b, o, none⟩ = some arr[o] := by rw [cell_of_heap h]; simp [ho]
  have hf : w.frozen? ⟨b, o, none⟩ = false := by simp [World.frozen?, h]
  have hset : w.setCell ⟨b, o, none⟩ v = World.row w b (arr.setIfInBounds o v) ty := by
    unfold World.setCell World.row
    congr 1
    apply Array.ext_getElem?
    intro i
    rw [Array.getElem?_modify, Array.getElem?_setIfInBounds]
    split
    · next e => subst e; rw [h, if_pos (heap_lt h)]; rfl
    · rfl
  have key : ∀ (k : Sem Unit), (∀ a, v ≠ .agg a) → (∀ a, v ≠ .tuple a) → (Sem.store .plain ⟨b, o, none⟩ v k).run P w = k.run P (w.setCell ⟨b, o, none⟩ v) := by
    intro k h1 h2
    cases v <;> simp only [Sem.run, hc, hf] <;> first | rfl | (exact absurd rfl (h1 _)) | (exact absurd rfl (h2 _))
  unfold store
  rw [key _ (fun a e => by subst e; simp [oneCell] at hv) (fun a e => by subst e; simp [oneCell] at hv), hset]
  rfl
theorem storeCells_ok {b o : Nat} {ty : TypeId} : ∀ (vs : List Value) (w : World) (arr : Array Value) (i : Nat), w.heap[b]? = some (.cells arr ty (0, 0)) → o + i + vs.length ≤ arr.size →
    (∀ v ∈ vs, oneCell v = true) → (storeCells ⟨b, o, none⟩ vs i).run P w = .ok () (World.row w b (putCells arr (o + i) vs) ty)
  | [], w, arr, i, h, hl, hv => by
    simp only [storeCells, putCells, row_same h]; rfl
  | v :: r, w, arr, i, h, hl, hv => by
    simp only [List.length_cons] at hl
    simp only [storeCells, add_addr, Sem.run_bind]
    rw [store_ok h (by omega) (hv v (by simp)), Result.andThen_ok,
      storeCells_ok r _ (arr.setIfInBounds (o + i) v) (i + 1) (row_get (heap_lt h)) (by simpa using by omega) (fun u hu => hv u (by simp [hu])), row_row]
    simp only [putCells]
    rw [show o + (i + 1) = o + i + 1 by omega]
theorem storeVar_ok {w : World} {b o : Nat} {τ : List (TypeId × TI)} {t : TypeId} {ti : TI} (ht : TIok P τ t ti) {arr : Array Value} {ty : TypeId} {v : Value}
    (h : w.heap[b]? = some (.cells arr ty (0, 0))) (hl : v.cells.size = ti.sz) (ho : o + ti.sz ≤ arr.size) (hv : ∀ u ∈ v.cells.toList, oneCell u = true) :
    (storeVar t ⟨b, o, none⟩ v).run P w = .ok () (World.row w b (putCells arr o v.cells.toList) ty) := by
  obtain ⟨i, hi, hsz, _⟩ := ht.info
  have hsize : (sizeOf t).run P w = .ok ti.sz w := by simp [sizeOf, typeInfo, run_program, hi, hsz]
  unfold storeVar
  rw [Sem.run_bind, hsize, Result.andThen_ok]
  simp only [hl, ne_eq, not_true, if_false]
  exact storeCells_ok v.cells.toList w arr 0 h (by simp [hl]; omega) hv
end
/-! ### lists of cells -/
theorem RepVs.len {c : Cx} : ∀ {ps : List PV} {vs : List Value} {F : FP}, RepVs c ps vs F → vs.length = ps.length
  | [], vs, F, h => by simp [h.1]
  | p :: ps, vs, F, ⟨v, vs', Fa, Fb, h1, h2, h3, _⟩ => by simp [h1, h3.len]
theorem RepVs.append {c : Cx} : ∀ {ps qs : List PV} {vs us : List Value} {F G : FP}, RepVs c ps vs F → RepVs c qs us G → F.dis G → RepVs c (ps ++ qs) (vs ++ us) (fun b => F b ∨ G b)
  | [], qs, vs, us, F, G, h, h', hd => by
    obtain ⟨rfl, h2⟩ := h
    have : (fun b => F b ∨ G b) = G := FP.ext fun b => ⟨fun h => h.elim (fun h => (h2 b h).elim) id, .inr⟩
    rw [this]; exact h'
  | p :: ps, qs, vs, us, F, G, ⟨v, vs', Fa, Fb, h1, h2, h3, h4, h5⟩, h', hd => by
    refine ⟨v, vs' ++ us, Fa, fun b => Fb b ∨ G b, by rw [h1]; rfl, h2, h3.append h' (fun b k1 k2 => hd b ((h5 b).2 (.inr k1)) k2), ?_, ?_⟩
    · rintro b k1 (k2 | k2)
      · exact h4 b k1 k2
      · exact hd b ((h5 b).2 (.inl k1)) k2
    · intro b
      constructor
      · rintro (k | k)
        · exact ((h5 b).1 k).imp id .inl
        · exact .inr (.inr k)
      · rintro (k | k | k)
        · exact .inl ((h5 b).2 (.inl k))
        · exact .inl ((h5 b).2 (.inr k))
        · exact .inr k
theorem RepVs.split {c : Cx} : ∀ {ps qs : List PV} {vs : List Value} {F : FP}, RepVs c (ps ++ qs) vs F →
    ∃ va vb Fa Fb, vs = va ++ vb ∧ RepVs c ps va Fa ∧ RepVs c qs vb Fb ∧ Fa.dis Fb ∧ F.or Fa Fb
  | [], qs, vs, F, h => ⟨[], vs, fun _ => False, F, rfl, ⟨rfl, no_none⟩, h, fun _ h => h.elim, fun _ => by simp⟩
  | p :: ps, qs, vs, F, ⟨v, vs', Fa, Fb, h1, h2, h3, h4, h5⟩ => by
    obtain ⟨va, vb, Ga, Gb, g1, g2, g3, g4, g5⟩ := RepVs.split (ps := ps) h3
    refine ⟨v :: va, vb, fun b => Fa b ∨ Ga b, Gb, by rw [h1, g1]; rfl, ⟨v, va, Fa, Ga, rfl, h2, g2, fun b k1 k2 => h4 b k1 ((g5 b).2 (.inl k2)), fun _ => Iff.rfl⟩, g3, ?_, ?_⟩
    · rintro b (k1 | k1) k2
      · exact h4 b k1 ((g5 b).2 (.inr k2))
      · exact g4 b k1 k2
    · intro b
      rw [h5 b, g5 b]
      exact or_assoc.symm
/-- One cell of a list, and the list with another one in its place. -/
theorem RepVs.focus {c : Cx} {ps : List PV} {vs : List Value} {F : FP} (h : RepVs c ps vs F) {i : Nat} (hi : i < ps.length) :
    ∃ v Fa Fb, vs[i]? = some v ∧ RepV c (ps.getD i .undef) v Fa ∧ Fa.dis Fb ∧ F.or Fa Fb ∧
      ∀ (p' : PV) (v' : Value) (F' : FP), RepV c p' v' F' → F'.dis Fb → RepVs c (ps.set i p') (vs.set i v') (fun b => F' b ∨ Fb b) := by
  induction ps generalizing i vs F with
  | nil => simp at hi
  | cons p ps ih =>
    obtain ⟨v, vs', Fa, Fb, h1, h2, h3, h4, h5⟩ := h
    subst h1
    cases i with
    | zero => exact ⟨v, Fa, Fb, rfl, h2, h4, h5, fun p' v' F' hr hd => ⟨v', vs', F', Fb, rfl, hr, h3, hd, fun _ => Iff.rfl⟩⟩
    | succ i =>
      obtain ⟨v1, Ga, Gb, g1, g2, g3, g4, g5⟩ := ih h3 (by simpa using hi)
      refine ⟨v1, Ga, fun b => Fa b ∨ Gb b, by simpa using g1, by simpa using g2, ?_, ?_, ?_⟩
      · rintro b k1 (k2 | k2)
        · exact h4 b k2 ((g4 b).2 (.inl k1))
        · exact g3 b k1 k2
      · intro b
        rw [h5 b, g4 b]
        constructor
        · rintro (k | k | k)
          · exact .inr (.inl k)
          · exact .inl k
          · exact .inr (.inr k)
        · rintro (k | k | k)
          · exact .inr (.inl k)
          · exact .inl k
          · exact .inr (.inr k)
      · intro p' v' F' hr hd
        have := g5 p' v' F' hr (fun b k1 k2 => hd b k1 (.inr k2))
        refine ⟨v, vs'.set i v', Fa, _, rfl, h2, this, ?_, ?_⟩
        · rintro b k1 (k2 | k2)
          · exact hd b k2 (.inl k1)
          · exact h4 b k1 ((g4 b).2 (.inr k2))
        · intro b
          constructor
          · rintro (k | k | k)
            · exact .inr (.inl k)
            · exact .inl k
            · exact .inr (.inr k)
          · rintro (k | k | k)
            · exact .inr (.inl k)
            · exact .inl k
            · exact .inr (.inr k)
/-- The cells of data. -/
theorem RepC.cells {c : Cx} : ∀ {t : Ty} {d : Nat} {x : t.D} {vs : List Value} {F : FP}, RepC c.w c.K t d x vs F → RepVs c (t.cells d x) vs F
  | .i _, d, x, vs, F, h => ⟨_, [], F, fun _ => False, h.1, ⟨rfl, h.2⟩, ⟨rfl, no_none⟩, fun _ _ h => h, fun _ => by simp⟩
  | .b, d, x, vs, F, h => ⟨_, [], F, fun _ => False, h.1, ⟨rfl, h.2⟩, ⟨rfl, no_none⟩, fun _ _ h => h, fun _ => by simp⟩
  | .s, d, x, vs, F, h => ⟨_, [], F, fun _ => False, h.1, ⟨rfl, h.2⟩, ⟨rfl, no_none⟩, fun _ _ h => h, fun _ => by simp⟩
  | .l e, d, x, vs, F, h => by
    have hl := RepC.len h
    obtain ⟨ad, cap, h1, h2⟩ := h
    exact ⟨_, [], F, fun _ => False, h1, ⟨ad, cap, rfl, h2⟩, ⟨rfl, no_none⟩, fun _ _ h => h, fun _ => by simp⟩
  | .p x y, d, v, vs, F, ⟨va, vb, Fa, Fb, h1, h2, h3, h4, h5⟩ => by
    rw [h1]
    have := h2.cells.append h3.cells h4
    rwa [← FP.ext h5] at this
end Go.VI
