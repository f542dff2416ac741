/-
  An interpreter of the functions of a program as plain functions of lists and numbers, part 1: what it computes is what the program does. No condition but those that its theorems name.
-/
import Derived.Calls
set_option linter.unusedVariables false
set_option linter.constructorNameAsVariable false
namespace Go.VI
/-- Types of data. -/
inductive Ty where
  | i (k : IntKind) | b | s | p (x y : Ty) | l (x : Ty)
@[reducible] def Ty.D : Ty → Type
  | .i _ => Int | .b => Bool | .s => List UInt8 | .p x y => x.D × y.D | .l x => List x.D
def kbeq : IntKind → IntKind → Bool
  | .i8, .i8 => true | .i16, .i16 => true | .i32, .i32 => true | .i64, .i64 => true
  | .u8, .u8 => true | .u16, .u16 => true | .u32, .u32 => true | .u64, .u64 => true | _, _ => false
theorem kbeq_eq {a b : IntKind} (h : kbeq a b = true) : a = b := by cases a <;> cases b <;> first | rfl | (simp [kbeq] at h)
def Ty.beq : Ty → Ty → Bool
  | .i k, .i k' => kbeq k k' | .b, .b => true | .s, .s => true
  | .p x y, .p x' y' => x.beq x' && y.beq y' | .l x, .l x' => x.beq x' | _, _ => false
theorem Ty.beq_eq : ∀ {a b : Ty}, a.beq b = true → a = b
  | .i k, .i k', h => by rw [kbeq_eq (a := k) (b := k') h]
  | .b, .b, _ => rfl
  | .s, .s, _ => rfl
  | .p x y, .p x' y', h => by
    have h' : (x.beq x' && y.beq y') = true := h
    rw [Bool.and_eq_true] at h'
    rw [Ty.beq_eq h'.1, Ty.beq_eq h'.2]
  | .l x, .l x', h => by rw [Ty.beq_eq (a := x) (b := x') h]
  | .i _, .b, h => by simp [Ty.beq] at h
  | .i _, .s, h => by simp [Ty.beq] at h
  | .i _, .p _ _, h => by simp [Ty.beq] at h
  | .i _, .l _, h => by simp [Ty.beq] at h
  | .b, .i _, h => by simp [Ty.beq] at h
  | .b, .s, h => by simp [Ty.beq] at h
  | .b, .p _ _, h => by simp [Ty.beq] at h
  | .b, .l _, h => by simp [Ty.beq] at h
  | .s, .i _, h => by simp [Ty.beq] at h
  | .s, .b, h => by simp [Ty.beq] at h
  | .s, .p _ _, h => by simp [Ty.beq] at h
  | .s, .l _, h => by simp [Ty.beq] at h
  | .p _ _, .i _, h => by simp [Ty.beq] at h
  | .p _ _, .b, h => by simp [Ty.beq] at h
  | .p _ _, .s, h => by simp [Ty.beq] at h
  | .p _ _, .l _, h => by simp [Ty.beq] at h
  | .l _, .i _, h => by simp [Ty.beq] at h
  | .l _, .b, h => by simp [Ty.beq] at h
  | .l _, .s, h => by simp [Ty.beq] at h
  | .l _, .p _ _, h => by simp [Ty.beq] at h
def Ty.dflt : (t : Ty) → t.D
  | .i _ => (0 : Int) | .b => false | .s => ([] : List UInt8) | .p x y => (x.dflt, y.dflt) | .l _ => []
def Ty.dep : Ty → Nat
  | .l x => x.dep + 1 | .p x y => max x.dep y.dep | _ => 0
def Ty.sz : Ty → Nat
  | .p x y => x.sz + y.sz | _ => 1
def castL {a b : Ty} (h : a.beq b = true) (xs : List a.D) : List b.D := Ty.beq_eq h ▸ xs
/-- A place: slot n is 2 n, what came in by reference under number n is 2 n + 1. -/
abbrev Loc := Nat
inductive Step where
  | cell (n : Nat) | elem (n : Nat)
inductive PV where
  | undef | nov
  | bool (b : Bool) | int (k : IntKind) (n : Int) | str (s : List UInt8)
  | agg (cs : List PV) | tup (vs : List PV)
  | sl (d : Nat) (t : Ty) (xs : List t.D)
  | cap (t : Ty) (xs : List t.D)
  | bor (q : Loc) (path : List Step) (ig cg d : Nat) (whole : Bool) (base : Nat) (t : Ty) (xs : List t.D)
  | kel (from_ : Option (Loc × List Step × Nat × Nat)) (d i : Nat) (t : Ty) (x : t.D) (off : Nat)
  | box (cs : List PV) | ptr (q : Loc) (ig off : Nat) | als (q : Loc) (ig : Nat)
  | clo (f : FuncId) (caps : List PV) | nilF
  | nilI | someI
  | nsl (b : Bool) (t : Ty) (xs : List t.D)
  | bnd (f : FuncId) (front : List PV)
structure Cont where
  pv : PV
  ig : Nat
  cg : Nat
abbrev St := Loc → Cont
def LIM : Nat := 1099511627776
inductive M (α : Type) : Type where
  | ret (a : α) | fail
  | rd (l : Loc) (k : Cont → M α)
  | wr (l : Loc) (v : PV) (k : M α)
  | md (l : Loc) (v : PV) (k : M α)
  | br (c : Bool) (x y : M α)
  | test (l : Loc) (x y z : M α)
  | call (f : FuncId) (as os : List PV) (k : PV → List PV → M α)
def M.bind {α β : Type} : M α → (α → M β) → M β
  | .ret a, f => f a
  | .fail, _ => .fail
  | .rd l k, f => .rd l fun c => (k c).bind f
  | .wr l v k, f => .wr l v (k.bind f)
  | .md l v k, f => .md l v (k.bind f)
  | .br c x y, f => .br c (x.bind f) (y.bind f)
  | .test l x y z, f => .test l (x.bind f) (y.bind f) (z.bind f)
  | .call g as os k, f => .call g as os fun r o => (k r o).bind f
def St.upd (s : St) (l : Loc) (c : Cont) : St := fun l' => bif Nat.beq l' l then c else s l'
inductive X where
  | normal | ret | exit (id : Nat)
/-- What calls and loops come to. -/
structure Phi (ρ : Type) where
  fn : FuncId → List PV → List PV → (PV → List PV → Option ρ) → Option ρ
  lp : Nat → St → (X → St → Option ρ) → Option ρ
def M.run {α ρ : Type} (φ : Phi ρ) : M α → (α → St → Option ρ) → St → Option ρ
  | .ret a, K, s => K a s
  | .fail, _, _ => none
  | .rd l k, K, s => (k (s l)).run φ K s
  | .wr l v k, K, s => match s l with | ⟨_, ig, cg⟩ => k.run φ K (s.upd l ⟨v, ig + 1, cg + 1⟩)
  | .md l v k, K, s => match s l with | ⟨_, ig, cg⟩ => k.run φ K (s.upd l ⟨v, ig, cg + 1⟩)
  | .br c x y, K, s => bif c then x.run φ K s else y.run φ K s
  | .test l x y z, K, s => match s l with
    | ⟨.bool b, ig, cg⟩ => bif b then x.run φ K (s.upd l ⟨.bool true, ig, cg⟩) else y.run φ K (s.upd l ⟨.bool false, ig, cg⟩)
    | ⟨.nov, _, _⟩ => z.run φ K s
    | _ => none
  | .call f as os k, K, s => φ.fn f as os fun r o => (k r o).run φ K s

/-! ### types of the program -/
inductive TK where
  | int (k : IntKind) | bool | str | slice (e : TypeId) | struct (fs : List (Nat × TypeId)) | array (n : Nat) (e : TypeId) | other
structure TI where
  kind : TK
  sz : Nat
  ty : Ty
  agg : Bool
  bytes : Nat
def lookT (τ : List (TypeId × TI)) (t : TypeId) : Option TI :=
  match τ with
  | [] => none
  | (u, x) :: r => bif Nat.beq u t then some x else lookT r t

/-! ### data as values -/
def Ty.cells (d : Nat) : (t : Ty) → t.D → List PV
  | .i k, n => [.int k n] | .b, x => [.bool x] | .s, x => [.str x]
  | .p x y, v => x.cells d v.1 ++ y.cells d v.2
  | .l x, v => [.sl d x v]
def Ty.toPV (d : Nat) (t : Ty) (v : t.D) : PV :=
  match t, v with
  | .p x y, v => .agg (Ty.cells d (.p x y) v)
  | .i k, n => .int k n | .b, x => .bool x | .s, x => .str x | .l x, v => .sl d x v
def cellsOf : PV → List PV
  | .agg cs => cs
  | v => [v]
def dcomb : Option Nat → Option Nat → Option (Option Nat)
  | none, e => some e
  | some d, none => some (some d)
  | some d, some e => bif Nat.beq d e then some (some d) else none
/-- The data in cells: with the depth to which they are owned (none: they hold no slice). -/
def Ty.ofCells : (t : Ty) → List PV → Option (t.D × Option Nat × List PV)
  | .i k, .int k' n :: r => bif kbeq k k' then some (n, none, r) else none
  | .b, .bool x :: r => some (x, none, r)
  | .s, .str x :: r => some (x, none, r)
  | .l t, .sl d t' xs :: r => match h : t'.beq t with
    | true => some (castL h xs, some d, r)
    | false => none
  | .p x y, r => match x.ofCells r with
    | some (v, d, r1) => match y.ofCells r1 with
      | some (u, e, r2) => match dcomb d e with
        | some m => some ((v, u), m, r2)
        | none => none
      | none => none
    | none => none
  | _, _ => none
def Ty.ofPV (t : Ty) (v : PV) : Option (t.D × Option Nat) :=
  match t.ofCells (cellsOf v) with
  | some (x, d, []) => some (x, d)
  | _ => none
mutual
def owning : PV → Bool
  | .sl (_ + 1) _ _ => true
  | .box _ => true
  | .agg cs => ownings cs
  | .tup cs => ownings cs
  | _ => false
def ownings : List PV → Bool
  | [] => false
  | p :: ps => owning p || ownings ps
end
def bw (l : Loc) (path : List Step) (ig cg : Nat) : PV → PV
  | .sl (d + 1) t xs => .bor l path ig cg (d + 1) true 0 t xs
  | .box _ => match path with | [] => .ptr l ig 0 | _ => .undef
  | .agg _ => .undef
  | .tup _ => .undef
  | v => v
def bwCells (l : Loc) (ig cg : Nat) : Nat → List PV → List PV
  | _, [] => []
  | i, v :: r => bw l [.cell i] ig cg v :: bwCells l ig cg (i + 1) r
def borrow (l : Loc) (c : Cont) : PV :=
  match c.pv with
  | .agg cs => .agg (bwCells l c.ig c.cg 0 cs)
  | .tup _ => .undef
  | v => bw l [] c.ig c.cg v
def constPV (t : Option TI) : Value → PV
  | .bool b => .bool b
  | .int k n => .int k n
  | .string s => .str s.data.toList
  | .slice none 0 0 => match t with
    | some { ty := .l e, .. } => .sl (e.dep + 1) e []
    | _ => .undef
  | .nilFunc => .nilF
  | .nilIface => .nilI
  | _ => .undef
/-- The static side of one function's run: types, hints (region, place in it: 1 take, 2 freeze), how arguments are passed (1 owned, 2 by reference). -/
structure Sta where
  τ : List (TypeId × TI)
  hints : List (Nat × Nat × Nat)
  modes : List (FuncId × List Nat)
  eqs : List (Nat × Nat)
  n : Nat
def lookH (h : List (Nat × Nat × Nat)) (r i : Nat) : Nat :=
  match h with
  | [] => 0
  | (r', i', m) :: l => bif Nat.beq r r' && Nat.beq i i' then m else lookH l r i
def lookM (h : List (FuncId × List Nat)) (f : Nat) : List Nat :=
  match h with
  | [] => []
  | (g, m) :: l => bif Nat.beq f g then m else lookM l f
def T (n : Nat) : Loc := 2 * n
def O (n : Nat) : Loc := 2 * n + 1
def guardM {α : Type} (b : Bool) (m : M α) : M α := match b with | true => m | false => .fail
/-- An operand, looked at. -/
def rb {α : Type} (τ : List (TypeId × TI)) (ty : TypeId) (x : Operand) (k : PV → M α) : M α :=
  match x with
  | .const v => k (constPV (lookT τ ty) v)
  | .tmp n => .rd (T n) fun c => match c with
    | ⟨.als q ig, _, _⟩ => .rd q fun c' => guardM (Nat.beq ig c'.ig) (k (borrow q c'))
    | c => k (borrow (T n) c)
  | .func f => k (.clo f [])
  | .global _ => .fail
/-- An operand, taken with what it owns. -/
def ro {α : Type} (τ : List (TypeId × TI)) (ty : TypeId) (x : Operand) (k : PV → M α) : M α :=
  match x with
  | .tmp n => .rd (T n) fun c => match c with
    | ⟨.als q ig, _, _⟩ => .rd q fun c' => guardM (Nat.beq ig c'.ig) (k (borrow q c'))
    | ⟨v, _, _⟩ => match owning v with
      | true => .wr (T n) .undef (k v)
      | false => k v
  | x => rb τ ty x k
def froz1 : PV → PV
  | .sl _ t xs => .sl 0 t xs
  | v => match owning v with | true => .undef | false => v
def froz : PV → PV
  | .sl _ t xs => .sl 0 t xs
  | .agg cs => .agg (cs.map froz1)
  | v => match owning v with | true => .undef | false => v
def valid {α : Type} (q : Loc) (ig cg : Nat) (m : M α) : M α := .rd q fun c => guardM (Nat.beq c.ig ig && Nat.beq c.cg cg) m
/-- What refers to a place refers to what lies there still. -/
def liveM {α : Type} (v : PV) (m : M α) : M α :=
  match v with
  | .bor q _ ig cg _ _ _ _ _ => valid q ig cg m
  | .kel (some (q, _, ig, cg)) _ _ _ _ _ => valid q ig cg m
  | .ptr q ig _ => .rd q fun c => guardM (Nat.beq c.ig ig) m
  | _ => m
def solid : PV → Bool
  | .undef | .nov | .tup _ | .als _ _ => false
  | _ => true
def storable : PV → Bool
  | .bool _ | .int _ _ | .str _ | .sl _ _ _ | .cap _ _ | .box _ | .nilF | .nilI | .someI => true
  | _ => false
def cellEq : PV → PV → Option Bool
  | .int k a, .int k' b => bif kbeq k k' then some (decide (a = b)) else none
  | _, _ => none
def cellsEq : List PV → List PV → Option Bool
  | [], [] => some true
  | [a], [b] => cellEq a b
  | a :: r, b :: q => match cellEq a b, cellsEq r q with
    | some x, some y => some (x && y)
    | _, _ => none
  | _, _ => none
def retO {α β : Type} (o : Option β) (k : β → M α) : M α := match o with | some v => k v | none => .fail
def iand (k : IntKind) (a b : Int) : Int := k.wrap ((BitVec.ofInt k.bits a &&& BitVec.ofInt k.bits b).toNat : Int)
def ixor (k : IntKind) (a b : Int) : Int := k.wrap ((BitVec.ofInt k.bits a ^^^ BitVec.ofInt k.bits b).toNat : Int)
def ior (k : IntKind) (a b : Int) : Int := k.wrap ((BitVec.ofInt k.bits a ||| BitVec.ofInt k.bits b).toNat : Int)
def memN (n : Nat) : List Nat → Bool
  | [] => false
  | m :: r => Nat.beq n m || memN n r
def memE (t n : Nat) : List (Nat × Nat) → Bool
  | [] => false
  | (u, m) :: r => (Nat.beq t u && Nat.beq n m) || memE t n r
def isBool (st : Sta) (t : TypeId) : Bool := match lookT st.τ t with
  | some { kind := .bool, .. } => true
  | _ => false
def isStr (st : Sta) (t : TypeId) : Bool := match lookT st.τ t with
  | some { kind := .str, .. } => true
  | _ => false
def isU8 (st : Sta) (t : TypeId) : Bool := match lookT st.τ t with
  | some { kind := .int .u8, .. } => true
  | _ => false
def binInt {α : Type} (op : BinOp) (j : IntKind) (a b : Int) (k : PV → M α) : M α :=
  match op with
  | .add => k (.int j (j.wrap (a + b)))
  | .sub => k (.int j (j.wrap (a - b)))
  | .mul => k (.int j (j.wrap (a * b)))
  | .quo => .br (decide (b = 0)) .fail (k (.int j (j.wrap (a.tdiv b))))
  | .rem => .br (decide (b = 0)) .fail (k (.int j (a.tmod b)))
  | .and => k (.int j (iand j a b))
  | .or => k (.int j (ior j a b))
  | .xor => k (.int j (ixor j a b))
  | .eql => k (.bool (decide (a = b)))
  | .neq => k (.bool (!decide (a = b)))
  | .lss => k (.bool (decide (a < b)))
  | .leq => k (.bool (decide (a ≤ b)))
  | .gtr => k (.bool (decide (a > b)))
  | .geq => k (.bool (decide (a ≥ b)))
  | _ => .fail
def binM {α : Type} (st : Sta) (xT : TypeId) (op : BinOp) (x y : PV) (k : PV → M α) : M α :=
  match x, y with
  | .int j a, .int j' b => match op with
    | .shl => .br (decide (b < 0)) .fail (k (.int j (j.wrap (a * 2 ^ (min b.toNat j.bits)))))
    | .shr => .br (decide (b < 0)) .fail (k (.int j (a.fdiv (2 ^ (min b.toNat j.bits)))))
    | op => guardM (kbeq j j') (binInt op j a b k)
  | .str a, .str b => match op with
    | .add => .br (decide (a.length + b.length ≤ LIM)) (k (.str (a ++ b))) .fail
    | .eql => k (.bool (decide (a = b)))
    | .neq => k (.bool (!decide (a = b)))
    | _ => .fail
  | .bool a, .bool b => guardM (isBool st xT) (match op with
    | .eql => k (.bool (decide (a = b)))
    | .neq => k (.bool (!decide (a = b)))
    | _ => .fail)
  | .agg a, .agg b => guardM (memE xT a.length st.eqs) (match cellsEq a b with
    | none => .fail
    | some c => match op with
      | .eql => k (.bool c)
      | .neq => k (.bool (!c))
      | _ => .fail)
  | _, _ => .fail
def unM {α : Type} (op : UnOp) (x : PV) (k : PV → M α) : M α :=
  match op, x with
  | .not, .bool b => k (.bool !b)
  | .neg, .int j n => k (.int j (j.wrap (0 - n)))
  | .xor, .int j n => k (.int j (ixor j (if j.signed then -1 else j.max) n))
  | _, _ => .fail
def splice (cs : List PV) (off : Nat) : List PV → List PV
  | [] => cs
  | v :: r => splice (cs.set off v) (off + 1) r
def takeCells (cs : List PV) (off n : Nat) : List PV := (cs.drop off).take n
/-- The cells from off on of an element whose own parts are frozen. -/
def kelCells {α : Type} (ti : TI) (t : Ty) (x : t.D) (off : Nat) (k : PV → M α) : M α :=
  match ti.agg with
  | true => guardM (Nat.ble (off + ti.sz) t.sz) (k (.agg (takeCells (t.cells 0 x) off ti.sz)))
  | false => guardM (Nat.ble (off + 1) t.sz) (k ((t.cells 0 x).getD off .undef))
def loadM {α : Type} (st : Sta) (ty : TypeId) (mode : Nat) (a : PV) (k : PV → M α) : M α :=
  match lookT st.τ ty with
  | none => .fail
  | some ti => match a with
    | .ptr q ig off => .rd q fun c => match c with
      | ⟨.box cs, ig', cg'⟩ => guardM (Nat.beq ig ig' && Nat.ble (off + ti.sz) cs.length) (match ti.agg, mode with
        | true, 0 => k (.agg (bwCells q ig' cg' off (takeCells cs off ti.sz)))
        | true, 1 => .md q (.box (splice cs off (List.replicate ti.sz .undef))) (k (.agg (takeCells cs off ti.sz)))
        | false, 0 => k (bw q [.cell off] ig' cg' (cs.getD off .undef))
        | false, 1 => match owning (cs.getD off .undef) with
          | true => .md q (.box (cs.set off .undef)) (k (cs.getD off .undef))
          | false => k (cs.getD off .undef)
        | _, _ => .fail)
      | _ => .fail
    | .kel fr d i t x off => match fr with
      | none => kelCells ti t x off k
      | some (q, path, ig, cg) => valid q ig cg (bif Nat.ble d 1 || Nat.beq t.dep 0 then kelCells ti t x off k else match t, x with
        | .l e, ys => guardM (Nat.beq off 0 && !ti.agg) (k (.bor q (path ++ [.elem i]) ig cg (d - 1) true 0 e ys))
        | _, _ => .fail)
    | _ => .fail
def storeM {α : Type} (st : Sta) (ty : TypeId) (a v : PV) (k : M α) : M α :=
  match lookT st.τ ty with
  | none => .fail
  | some ti => guardM (Nat.beq ti.sz (cellsOf v).length && (cellsOf v).all storable) (match a with
    | .ptr q ig off => .rd q fun c => match c with
      | ⟨.box cs, ig', _⟩ => guardM (Nat.beq ig ig' && Nat.ble (off + ti.sz) cs.length) (.md q (.box (splice cs off (cellsOf v))) k)
      | _ => .fail
    | .kel (some (q, [], ig, _)) _ i t x off => .rd q fun c => match c with
      | ⟨.sl (d + 1) t' xs, ig', _⟩ => guardM (Nat.beq ig ig') (match h : t.beq t' with
        | true => .br (decide (i < xs.length)) (guardM (Nat.ble (off + ti.sz) t'.sz && Nat.beq t'.dep 0) (match t'.ofCells (splice (t'.cells d (xs.getD i t'.dflt)) off (cellsOf v)) with
          | some (y, none, []) => .md q (.sl (d + 1) t' (xs.set i y)) k
          | _ => .fail)) .fail
        | false => .fail)
      | _ => .fail
    | _ => .fail)
def inB (i : Int) (n : Nat) : Bool := decide (0 ≤ i) && decide (i < (n : Int))
def arrAt {α : Type} (i : Int) (q : Loc) (ig off sz : Nat) (k : PV → M α) : Nat → Nat → M α
  | 0, _ => .fail
  | n + 1, j => .br (decide (i = (j : Int))) (k (.ptr q ig (off + j * sz))) (arrAt i q ig off sz k n (j + 1))
/-- The elements of the slice type ty are of type t. -/
def elB (st : Sta) (ty : TypeId) (t : Ty) : Bool := match lookT st.τ ty with
  | some { kind := .slice _, ty := .l e, .. } => e.beq t
  | _ => false
def indexAddrM {α : Type} (st : Sta) (ty : TypeId) (x i : PV) (k : PV → M α) : M α :=
  match i with
  | .int _ n => match x with
    | .sl _ t xs => guardM (elB st ty t) (.br (inB n xs.length) (k (.kel none 0 n.toNat t (xs.getD n.toNat t.dflt) 0)) .fail)
    | .cap t xs => guardM (elB st ty t) (.br (inB n xs.length) (k (.kel none 0 n.toNat t (xs.getD n.toNat t.dflt) 0)) .fail)
    | .bor q path ig cg d _ base t xs => guardM (elB st ty t) (.br (inB n xs.length) (k (.kel (some (q, path, ig, cg)) d (base + n.toNat) t (xs.getD n.toNat t.dflt) 0)) .fail)
    | .ptr q ig off => match lookT st.τ ty with
      | some { kind := .array m e, .. } => match lookT st.τ e with
        | some te => arrAt n q ig off te.sz k m 0
        | none => .fail
      | _ => .fail
    | _ => .fail
  | _ => .fail
def optInt {α : Type} (st : Sta) (x : Option Operand) (k : Option Int → M α) : M α :=
  match x with
  | none => k none
  | some o => rb st.τ 0 o fun v => match v with
    | .int _ n => k (some n)
    | _ => .fail
def cutTo {α : Type} (lo hi : Option Int) (xs : List α) : List α :=
  match lo, hi with
  | none, none => xs
  | some l, none => xs.drop l.toNat
  | none, some h => xs.take h.toNat
  | some l, some h => (xs.take h.toNat).drop l.toNat
def okCut {α : Type} (l h : Option Int) (n : Nat) (z : M α) : M α :=
  match l, h with
  | none, none => z
  | some a, none => .br (decide (0 ≤ a) && decide (a ≤ (n : Int))) z .fail
  | none, some b => .br (decide (0 ≤ b) && decide (b ≤ (n : Int))) z .fail
  | some a, some b => .br (decide (0 ≤ a) && (decide (a ≤ b) && decide (b ≤ (n : Int)))) z .fail
def addLow (base : Nat) : Option Int → Nat
  | none => base
  | some a => base + a.toNat
def sliceM {α : Type} (st : Sta) (ty : TypeId) (x : PV) (lo hi mx : Option Operand) (k : PV → M α) : M α :=
  optInt st lo fun l => optInt st hi fun h => optInt st mx fun m =>
    match m with
    | none => match x with
      | .str s => okCut l h s.length (guardM (isStr st ty) (k (.str (cutTo l h s))))
      | .sl d t xs => guardM (elB st ty t) (okCut l h xs.length (k (.sl d t (cutTo l h xs))))
      | .bor q path ig cg d _ base t xs => guardM (elB st ty t) (okCut l h xs.length (k (.bor q path ig cg d false (addLow base l) t (cutTo l h xs))))
      | _ => .fail
    | some e => match h with
      | none => .fail
      | some b => .br (decide (b = e)) (match x with
        | .sl 0 t xs => guardM (elB st ty t) (okCut l h xs.length (k (.cap t (cutTo l h xs))))
        | _ => .fail) .fail
/-- What is appended: its elements, and the depth to which they are owned and one more. -/
def appM {α : Type} (st : Sta) (ty : TypeId) (x : PV) (e : Nat) (t' : Ty) (ys : List t'.D) (k : PV → M α) : M α :=
  match x with
  | .sl (d + 1) t xs => guardM (elB st ty t) (match h : t'.beq t with
    | true => .br (decide (xs.length + ys.length ≤ LIM)) (k (.sl (min (d + 1) (max e 1)) t (xs ++ castL h ys))) .fail
    | false => .fail)
  | .cap t xs => guardM (elB st ty t) (match h : t'.beq t with
    | true => .br (Nat.beq xs.length 0 || decide (0 < ys.length)) (.br (decide (xs.length + ys.length ≤ LIM)) (k (.sl 1 t (xs ++ castL h ys))) .fail) .fail
    | false => .fail)
  | _ => .fail
def partsM {α : Type} (st : Sta) : List (Nat × Operand) → (TypeId → Nat → TypeId) → TypeId → (List (Nat × PV) → M α) → M α
  | [], _, _, k => k []
  | (i, x) :: r, f, t, k => ro st.τ (f t i) x fun v => liveM v (guardM (solid v) (partsM st r f t fun l => k ((i, v) :: l)))
def minmax {α : Type} (mx : Bool) : PV → List PV → (PV → M α) → M α
  | v, [], k => k v
  | .int j a, .int j' b :: r, k => guardM (kbeq j j') (minmax mx (.int j (match mx with | true => max a b | false => min a b)) r k)
  | _, _, _ => .fail
def rbs {α : Type} (st : Sta) : List (Operand × TypeId) → (List PV → M α) → M α
  | [], k => k []
  | (x, t) :: r, k => rb st.τ t x fun v => rbs st r fun l => k (v :: l)
/-! ### calls -/
def idxOf (q : Loc) : List Loc → Nat → Option Nat
  | [], _ => none
  | r :: l, j => bif Nat.beq q r then some j else idxOf q l (j + 1)
structure Acc where
  refs : List Loc
  bors : List Loc
  subs : List (Loc × Nat)
def subOf (q : Loc) : List (Loc × Nat) → Option Nat
  | [] => none
  | (r, i) :: l => bif Nat.beq q r then some i else subOf q l
def cellTy : PV → Option Ty
  | .int k _ => some (.i k) | .bool _ => some .b | .str _ => some .s | .sl _ t _ => some (.l t) | _ => none
/-- The type of what lies in cells. -/
def tyOf : List PV → Option Ty
  | [] => none
  | [v] => cellTy v
  | v :: r => match cellTy v with
    | some x => (match tyOf r with | some y => some (.p x y) | none => none)
    | none => none
mutual
def conv {α : Type} (z : Bool) : PV → Acc → (PV → Acc → M α) → M α
  | .bor q _ ig cg _ _ _ t xs, a, k => valid q ig cg (k (.sl 0 t xs) { a with bors := match idxOf q a.bors 0 with | some _ => a.bors | none => q :: a.bors })
  | .sl d t xs, a, k => match d, xs with
    | 0, xs => k (.sl 0 t xs) a
    | _, [] => k (.sl 0 t []) a
    | _, _ => .fail
  | .cap t xs, a, k => k (.sl 0 t xs) a
  | .nsl _ t xs, a, k => k (.sl 0 t xs) a
  | .ptr q ig off, a, k => .rd q fun c => guardM (Nat.beq c.ig ig) (match z with
    | false => (match idxOf q a.refs 0 with
      | some j => guardM (match subOf q a.subs with | none => true | some _ => false) (k (.ptr (O j) 0 off) a)
      | none => k (.ptr (O a.refs.length) 0 off) { a with refs := a.refs ++ [q] })
    | true => (match c.pv with
      | .box cs => (match tyOf cs with
        | some t => (match t.ofCells cs with
          | some (x, _, []) => k (.kel none 0 0 t x off) { a with bors := match idxOf q a.bors 0 with | some _ => a.bors | none => q :: a.bors }
          | _ => .fail)
        | none => .fail)
      | _ => .fail))
  | .agg cs, a, k => convs z cs a fun l a => k (.agg l) a
  | .clo f cs, a, k => convs z cs a fun l a => k (.clo f l) a
  | .bnd f cs, a, k => convs z cs a fun l a => k (.bnd f l) a
  | .undef, _, _ => .fail
  | .nov, _, _ => .fail
  | .tup _, _, _ => .fail
  | .kel none _ _ t x off, a, k => k (.kel none 0 0 t x off) a
  | .kel (some _) _ _ _ _ _, _, _ => .fail
  | .als .., _, _ => .fail
  | .box _, _, _ => .fail
  | v, a, k => k v a
def convs {α : Type} (z : Bool) : List PV → Acc → (List PV → Acc → M α) → M α
  | [], a, k => k [] a
  | v :: r, a, k => conv z v a fun u a => convs z r a fun l a => k (u :: l) a
end
mutual
def clean : PV → Bool
  | .bool _ | .int _ _ | .str _ | .sl _ _ _ | .cap _ _ | .nilF | .nilI | .someI => true
  | .agg cs | .tup cs | .box cs => cleans cs
  | _ => false
def cleans : List PV → Bool
  | [] => true
  | v :: r => clean v && cleans r
end
/-- The arguments, looked at or taken; then what the callee gets to see of them. -/
def evalA {α : Type} (st : Sta) : List Nat → List (Operand × TypeId) → (List (Nat × PV) → M α) → M α
  | _, [], k => k []
  | ms, (x, t) :: r, k => match ms.headD 0 with
    | 1 => ro st.τ t x fun v => evalA st ms.tail r fun l => k ((1, v) :: l)
    | m => rb st.τ t x fun v => evalA st ms.tail r fun l => k ((m, v) :: l)
def convA {α : Type} : List (Nat × PV) → Acc → (List PV → Acc → M α) → M α
  | [], a, k => k [] a
  | (m, v) :: r, a, k => match m with
    | 0 => conv false v a fun u a => convA r a fun l a => k (u :: l) a
    | 1 => guardM (clean v) (convA r a fun l a => k (v :: l) a)
    | 3 => conv true v a fun u a => convA r a fun l a => k (u :: l) a
    | _ => match v with
      | .bor q [] ig cg _ true _ _ _ => valid q ig cg (match idxOf q a.refs 0 with
        | some _ => .fail
        | none => convA r { a with refs := a.refs ++ [q] } fun l a' => k (.als (O a.refs.length) 0 :: l) a')
      | .bor q [.elem i] ig cg _ true _ _ _ => valid q ig cg (match idxOf q a.refs 0 with
        | some _ => .fail
        | none => convA r { a with refs := a.refs ++ [q], subs := (q, i) :: a.subs } fun l a' => k (.als (O a.refs.length) 0 :: l) a')
      | _ => .fail
mutual
def kfree : PV → Bool
  | .bool _ | .int _ _ | .str _ | .nilF | .nilI | .someI => true
  | .sl d t _ => Nat.ble (t.dep + 1) d
  | .agg cs | .tup cs | .box cs => kfrees cs
  | _ => false
def kfrees : List PV → Bool
  | [] => true
  | v :: r => kfree v && kfrees r
end
/-- What the callee finds in a place by reference: the place, or one element of it. -/
def outPV {α : Type} (sub : Option Nat) (p : PV) (k : PV → M α) : M α :=
  match sub with
  | none => guardM (clean p) (k p)
  | some i => match p with
    | .sl (d + 1) (.l e) xss => .br (decide (i < xss.length)) (k (.sl d e (xss.getD i []))) .fail
    | _ => .fail
def inPV {α : Type} (sub : Option Nat) (p v : PV) (k : PV → M α) : M α :=
  match sub with
  | none => k v
  | some i => match p, v with
    | .sl (d + 1) (.l e) xss, .sl d' e' ys => guardM (Nat.beq d d') (match h : e'.beq e with
      | true => k (.sl (d + 1) (.l e) (xss.set i (castL h ys)))
      | false => .fail)
    | _, _ => .fail
def outsM {α : Type} (subs : List (Loc × Nat)) : List Loc → (List PV → M α) → M α
  | [], k => k []
  | q :: r, k => .rd q fun c => outPV (subOf q subs) c.pv fun p => outsM subs r fun l => k (p :: l)
def backM {α : Type} (subs : List (Loc × Nat)) : List Loc → List PV → M α → M α
  | [], [], k => k
  | q :: r, v :: l, k => .rd q fun c => inPV (subOf q subs) c.pv v fun p => .md q p (backM subs r l k)
  | _, _, _ => .fail
def freezeM {α : Type} : List Loc → M α → M α
  | [], k => k
  | q :: r, k => .rd q fun c => .md q (froz c.pv) (freezeM r k)
def apartB (refs : List Loc) (bs : List Loc) : Bool := bs.all fun b => !(refs.any fun q => Nat.beq q b)
def callM {α : Type} (st : Sta) (f : FuncId) (front : List PV) (args : List (Operand × TypeId)) (caps : List PV) (k : PV → M α) : M α :=
  evalA st (lookM st.modes f) args fun l => convs false front { refs := [], bors := [], subs := [] } fun fs a => convA l a fun as a => convs (Nat.beq ((lookM st.modes f).getD args.length 0) 3) caps a fun cs a =>
    guardM (apartB a.refs a.bors) (outsM a.subs a.refs fun os => .call f (fs ++ (as ++ cs)) os fun r os' =>
      backM a.subs a.refs os' (match kfree r && kfrees os' with
        | true => k r
        | false => freezeM a.bors (k r)))
/-- An empty list, told to be owned less deep. -/
def lowM {α : Type} (h : Nat) (v : PV) (k : PV → M α) : M α :=
  match h with
  | 0 => k v
  | h + 1 => match v with
    | .sl (_ + 1) t [] => k (.sl (h - 10 + 1) t [])
    | _ => .fail
def isNil : Operand → Bool
  | .const (.slice none 0 0) => true
  | _ => false
def eqlM {α : Type} (op : BinOp) (b : Bool) (k : PV → M α) : M α :=
  match op with
  | .eql => k (.bool b)
  | .neq => k (.bool !b)
  | _ => .fail
/-- Held against nil. -/
def nilM {α : Type} (st : Sta) (t : TypeId) (op : BinOp) (a : PV) (k : PV → M α) : M α :=
  match a with
  | .nsl b e _ => guardM (elB st t e) (eqlM op b k)
  | _ => .fail
def builtinM {α : Type} (st : Sta) (b : Builtin) (args : List (Operand × TypeId)) (k : PV → M α) : M α :=
  match b, args with
  | .len, [(x, t)] => rb st.τ t x fun v => liveM v (match v with
    | .str s => guardM (isStr st t) (k (.int .i64 (s.length : Int)))
    | .sl _ e xs => guardM (elB st t e) (k (.int .i64 (xs.length : Int)))
    | .cap e xs => guardM (elB st t e) (k (.int .i64 (xs.length : Int)))
    | .bor _ _ _ _ _ _ _ e xs => guardM (elB st t e) (k (.int .i64 (xs.length : Int)))
    | _ => .fail)
  | .append, [(x, t), (y, u)] => guardM (Nat.beq t u) (ro st.τ t x fun v => ro st.τ u y fun w => (match w with
      | .sl e t' ys => appM st t v e t' ys k
      | .cap t' ys => appM st t v 0 t' ys k
      | .nsl _ t' ys => appM st t v 0 t' ys k
      | .bor q _ ig cg e _ _ t' ys => valid q ig cg (guardM (Nat.beq t'.dep 0 || Nat.beq e 1) (appM st t v 0 t' ys k))
      | _ => .fail))
  | .clear, [(x, t)] => rb st.τ t x fun v => liveM v (match v with
    | .bor q [] ig _ _ _ base e xs => .rd q fun c => match c with
      | ⟨.sl (d + 1) e' ys, ig', _⟩ => guardM (Nat.beq ig ig' && (elB st t e && e.beq e')) (.br (decide (0 < xs.length) && decide (base + xs.length ≤ ys.length)) (.md q (.sl (d + 1) e' (ys.take base ++ List.replicate xs.length e'.dflt ++ ys.drop (base + xs.length))) (k (.tup []))) .fail)
      | _ => .fail
    | _ => .fail)
  | .min, (x, t) :: r => rb st.τ t x fun v => rbs st r fun l => minmax false v l k
  | .max, (x, t) :: r => rb st.τ t x fun v => rbs st r fun l => minmax true v l k
  | _, _ => .fail
def fieldOf (τ : List (TypeId × TI)) (t : TypeId) (i : Nat) : Option (Nat × TypeId) :=
  match lookT τ t with
  | some { kind := .struct fs, .. } => fs[i]?
  | _ => none
def zeroCells (τ : List (TypeId × TI)) (t : TypeId) : Option (List PV) :=
  match lookT τ t with
  | some { kind := .array n e, .. } => match lookT τ e with
    | some te => some (List.flatten (List.replicate n (te.ty.cells 1000 te.ty.dflt)))
    | none => none
  | some ti => some (ti.ty.cells 1000 ti.ty.dflt)
  | none => none
def fillS (st : Sta) (t : TypeId) : List PV → List (Nat × PV) → Option (List PV)
  | cs, [] => some cs
  | cs, (i, v) :: r => match fieldOf st.τ t i with
    | some (off, u) => match lookT st.τ u with
      | some tu => bif Nat.beq tu.sz (cellsOf v).length then fillS st t (splice cs off (cellsOf v)) r else none
      | none => none
    | none => none
def dmin (m : Nat) : Option Nat → Nat
  | none => m
  | some e => min m (e + 1)
def fillL (t : Ty) : Nat → List (Nat × PV) → Option (List (Nat × t.D) × Nat)
  | d, [] => some ([], d)
  | d, (i, v) :: r => match t.ofPV v with
    | some (x, e) => match fillL t (dmin d e) r with
      | some (l, d') => some ((i, x) :: l, d')
      | none => none
    | none => none
def setL {α : Type} : List α → List (Nat × α) → Option (List α)
  | xs, [] => some xs
  | xs, (i, x) :: r => bif Nat.blt i xs.length then setL (xs.set i x) r else none
def opM (st : Sta) (reg idx : Nat) (o : Oper) (k : PV → M Unit) : M Unit :=
  match o.op with
  | .move x => match lookH st.hints reg idx with
    | 0 => rb st.τ o.type x k
    | 1 => ro st.τ o.type x k
    | _ => match x with
      | .tmp n => .rd (T n) fun c => match c.pv with
        | .sl d t xs => .md (T n) (.sl 0 t xs) (k (.sl 0 t xs))
        | _ => .fail
      | _ => .fail
  | .assign x => ro st.τ o.type x fun v => lowM (lookH st.hints reg idx) v k
  | .pick c a b => rb st.τ o.type c fun v => match v with
    | .bool t => .br t (rb st.τ o.type a k) (rb st.τ o.type b k)
    | _ => .fail
  | .box t x => ro st.τ t x fun v => liveM v (match lookT st.τ t with
    | some ti => guardM (Nat.beq ti.sz (cellsOf v).length && solid v) (k (.box (cellsOf v)))
    | none => .fail)
  | .alloc t => match zeroCells st.τ t with
    | some cs => k (.box cs)
    | none => .fail
  | .build t ps => match lookT st.τ t with
    | some { kind := .struct _, .. } => partsM st ps.toList (fun t i => match fieldOf st.τ t i with | some (_, u) => u | none => 0) t fun l => match zeroCells st.τ t with
      | some cs => retO ((fillS st t cs l).map .agg) k
      | none => .fail
    | _ => .fail
  | .buildSlice t n ps => match lookT st.τ t with
    | some { kind := .slice e, ty := .l te, .. } => guardM (elB st t te && Nat.ble (n * te.sz) 16777216) (partsM st ps.toList (fun _ _ => e) t fun l => match fillL te (te.dep + 1) l with
      | some (l, d + 1) => retO (setL (List.replicate n te.dflt) l) fun xs => lowM (lookH st.hints reg idx) (.sl (d + 1) te xs) k
      | _ => .fail)
    | _ => .fail
  | .load t a => rb st.τ o.type a fun v => loadM st t (lookH st.hints reg idx) v k
  | .store t a x => rb st.τ o.type a fun v => ro st.τ t x fun u => storeM st t v u (k .nov)
  | .nilCheck x => rb st.τ o.type x fun v => match v with
    | .ptr .. | .kel .. | .clo .. | .bnd .. => liveM v (k v)
    | _ => .fail
  | .binOp op t x y u => match isNil y with
    | true => rb st.τ t x fun a => nilM st t op a k
    | false => rb st.τ t x fun a => rb st.τ u y fun b => binM st t op a b k
  | .unOp op t x => rb st.τ t x fun a => unM op a k
  | .convert s d x => rb st.τ s x fun a => liveM a (match lookT st.τ s, lookT st.τ d, a with
    | some _, some { kind := .int j, .. }, .int _ n => k (.int j (j.wrap n))
    | some _, some { kind := .str, .. }, .str x => k (.str x)
    | _, _, _ => .fail)
  | .makeFunc (.func f) first captured => match first.toList with
    | [] => rbs st (captured.toList.map fun x => (x, 0)) fun l => k (.clo f l)
    | _ => match captured.toList with
      | [] => rbs st (first.toList.map fun x => (x, 0)) fun l => k (.bnd f l)
      | _ => .fail
  | .makeSlice t n c => rb st.τ 0 n fun a => rb st.τ 0 c fun b => match lookT st.τ t, a, b with
    | some { ty := .l te, .. }, .int _ n, .int _ c => guardM (elB st t te) (.br (decide (0 ≤ n) && (decide (n ≤ c) && decide (c ≤ (LIM : Int)))) (k (.sl (te.dep + 1) te (List.replicate n.toNat te.dflt))) .fail)
    | _, _, _ => .fail
  | .slice t x lo hi mx => ro st.τ t x fun v => liveM v (sliceM st t v lo hi mx k)
  | .fieldAddr t x f => rb st.τ o.type x fun v => liveM v <| match fieldOf st.τ t f with
    | some (off, _) => match v with
      | .ptr q ig o => k (.ptr q ig (o + off))
      | .kel fr d i t x o => k (.kel fr d i t x (o + off))
      | _ => .fail
    | none => .fail
  | .field t x f => rb st.τ t x fun v => match fieldOf st.τ t f, v with
    | some (off, u), .agg cs => match lookT st.τ u with
      | some tu => guardM (Nat.ble (off + tu.sz) cs.length) (match tu.agg with
        | true => k (.agg (takeCells cs off tu.sz))
        | false => k (cs.getD off .undef))
      | none => .fail
    | _, _ => .fail
  | .indexAddr t x i => rb st.τ t x fun v => rb st.τ 0 i fun j => liveM v (indexAddrM st t v j k)
  | .index t x i => rb st.τ t x fun v => rb st.τ 0 i fun j => match v, j with
    | .str s, .int _ n => guardM (isStr st t) (.br (inB n s.length) (k (.int .u8 ((s.getD n.toNat 0).toNat : Int))) .fail)
    | _, _ => .fail
  | .extract (.tmp n) i => .rd (T n) fun c => match c.pv with
    | .tup vs => guardM (Nat.blt i vs.length) (match owning (vs.getD i .undef) with
      | true => .md (T n) (.tup (vs.set i .undef)) (k (vs.getD i .undef))
      | false => k (vs.getD i .undef))
    | _ => .fail
  | .call c => guardM (Nat.beq c.args.size c.argTypes.size) (match c.callee with
    | .builtin b => builtinM st b (c.args.toList.zip c.argTypes.toList) k
    | .value (.func f) => callM st f [] (c.args.toList.zip c.argTypes.toList) [] k
    | .value x => rb st.τ 0 x fun v => match v with
      | .clo f caps => callM st f [] (c.args.toList.zip c.argTypes.toList) caps k
      | .bnd f front => callM st f front (c.args.toList.zip c.argTypes.toList) [] k
      | _ => .fail
    | _ => .fail)
  | _ => .fail
def putM (st : Sta) (d : Option Tmp) (v : PV) : M Unit := match d with
  | some d => guardM (Nat.blt d st.n) (.wr (T d) v (.ret ()))
  | none => .ret ()
def stepM (st : Sta) (reg : Nat) (ops : List Oper) (idx : Nat) (o : Oper) : M Unit :=
  match o.guard with
  | none => opM st reg idx o (putM st o.dst)
  | some (g, want) => match (ops[g]?).bind (·.dst) with
    | none => .fail
    | some d => match want with
      | true => .test (T d) (opM st reg idx o (putM st o.dst)) (putM st o.dst .nov) (putM st o.dst .nov)
      | false => .test (T d) (putM st o.dst .nov) (opM st reg idx o (putM st o.dst)) (putM st o.dst .nov)
def runOps {ρ : Type} (φ : Phi ρ) (st : Sta) (reg : Nat) (ops : List Oper) : Nat → List Oper → (St → Option ρ) → St → Option ρ
  | _, [], K, s => K s
  | i, o :: r, K, s => (stepM st reg ops i o).run φ (fun _ s => runOps φ st reg ops (i + 1) r K s) s
abbrev Tr := List (Loc × Bool)
def disB (t u : Tr) : Bool := t.all fun x => u.all fun y => !(Nat.beq x.1 y.1) || (!x.2 && !y.2)
/-- The same run, with what was looked at collected. -/
def M.runT {α ρ : Type} (φ : Phi ρ) : M α → (α → St → Tr → Option ρ) → Tr → St → Option ρ
  | .ret a, K, t, s => K a s t
  | .fail, _, _, _ => none
  | .rd l k, K, t, s => (k (s l)).runT φ K ((l, false) :: t) s
  | .wr l v k, K, t, s => match s l with | ⟨_, ig, cg⟩ => k.runT φ K ((l, true) :: t) (s.upd l ⟨v, ig + 1, cg + 1⟩)
  | .md l v k, K, t, s => match s l with | ⟨_, ig, cg⟩ => k.runT φ K ((l, true) :: t) (s.upd l ⟨v, ig, cg + 1⟩)
  | .br c x y, K, t, s => bif c then x.runT φ K t s else y.runT φ K t s
  | .test l x y z, K, t, s => match s l with
    | ⟨.bool b, ig, cg⟩ => bif b then x.runT φ K ((l, false) :: t) (s.upd l ⟨.bool true, ig, cg⟩) else y.runT φ K ((l, false) :: t) (s.upd l ⟨.bool false, ig, cg⟩)
    | ⟨.nov, _, _⟩ => z.runT φ K ((l, false) :: t) s
    | _ => none
  | .call f as os k, K, t, s => φ.fn f as os fun r o => (k r o).runT φ K t s
/-- Operations that come before one: a bit for each. -/
def maskOf (acc : List Nat) : List Edge → Nat
  | [] => 0
  | e :: r => bif Region.binds .any e then (1 <<< e.on) ||| (acc.getD e.on 0) ||| maskOf acc r else maskOf acc r
def masks : List Nat → List Oper → List Nat
  | acc, [] => acc
  | acc, o :: r => masks (acc ++ [maskOf acc o.after.toList]) r
def backB : Nat → List Oper → Bool
  | _, [] => true
  | i, o :: r => (o.after.toList.all fun e => !Region.binds .any e || Nat.blt e.on i) && backB (i + 1) r
def rowOk (m : Nat) (t : Tr) : Nat → List Tr → Bool
  | _, [] => true
  | j, u :: r => (m.testBit j || disB u t) && rowOk m t (j + 1) r
def pairsOk (ms : List Nat) : Nat → List Tr → List Tr → Bool
  | _, _, [] => true
  | i, seen, t :: r => rowOk (ms.getD i 0) t 0 seen && pairsOk ms (i + 1) (seen ++ [t]) r
def runOpsT {ρ : Type} (φ : Phi ρ) (st : Sta) (reg : Nat) (ops : List Oper) : Nat → List Oper → List Tr → (St → List Tr → Option ρ) → St → Option ρ
  | _, [], ts, K, s => K s ts
  | i, o :: r, ts, K, s => (stepM st reg ops i o).runT φ (fun _ s t => runOpsT φ st reg ops (i + 1) r (ts ++ [t]) K s) [] s
def firstReg : Code → Nat
  | .region id _ _ => id
  | .seq a _ => firstReg a
  | .block _ b => firstReg b
  | .loop b => firstReg b
  | _ => 0
def den {ρ : Type} (φ : Phi ρ) (st : Sta) : Code → (X → St → Option ρ) → St → Option ρ
  | .skip, K, s => K .normal s
  | .region id ops false, K, s => runOps φ st id ops.toList 0 ops.toList (fun s => K .normal s) s
  | .region id ops true, K, s => runOpsT φ st id ops.toList 0 ops.toList [] (fun s ts => bif backB 0 ops.toList && pairsOk (masks [] ops.toList) 0 [] ts then K .normal s else none) s
  | .seq x y, K, s => den φ st x (fun e s => match e with
    | .normal => den φ st y K s
    | .ret => K .ret s
    | .exit i => K (.exit i) s) s
  | .cond (.tmp n) x y, K, s => match (s (T n)).pv with
    | .bool b => bif b then den φ st x K s else den φ st y K s
    | _ => none
  | .cond (.const (.bool b)) x y, K, s => bif b then den φ st x K s else den φ st y K s
  | .block id x, K, s => den φ st x (fun e s => match e with
    | .normal => K .normal s
    | .ret => K .ret s
    | .exit i => bif Nat.beq i id then K .normal s else K (.exit i) s) s
  | .loop b, K, s => φ.lp (firstReg b) s K
  | .exit i, K, s => K (.exit i) s
  | .ret, K, s => K .ret s
  | _, _, _ => none
def S0 : List PV → List PV → St
  | as, os => fun l => ⟨match Nat.beq (l % 2) 0 with | true => as.getD (l / 2) .undef | false => os.getD (l / 2) .undef, 0, 0⟩
def St.gone (s : St) (l : Loc) : St := match s l with | ⟨_, ig, cg⟩ => s.upd l ⟨.undef, ig + 1, cg + 1⟩
def getRes (st : Sta) (s : St) : List ResultVar → Option (List PV)
  | [] => some []
  | .tmp t :: r => match clean (s (T t)).pv with
    | true => match owning (s (T t)).pv with
      | true => match getRes st (s.gone (T t)) r with
        | some l => some ((s (T t)).pv :: l)
        | none => none
      | false => match getRes st s r with
        | some l => some ((s (T t)).pv :: l)
        | none => none
    | false => none
  | .cell a ty :: r => match (s (T a)).pv, lookT st.τ ty with
    | .box cs, some ti => match cleans cs && (Nat.beq ti.sz cs.length && Nat.ble 1 cs.length) with
      | true => match getRes st (s.gone (T a)) r with
        | some l => some ((match ti.agg with | true => .agg cs | false => cs.getD 0 .undef) :: l)
        | none => none
      | false => none
    | _, _ => none
def getOuts (s : St) : Nat → Nat → Option (List PV)
  | _, 0 => some []
  | j, n + 1 => match clean (s (O j)).pv, getOuts s (j + 1) n with
    | true, some l => some ((s (O j)).pv :: l)
    | _, _ => none
def denFn {ρ : Type} (φ : Phi ρ) (st : Sta) (fn : Func) (as os : List PV) (K : PV → List PV → Option ρ) : Option ρ :=
  match fn.body with
  | some b => den φ st b (fun e s => match e with
    | .exit _ => none
    | _ => match getRes st s fn.results.toList, getOuts s 0 os.length with
      | some [v], some o => K v o
      | some l, some o => K (.tup l) o
      | _, _ => none) (S0 as os)
  | none => none
end Go.VI
