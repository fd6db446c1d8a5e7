/-
A small abstract machine (AM) beside the model's own: registers, frame-local boxes, a heap of blocks, floats with one NaN.
This text: the machine's data and its run. No program in sight.
-/
import Derived.Test.YtimngjghbojjlaaGreatAmFlt
import GoSem.Core.Value
import GoSem.Core.Code
import GoSem.Core.View
namespace Am
open Go (IntKind BinOp UnOp)

/-! ## A map from numbers -/
inductive T (α : Type) where
  | e
  | n (l : T α) (v : Option α) (r : T α)

/-- The way to a number. -/
def pathF : Nat → Nat → List Bool
  | 0, _ => []
  | f + 1, k => match k with
    | 0 => []
    | k + 1 => Nat.beq (k % 2) 0 :: pathF f (k / 2)
def path (k : Nat) : List Bool := pathF k k
def unpath : List Bool → Nat
  | [] => 0
  | b :: l => bif b then 2 * unpath l + 1 else 2 * unpath l + 2
theorem unpath_pathF : ∀ f k, k ≤ f → unpath (pathF f k) = k := by
  intro f
  induction f with
  | zero => intro k h; have : k = 0 := by omega
            subst this; rfl
  | succ f ih =>
    intro k h
    cases k with
    | zero => rfl
    | succ k =>
      simp only [pathF, unpath]
      rw [ih _ (by omega)]
      cases hb : Nat.beq (k % 2) 0 with
      | true => have := Nat.eq_of_beq_eq_true hb; simp only [cond_true]; omega
      | false => have := Nat.ne_of_beq_eq_false hb; simp only [cond_false]; omega
theorem path_inj {i j : Nat} : path i = path j ↔ i = j :=
  ⟨fun h => by rw [← unpath_pathF i i (Nat.le_refl _), ← unpath_pathF j j (Nat.le_refl _)]; exact congrArg unpath h, fun h => by rw [h]⟩

namespace T
variable {α : Type}
noncomputable def getP (t : T α) : List Bool → Option α :=
  T.rec (motive := fun _ => List Bool → Option α) (fun _ => none)
    (fun _ v _ il ir p => List.rec (motive := fun _ => Option α) v (fun b p _ => Bool.rec (motive := fun _ => List Bool → Option α) ir il b p) p) t
noncomputable def putP (p : List Bool) : T α → Option α → T α :=
  List.rec (motive := fun _ => T α → Option α → T α)
    (fun t x => T.rec (motive := fun _ => T α) (.n .e x .e) (fun l _ r _ _ => .n l x r) t)
    (fun b _ ih t x => T.rec (motive := fun _ => T α)
      (Bool.rec (motive := fun _ => T α) (.n .e none (ih .e x)) (.n (ih .e x) none .e) b)
      (fun l v r _ _ => Bool.rec (motive := fun _ => T α) (.n l v (ih r x)) (.n (ih l x) v r) b) t) p
theorem getP_e (p : List Bool) : (T.e : T α).getP p = none := rfl
theorem getP_nil (l r : T α) (v : Option α) : (T.n l v r).getP [] = v := rfl
theorem getP_true (l r : T α) (v : Option α) (p : List Bool) : (T.n l v r).getP (true :: p) = l.getP p := rfl
theorem getP_false (l r : T α) (v : Option α) (p : List Bool) : (T.n l v r).getP (false :: p) = r.getP p := rfl
theorem putP_nil_e (x : Option α) : putP [] .e x = .n .e x .e := rfl
theorem putP_nil_n (l r : T α) (v x : Option α) : putP [] (.n l v r) x = .n l x r := rfl
theorem putP_true_e (p : List Bool) (x : Option α) : putP (true :: p) .e x = .n (putP p .e x) none .e := rfl
theorem putP_false_e (p : List Bool) (x : Option α) : putP (false :: p) .e x = .n .e none (putP p .e x) := rfl
theorem putP_true_n (p : List Bool) (l r : T α) (v x : Option α) : putP (true :: p) (.n l v r) x = .n (putP p l x) v r := rfl
theorem putP_false_n (p : List Bool) (l r : T α) (v x : Option α) : putP (false :: p) (.n l v r) x = .n l v (putP p r x) := rfl
noncomputable def get (t : T α) (k : Nat) : Option α := t.getP (path k)
noncomputable def put (t : T α) (k : Nat) (x : Option α) : T α := putP (path k) t x
noncomputable def set (t : T α) (k : Nat) (x : α) : T α := putP (path k) t (some x)
noncomputable def ofListFrom (t : T α) (k : Nat) : List α → T α
  | [] => t
  | x :: xs => ofListFrom (t.set k x) (k + 1) xs
noncomputable def ofList (xs : List α) : T α := ofListFrom .e 0 xs

theorem getP_putP : ∀ (p : List Bool) (t : T α) (x : Option α) (q : List Bool), (putP p t x).getP q = if q = p then x else t.getP q := by
  intro p
  induction p with
  | nil => intro t x q; cases t <;> cases q with
    | nil => simp [putP_nil_e, putP_nil_n, getP_nil]
    | cons b q => cases b <;> simp [putP_nil_e, putP_nil_n, getP_e, getP_true, getP_false]
  | cons b p ih =>
    intro t x q
    cases t <;> cases q with
    | nil => cases b <;> simp [putP_true_e, putP_false_e, putP_true_n, putP_false_n, getP_nil, getP_e]
    | cons c q => cases b <;> cases c <;> simp [putP_true_e, putP_false_e, putP_true_n, putP_false_n, getP_true, getP_false, getP_e, ih]
theorem get_put (t : T α) (k : Nat) (x : Option α) (j : Nat) : (t.put k x).get j = if j = k then x else t.get j := by
  unfold get put
  rw [getP_putP]
  by_cases h : j = k
  · rw [if_pos h, if_pos (by rw [h])]
  · rw [if_neg h, if_neg (fun e => h (path_inj.1 e))]
theorem get_set (t : T α) (k : Nat) (x : α) (j : Nat) : (t.set k x).get j = if j = k then some x else t.get j :=
  get_put t k (some x) j
@[simp] theorem get_e (k : Nat) : (T.e : T α).get k = none := rfl
theorem get_ofListFrom : ∀ (xs : List α) (t : T α) (k j : Nat), (ofListFrom t k xs).get j = if k ≤ j ∧ j < k + xs.length then xs[j - k]? else t.get j := by
  intro xs
  induction xs with
  | nil =>
    intro t k j
    simp only [ofListFrom, List.length_nil]
    rw [if_neg (by omega)]
  | cons x xs ih =>
    intro t k j
    simp only [ofListFrom, ih, List.length_cons, get_set]
    by_cases h1 : k + 1 ≤ j ∧ j < k + 1 + xs.length
    · rw [if_pos h1, if_pos (by omega)]
      have : j - k = (j - (k + 1)) + 1 := by omega
      rw [this, List.getElem?_cons_succ]
    · rw [if_neg h1]
      by_cases h2 : j = k
      · subst h2; simp
      · rw [if_neg h2, if_neg (by omega)]
theorem get_ofList (xs : List α) (j : Nat) : (ofList xs).get j = xs[j]? := by
  rw [ofList, get_ofListFrom]
  by_cases h : j < xs.length
  · rw [if_pos (by omega)]; simp
  · rw [if_neg (by omega), List.getElem?_eq_none (by omega)]; rfl
end T

/-! ## Values -/
inductive V where
  | b (x : Bool)
  | i (k : IntKind) (n : Int)
  | f (w : Nat)
  | c (re im : Nat)
  | p (a : Option (Nat × Nat))
  | s (a : Option (Nat × Nat)) (len cap : Nat)
  | fn (f : Nat) (args caps : List V)
  | nilFn
  | ifc (t : Nat) (v : V)
  | nilI
  | agg (cs : List V)
  | tup (cs : List V)
  deriving Inhabited

def V.cells : V → List V
  | .agg cs => cs
  | v => [v]
def V.scalar : V → Bool
  | .agg _ | .tup _ => false
  | _ => true

/-! Rows of cells. -/
section
variable {α : Type}
def consO (x : α) : Option (List α) → Option (List α)
  | some r => some (x :: r)
  | none => none
theorem consO_map (x : α) (r : Option (List α)) : consO x r = r.map (x :: ·) := by cases r <;> rfl
noncomputable def nth (l : List α) : Nat → Option α :=
  List.rec (motive := fun _ => Nat → Option α) (fun _ => none) (fun x _ ih k => Nat.rec (motive := fun _ => Option α) (some x) (fun k _ => ih k) k) l
noncomputable def takeX (n : Nat) : List α → Option (List α) :=
  Nat.rec (motive := fun _ => List α → Option (List α)) (fun _ => some [])
    (fun _ ih l => List.rec (motive := fun _ => Option (List α)) none (fun x xs _ => consO x (ih xs)) l) n
noncomputable def dropX (n : Nat) : List α → List α :=
  Nat.rec (motive := fun _ => List α → List α) (fun l => l) (fun _ ih l => List.rec (motive := fun _ => List α) [] (fun _ xs _ => ih xs) l) n
noncomputable def over (vs : List α) : List α → Option (List α) :=
  List.rec (motive := fun _ => List α → Option (List α)) (fun l => some l)
    (fun v _ ih l => List.rec (motive := fun _ => Option (List α)) none (fun _ xs _ => consO v (ih xs)) l) vs
noncomputable def spliceX (n : Nat) (vs : List α) : List α → Option (List α) :=
  Nat.rec (motive := fun _ => List α → Option (List α)) (over vs)
    (fun _ ih l => List.rec (motive := fun _ => Option (List α)) none (fun x xs _ => consO x (ih xs)) l) n
noncomputable def lenIs (l : List α) : Nat → Bool :=
  List.rec (motive := fun _ => Nat → Bool) (fun n => Nat.beq n 0) (fun _ _ ih n => Nat.rec (motive := fun _ => Bool) false (fun n _ => ih n) n) l
theorem nth_eq : ∀ (l : List α) (k : Nat), nth l k = l[k]? := by
  intro l
  induction l with
  | nil => intro k; rfl
  | cons x xs ih =>
    intro k
    cases k with
    | zero => rfl
    | succ k => rw [List.getElem?_cons_succ]; exact ih k
theorem takeX_eq : ∀ (n : Nat) (l : List α), takeX n l = if n ≤ l.length then some (l.take n) else none := by
  intro n
  induction n with
  | zero => intro l; rw [if_pos (Nat.zero_le _)]; rfl
  | succ n ih =>
    intro l
    cases l with
    | nil => rw [if_neg (by simp)]; rfl
    | cons x xs =>
      have e : takeX (n + 1) (x :: xs) = consO x (takeX n xs) := rfl
      rw [e, ih, consO_map]
      by_cases h : n ≤ xs.length
      · rw [if_pos h, if_pos (by simp; exact h)]; rfl
      · rw [if_neg h, if_neg (by simp; omega)]; rfl
theorem dropX_eq : ∀ (n : Nat) (l : List α), dropX n l = l.drop n := by
  intro n
  induction n with
  | zero => intro l; rfl
  | succ n ih =>
    intro l
    cases l with
    | nil => rfl
    | cons x xs => exact ih xs
theorem over_eq : ∀ (vs l : List α), over vs l = if vs.length ≤ l.length then some (vs ++ l.drop vs.length) else none := by
  intro vs
  induction vs with
  | nil => intro l; rw [if_pos (by simp)]; rfl
  | cons v vs ih =>
    intro l
    cases l with
    | nil => rw [if_neg (by simp)]; rfl
    | cons x xs =>
      have e : over (v :: vs) (x :: xs) = consO v (over vs xs) := rfl
      rw [e, ih, consO_map]
      by_cases h : vs.length ≤ xs.length
      · rw [if_pos h, if_pos (by simp; exact h)]; rfl
      · rw [if_neg h, if_neg (by simp; omega)]; rfl
theorem spliceX_eq : ∀ (n : Nat) (vs l : List α), spliceX n vs l = if n + vs.length ≤ l.length then some (l.take n ++ (vs ++ l.drop (n + vs.length))) else none := by
  intro n vs
  induction n with
  | zero =>
    intro l
    have : spliceX 0 vs l = over vs l := rfl
    rw [this, over_eq]; simp
  | succ n ih =>
    intro l
    cases l with
    | nil => rw [if_neg (by simp)]; rfl
    | cons x xs =>
      have e : spliceX (n + 1) vs (x :: xs) = consO x (spliceX n vs xs) := rfl
      rw [e, ih, consO_map]
      by_cases h : n + vs.length ≤ xs.length
      · rw [if_pos h, if_pos (by simp; omega)]
        have : n + 1 + vs.length = (n + vs.length) + 1 := by omega
        rw [this]; rfl
      · rw [if_neg h, if_neg (by simp; omega)]; rfl
theorem lenIs_eq : ∀ (l : List α) (n : Nat), lenIs l n = decide (l.length = n) := by
  intro l
  induction l with
  | nil => intro n; cases n <;> rfl
  | cons x xs ih =>
    intro n
    cases n with
    | zero => rfl
    | succ n =>
      have : lenIs (x :: xs) (n + 1) = lenIs xs n := rfl
      rw [this, ih]; simp
end

/-- What a register holds: a value; a pointer into a box of the frame's own; nothing (an operation that was passed over). -/
inductive S where
  | v (x : V)
  | lp (g off : Nat)
  | u

inductive Fl where
  | strict | loose | ro
  deriving DecidableEq

inductive Obj where
  | cells (cs : List V) (es : Nat) (fl : Fl)

structure Heap where
  bl : T Obj
  nx : Nat
  lo : Option Nat     -- the least block that was written

noncomputable def Heap.new (H : Heap) (o : Obj) : Heap := { H with bl := H.bl.set H.nx o, nx := H.nx + 1 }
def loMin (a b : Option Nat) : Option Nat :=
  match a, b with
  | none, x => x
  | some a, none => some a
  | some a, some b => some (bif Nat.ble a b then a else b)
noncomputable def Heap.write (H : Heap) (b : Nat) (o : Option Obj) : Heap := { H with bl := H.bl.put b o, lo := loMin H.lo (some b) }

/-! ## Code -/
/-- A register; what an operation of the same region came to, so many operations ahead (0: the last one); a constant. -/
inductive Opd where
  | v (n : Nat)
  | r (d : Nat)
  | k (v : V)

/-- How a type is compared. -/
inductive Lk where
  | b | i | f | c
inductive Sh where
  | leaf (k : Lk)
  | node (parts : List (Nat × Nat × Bool × Sh))     -- offset, cells, of several cells

structure St where
  sl : T S
  bx : T (List V)
  nb : Nat
  hp : Heap

/-- What an operation touches of what was there before it: nothing; a box; some blocks; maybe every block ('w': it writes). -/
inductive Fx where
  | pu
  | bx (g : Nat) (w : Bool)
  | hs (l : List (Nat × Bool))
  | ha (w : Bool)

/-- What calls come to. -/
abbrev Orc := Nat → List V → Heap → Option (V × Heap)
structure Res where
  s : S
  bx : T (List V)
  nb : Nat
  hp : Heap
  fx : Fx
structure En where
  sl : T S
  rs : List S
abbrev PSem := En → Option S
abbrev MSem := Orc → En → T (List V) → Nat → Heap → Option Res

/-- An operation: the register that it writes, if anything behind its region reads it; the guard; what must be done before it, in every order (bits). -/
inductive Io where
  | pu (d : Option Nat) (g : Option (Opd × Bool)) (f : PSem) (pre : Nat)
  | me (d : Option Nat) (g : Option (Opd × Bool)) (f : MSem) (pre : Nat)

inductive Cd where
  | skip
  | reg (ops : List Io) (draw : Bool)
  | seq (a b : Cd)
  | cond (c : Opd) (t e : Cd)
  | block (id : Nat) (b : Cd)
  | loop (b : Cd)
  | exit (id : Nat)
  | ret

inductive Rs where
  | tmp (t : Nat)
  | cell (t n : Nat) (ag : Bool)

structure Fn where
  np : Nat
  body : Cd
  res : List Rs

inductive Ex where
  | normal
  | exit (id : Nat)
  | ret

/-! ## Operations -/
noncomputable def ev (sl : En) : Opd → Option S
  | .v n => sl.sl.get n
  | .r d => nth sl.rs d
  | .k v => some (.v v)
noncomputable def evV (sl : En) (x : Opd) : Option V :=
  match ev sl x with
  | some (.v v) => some v
  | _ => none
def idx? (x : V) : Option Nat :=
  match x with
  | .i _ (.ofNat n) => some n
  | _ => none
noncomputable def evI (sl : En) (x : Opd) : Option Nat :=
  match evV sl x with
  | some v => idx? v
  | none => none
def sv : Option V → Option S
  | some v => some (.v v)
  | none => none
noncomputable def evLK (r : Option (List V)) (o : Option V) : Option (List V) := Option.rec (motive := fun _ => Option (List V)) none (fun v => consO v r) o
noncomputable def evL (sl : En) (l : List Opd) : Option (List V) :=
  List.rec (motive := fun _ => Option (List V)) (some []) (fun x _ ih => evLK ih (evV sl x)) l
theorem evLK_eq (r : Option (List V)) (o : Option V) : evLK r o = (match o with | none => none | some v => consO v r) := by cases o <;> rfl
theorem evL_nil (sl : En) : evL sl [] = some [] := rfl
theorem evL_cons (sl : En) (x : Opd) (xs : List Opd) : evL sl (x :: xs) = (match evV sl x with
    | none => none
    | some v => consO v (evL sl xs)) := by first | rfl | exact evLK_eq _ _

def wrapF (k : IntKind) (n : Int) : Int :=
  match k, n with
  | .i64, .ofNat m => bif Nat.ble m 9223372036854775807 then n else k.wrap n
  | .u32, .ofNat m => bif Nat.ble m 4294967295 then n else k.wrap n
  | .u64, .ofNat m => bif Nat.ble m 18446744073709551615 then n else k.wrap n
  | .u8, .ofNat m => bif Nat.ble m 255 then n else k.wrap n
  | _, _ => k.wrap n

def ile (a b : Int) : Bool :=
  match a, b with
  | .ofNat m, .ofNat n => Nat.ble m n
  | .negSucc _, .ofNat _ => true
  | .ofNat _, .negSucc _ => false
  | .negSucc m, .negSucc n => Nat.ble n m
def ieq (a b : Int) : Bool :=
  match a, b with
  | .ofNat m, .ofNat n => Nat.beq m n
  | .negSucc m, .negSucc n => Nat.beq m n
  | _, _ => false

def binI (o : BinOp) (k : IntKind) (x y : Int) : Option V :=
  match o with
  | .add => some (.i k (wrapF k (x + y)))
  | .sub => some (.i k (wrapF k (x - y)))
  | .mul => some (.i k (wrapF k (x * y)))
  | .quo => bif ieq y 0 then none else some (.i k (wrapF k (x.tdiv y)))
  | .rem => bif ieq y 0 then none else some (.i k (x.tmod y))
  | .and => some (.i k (k.wrap ((BitVec.ofInt k.bits x &&& BitVec.ofInt k.bits y).toNat : Nat)))
  | .or => some (.i k (k.wrap ((BitVec.ofInt k.bits x ||| BitVec.ofInt k.bits y).toNat : Nat)))
  | .xor => some (.i k (k.wrap ((BitVec.ofInt k.bits x ^^^ BitVec.ofInt k.bits y).toNat : Nat)))
  | .andNot => some (.i k (k.wrap ((BitVec.ofInt k.bits x &&& ~~~(BitVec.ofInt k.bits y)).toNat : Nat)))
  | .eql => some (.b (ieq x y))
  | .neq => some (.b (!ieq x y))
  | .lss => some (.b (!ile y x))
  | .leq => some (.b (ile x y))
  | .gtr => some (.b (!ile x y))
  | .geq => some (.b (ile y x))
  | _ => none

def binF (o : BinOp) (x y : Nat) : Option V :=
  match o with
  | .add => some (.f (fadd x y))
  | .sub => some (.f (fsub x y))
  | .mul => some (.f (fmul x y))
  | .quo => some (.f (fdiv x y))
  | .eql => some (.b (feq x y))
  | .neq => some (.b (!feq x y))
  | .lss => some (.b (flt x y))
  | .leq => some (.b (fle x y))
  | .gtr => some (.b (fgt x y))
  | .geq => some (.b (fge x y))
  | _ => none

def shiftI (o : BinOp) (k : IntKind) (x y : Int) : Option V :=
  match y with
  | .negSucc _ => none
  | .ofNat y =>
    let n := bif Nat.ble y k.bits then y else k.bits
    match o with
    | .shl => some (.i k (wrapF k (x * ((2 ^ n : Nat) : Int))))
    | .shr => some (.i k (x.fdiv ((2 ^ n : Nat) : Int)))
    | _ => none

def eqCell : Lk → V → V → Option Bool
  | .b, .b a, .b b => some (bif a then b else !b)
  | .i, .i k a, .i k' b => if k = k' then some (ieq a b) else none
  | .f, .f a, .f b => some (feq a b)
  | .c, .c a b, .c a' b' => some (feq a a' && feq b b')
  | _, _, _ => none

def binV (o : BinOp) (x y : V) : Option V :=
  match x, y with
  | .i k a, .i k' b =>
    match o with
    | .shl => shiftI .shl k a b
    | .shr => shiftI .shr k a b
    | o => if k = k' then binI o k a b else none
  | .f a, .f b => binF o a b
  | .c a b, .c a' b' => match o with
    | .eql => some (.b (feq a a' && feq b b'))
    | .neq => some (.b (!(feq a a' && feq b b')))
    | _ => none
  | _, _ => none

/-- The part of a row of cells. -/
noncomputable def cut (cs : List V) (off n : Nat) : Option (List V) := takeX n (dropX off cs)
noncomputable def cutV (cs : List V) (off n : Nat) (ag : Bool) : Option V :=
  match ag with
  | true => match cut cs off n with
    | some l => some (.agg l)
    | none => none
  | false => nth cs off

noncomputable def Sh.eq : Sh → V → V → Option Bool
  | .leaf k, x, y => eqCell k x y
  | .node ps, .agg xs, .agg ys => eqs ps xs ys
  | .node _, _, _ => none
where
  eqs : List (Nat × Nat × Bool × Sh) → List V → List V → Option Bool
    | [], _, _ => some true
    | (off, n, ag, sh) :: ps, xs, ys =>
      match cutV xs off n ag, cutV ys off n ag with
      | some x, some y => match sh.eq x y with
        | some true => eqs ps xs ys
        | r => r
      | _, _ => none

/-- Parts laid into a row of cells. -/
noncomputable def fillK (ih : List V → Option (List V)) (x : Nat × Nat × V) (cs : List V) : Option (List V) :=
  Bool.rec (motive := fun _ => Option (List V)) none (Option.rec (motive := fun _ => Option (List V)) none ih (spliceX x.1 x.2.2.cells cs)) (lenIs x.2.2.cells x.2.1)
noncomputable def fillL (cs : List V) (l : List (Nat × Nat × V)) : Option (List V) :=
  List.rec (motive := fun _ => List V → Option (List V)) (fun cs => some cs) (fun x _ ih cs => fillK ih x cs) l cs
theorem fillK_eq (ih : List V → Option (List V)) (off n : Nat) (v : V) (cs : List V) : fillK ih (off, n, v) cs = (match lenIs v.cells n with
    | true => match spliceX off v.cells cs with
      | some cs => ih cs
      | none => none
    | false => none) := by
  unfold fillK
  cases lenIs v.cells n <;> cases spliceX off v.cells cs <;> rfl
noncomputable def evPK (off n : Nat) (r : Option (List (Nat × Nat × V))) (o : Option V) : Option (List (Nat × Nat × V)) :=
  Option.rec (motive := fun _ => Option (List (Nat × Nat × V))) none (fun v => consO (off, n, v) r) o
noncomputable def evP (sl : En) (l : List (Nat × Nat × Opd)) : Option (List (Nat × Nat × V)) :=
  List.rec (motive := fun _ => Option (List (Nat × Nat × V))) (some []) (fun x _ ih => evPK x.1 x.2.1 ih (evV sl x.2.2)) l
theorem evPK_eq (off n : Nat) (r : Option (List (Nat × Nat × V))) (o : Option V) : evPK off n r o = (match o with | none => none | some v => consO (off, n, v) r) := by cases o <;> rfl
noncomputable def allK (ih x : Bool) : Bool := Bool.rec (motive := fun _ => Bool) false ih x
noncomputable def allS (l : List V) : Bool := List.rec (motive := fun _ => Bool) true (fun x _ ih => allK ih x.scalar) l
theorem allK_eq (ih x : Bool) : allK ih x = (x && ih) := by cases x <;> rfl
theorem fillL_nil (cs : List V) : fillL cs [] = some cs := rfl
theorem fillL_cons (cs : List V) (off n : Nat) (v : V) (r : List (Nat × Nat × V)) : fillL cs ((off, n, v) :: r) = (match lenIs v.cells n with
    | true => match spliceX off v.cells cs with
      | some cs => fillL cs r
      | none => none
    | false => none) := by first | rfl | exact fillK_eq _ _ _ _ _
theorem evP_nil (sl : En) : evP sl [] = some [] := rfl
theorem evP_cons (sl : En) (off n : Nat) (x : Opd) (xs : List (Nat × Nat × Opd)) : evP sl ((off, n, x) :: xs) = (match evV sl x with
    | none => none
    | some v => consO (off, n, v) (evP sl xs)) := by first | rfl | exact evPK_eq _ _ _ _
theorem allS_cons (x : V) (xs : List V) : allS (x :: xs) = (x.scalar && allS xs) := by
  first
    | exact allK_eq _ _
    | (show (match x.scalar with | true => allS xs | false => false) = _; cases x.scalar <;> rfl)
theorem allS_eq : ∀ (l : List V), allS l = l.all V.scalar := by
  intro l
  induction l with
  | nil => rfl
  | cons x xs ih => rw [List.all_cons, ← ih, allS_cons]

def unV (o : UnOp) (x : V) : Option V :=
  match o, x with
  | .neg, .i k n => some (.i k (wrapF k (0 - n)))
  | .neg, .f w => some (.f (fneg w))
  | .not, .b x => some (.b (!x))
  | _, _ => none

def bound (x : Option V) (y dflt : Nat) : Option Nat :=
  match x with
  | none => some dflt
  | some v => match idx? v with
    | some n => bif Nat.ble n y then some n else none
    | none => none
def highB (hi mx : Option V) (m len : Nat) : Option Nat :=
  match hi, mx with
  | none, some _ => none
  | _, _ => bound hi m len
/-- The bounds of a slice expression: low, high, max. -/
def bounds (len cap : Nat) (lo hi mx : Option V) : Option (Nat × Nat × Nat) :=
  match bound mx cap cap with
  | none => none
  | some m => match highB hi mx m len with
    | none => none
    | some h => match bound lo h 0 with
      | none => none
      | some l => some (l, h, m)

noncomputable def evO (sl : En) : Option Opd → Option (Option V)
  | none => some none
  | some x => match evV sl x with
    | some v => some (some v)
    | none => none
noncomputable def bounds3 (sl : En) (len cap : Nat) (lo hi mx : Option Opd) : Option (Nat × Nat × Nat) :=
  match evO sl lo with
  | none => none
  | some lo => match evO sl hi with
    | none => none
    | some hi => match evO sl mx with
      | none => none
      | some mx => bounds len cap lo hi mx

def mm2 (isMax : Bool) (x y : V) : Option V :=
  match x, y with
  | .i k a, .i k' b => if k = k' then some (.i k (bif isMax then (bif ile b a then a else b) else (bif ile a b then a else b))) else none
  | .f a, .f b => some (.f (bif fnum a b then (bif flt a b then (bif isMax then b else a) else bif fgt a b then (bif isMax then a else b)
      else bif fsgn a then (bif isMax then b else a) else (bif isMax then a else b)) else cnan))
  | _, _ => none

/-! Operations that look at registers alone. -/
noncomputable def pMov (x : Opd) : PSem := fun sl => match ev sl x with
  | some .u => none
  | r => r
noncomputable def pPick (c a b : Opd) : PSem := fun sl => match evV sl c with
  | some (.b true) => pMov a sl
  | some (.b false) => pMov b sl
  | _ => none
noncomputable def pFld (x : Opd) (off : Nat) : PSem := fun sl => match ev sl x with
  | some (.lp g o) => some (.lp g (o + off))
  | some (.v (.p (some (b, o)))) => some (.v (.p (some (b, o + off))))
  | _ => none
noncomputable def pIxa (x i : Opd) (n : Nat) : PSem := fun sl => match evV sl x with
  | some (.s (some (b, o)) len _) => match evI sl i with
    | some i => bif Nat.blt i len then some (.v (.p (some (b, o + i * n)))) else none
    | none => none
  | _ => none
noncomputable def pIxp (x i : Opd) (len n : Nat) : PSem := fun sl => match evI sl i with
  | some i => bif Nat.blt i len then pFld x (i * n) sl else none
  | none => none
noncomputable def pPart (x : Opd) (off n : Nat) (ag : Bool) : PSem := fun sl => match evV sl x with
  | some (.agg cs) => sv (cutV cs off n ag)
  | _ => none
noncomputable def pIxv (x i : Opd) (len n : Nat) (ag : Bool) : PSem := fun sl => match evI sl i with
  | some i => bif Nat.blt i len then pPart x (i * n) n ag sl else none
  | none => none
noncomputable def pBin (o : BinOp) (x y : Opd) : PSem := fun sl => match evV sl x with
  | some x => match evV sl y with
    | some y => sv (binV o x y)
    | none => none
  | none => none
noncomputable def pBeq (neg : Bool) (x y : Opd) : PSem := fun sl => match evV sl x with
  | some (.b x) => match evV sl y with
    | some (.b y) => some (.v (.b (bif neg then (bif x then !y else y) else (bif x then y else !y))))
    | _ => none
  | _ => none
noncomputable def pPeq (neg : Bool) (x y : Opd) : PSem := fun sl => match evV sl x with
  | some (.p a) => match evV sl y with
    | some (.p b) => match a, b with
      | none, none => some (.v (.b (!neg)))
      | some _, some _ => none
      | _, _ => some (.v (.b neg))
    | _ => none
  | _ => none
noncomputable def pSnl (neg : Bool) (x y : Opd) : PSem := fun sl => match evV sl x with
  | some (.s a _ _) => match evV sl y with
    | some (.s b _ _) => match a, b with
      | none, none => some (.v (.b (!neg)))
      | some _, some _ => none
      | _, _ => some (.v (.b neg))
    | _ => none
  | _ => none
noncomputable def pSix (tbl : List Nat) (i : Opd) : PSem := fun sl => match evI sl i with
  | some i => match tbl[i]? with
    | some n => some (.v (.i .u8 n))
    | none => none
  | none => none
noncomputable def pEqs (neg : Bool) (sh : Sh) (x y : Opd) : PSem := fun sl => match evV sl x with
  | some x => match evV sl y with
    | some y => match sh.eq x y with
      | some r => some (.v (.b (bif neg then !r else r)))
      | none => none
    | none => none
  | none => none
noncomputable def pUn (o : UnOp) (x : Opd) : PSem := fun sl => match evV sl x with
  | some x => sv (unV o x)
  | none => none
noncomputable def pCvi (k : IntKind) (x : Opd) : PSem := fun sl => match evV sl x with
  | some (.i _ n) => some (.v (.i k (wrapF k n)))
  | _ => none
noncomputable def pCvf (x : Opd) : PSem := fun sl => match evV sl x with
  | some (.i _ n) => some (.v (.f (fofint n)))
  | _ => none
noncomputable def pIdf (x : Opd) : PSem := fun sl => match evV sl x with
  | some (.f w) => some (.v (.f w))
  | _ => none
noncomputable def pIdc (x : Opd) : PSem := fun sl => match evV sl x with
  | some (.c a b) => some (.v (.c a b))
  | _ => none
noncomputable def pBld (z : List V) (ps : List (Nat × Nat × Opd)) : PSem := fun sl => match evP sl ps with
  | some ps => match fillL z ps with
    | some cs => some (.v (.agg cs))
    | none => none
  | none => none
noncomputable def pChk (x : Opd) : PSem := fun sl => match ev sl x with
  | some (.lp g o) => some (.lp g o)
  | some (.v (.p (some a))) => some (.v (.p (some a)))
  | _ => none
noncomputable def pIfc (t : Nat) (x : Opd) : PSem := fun sl => match evV sl x with
  | some v => some (.v (.ifc t v))
  | none => none
noncomputable def pMkf (f : Nat) (first caps : List Opd) : PSem := fun sl => match evL sl first with
  | some a => match evL sl caps with
    | some c => some (.v (.fn f a c))
    | none => none
  | none => none
noncomputable def pSla (x : Opd) (len : Nat) (lo hi mx : Option Opd) (n : Nat) : PSem := fun sl => match evV sl x with
  | some (.p (some (b, o))) => match bounds3 sl len len lo hi mx with
    | some (l, h, m) => some (.v (.s (some (b, bif Nat.beq m l then o else o + l * n)) (h - l) (m - l)))
    | none => none
  | _ => none
noncomputable def pExt (x : Opd) (ix : Nat) : PSem := fun sl => match evV sl x with
  | some (.tup vs) => sv vs[ix]?
  | _ => none
noncomputable def pLen (x : Opd) : PSem := fun sl => match evV sl x with
  | some (.s _ n _) => some (.v (.i .i64 n))
  | _ => none
noncomputable def pMm (isMax : Bool) (x y : Opd) : PSem := fun sl => match evV sl x with
  | some x => match evV sl y with
    | some y => sv (mm2 isMax x y)
    | none => none
  | none => none
noncomputable def pRe (x : Opd) : PSem := fun sl => match evV sl x with
  | some (.c r _) => some (.v (.f r))
  | _ => none
noncomputable def pIm (x : Opd) : PSem := fun sl => match evV sl x with
  | some (.c _ i) => some (.v (.f i))
  | _ => none
noncomputable def pCx (x y : Opd) : PSem := fun sl => match evV sl x with
  | some (.f r) => match evV sl y with
    | some (.f i) => some (.v (.c r i))
    | _ => none
  | _ => none
noncomputable def pSqrt (x : Opd) : PSem := fun sl => match evV sl x with
  | some (.f w) => some (.v (.f (fsqrt w)))
  | _ => none
noncomputable def pFbits (x : Opd) : PSem := fun sl => match evV sl x with
  | some (.f w) => bif isnan w then none else some (.v (.i .u64 w))
  | _ => none
noncomputable def pFfrom (x : Opd) : PSem := fun sl => match evV sl x with
  | some (.i .u64 (.ofNat w)) => some (.v (.f (canon w)))
  | _ => none

/-! Operations that look at memory. -/
noncomputable def mLbox (x : Opd) : MSem := fun _ sl bx nb H => match evV sl x with
  | some v => some ⟨.lp nb 0, bx.set nb v.cells, nb + 1, H, .bx nb true⟩
  | none => none
noncomputable def mLnew (z : List V) : MSem := fun _ _ bx nb H => some ⟨.lp nb 0, bx.set nb z, nb + 1, H, .bx nb true⟩
/-- A new block. -/
noncomputable def fresh (bx : T (List V)) (nb : Nat) (H : Heap) (cs : List V) (r : V) (l : List (Nat × Bool)) : Option Res :=
  some ⟨.v r, bx, nb, H.new (.cells cs 0 .strict), .hs l⟩
noncomputable def mHbox (x : Opd) : MSem := fun _ sl bx nb H => match evV sl x with
  | some v => fresh bx nb H v.cells (.p (some (H.nx, 0))) []
  | none => none
noncomputable def mHnew (z : List V) : MSem := fun _ _ bx nb H => fresh bx nb H z (.p (some (H.nx, 0))) []
/-- A load out of a box; out of a block. -/
noncomputable def ldBox (bx : T (List V)) (nb : Nat) (H : Heap) (g o n : Nat) (ag : Bool) : Option Res := match bx.get g with
  | some cs => match cutV cs o n ag with
    | some v => some ⟨.v v, bx, nb, H, .bx g false⟩
    | none => none
  | none => none
noncomputable def ldBlk (bx : T (List V)) (nb : Nat) (H : Heap) (b o n : Nat) (ag : Bool) : Option Res := match H.bl.get b with
  | some (.cells cs _ _) => match cutV cs o n ag with
    | some v => some ⟨.v v, bx, nb, H, .hs [(b, false)]⟩
    | none => none
  | none => none
noncomputable def mLd (x : Opd) (n : Nat) (ag : Bool) : MSem := fun _ sl bx nb H => match ev sl x with
  | some (.lp g o) => ldBox bx nb H g o n ag
  | some (.v (.p (some (b, o)))) => ldBlk bx nb H b o n ag
  | _ => none
/-- A row of cells stored into a box; into a block. -/
noncomputable def stBox (bx : T (List V)) (nb : Nat) (H : Heap) (g o : Nat) (vs : List V) (r : S) : Option Res := match bx.get g with
  | some cs => match spliceX o vs cs with
    | some cs => some ⟨r, bx.set g cs, nb, H, .bx g true⟩
    | none => none
  | none => none
noncomputable def stBlk (bx : T (List V)) (nb : Nat) (H : Heap) (b o : Nat) (vs : List V) (r : S) (l : List (Nat × Bool)) : Option Res := match H.bl.get b with
  | some (.cells cs es fl) => match fl with
    | .ro => none
    | fl => match spliceX o vs cs with
      | some cs => some ⟨r, bx, nb, H.write b (some (.cells cs es fl)), .hs ((b, true) :: l)⟩
      | none => none
  | none => none
noncomputable def mSt (x v : Opd) (n : Nat) : MSem := fun _ sl bx nb H => match evV sl v with
  | none => none
  | some v =>
    bif lenIs v.cells n && allS v.cells then
      match ev sl x with
      | some (.lp g o) => stBox bx nb H g o v.cells .u
      | some (.v (.p (some (b, o)))) => stBlk bx nb H b o v.cells .u []
      | _ => none
    else none
/-- A slice of a slice: of one into a block with room behind it, what is left of the room is not known. -/
noncomputable def slcIn (bx : T (List V)) (nb : Nat) (H : Heap) (b o n l h m : Nat) : Option Res := match H.bl.get b with
  | some (.cells _ es fl) => match fl with
    | .loose => bif Nat.beq es n && (Nat.ble l m && !(Nat.beq m l && !(Nat.beq l 0))) then some ⟨.v (.s (some (b, o + l * n)) (h - l) (m - l)), bx, nb, H, .hs [(b, false)]⟩ else none
    | _ => some ⟨.v (.s (some (b, bif Nat.beq m l then o else o + l * n)) (h - l) (m - l)), bx, nb, H, .hs [(b, false)]⟩
  | none => none
noncomputable def mSlc (x : Opd) (lo hi mx : Option Opd) (n : Nat) : MSem := fun _ sl bx nb H => match evV sl x with
  | some (.s a len cap) => match bounds3 sl len cap lo hi mx with
    | some (l, h, m) => match a with
      | none => some ⟨.v (.s none (h - l) (m - l)), bx, nb, H, .pu⟩
      | some (b, o) => slcIn bx nb H b o n l h m
    | none => none
  | _ => none
noncomputable def mBsl (len : Nat) (z : List V) (ps : List (Nat × Nat × Opd)) : MSem := fun _ sl bx nb H => match evP sl ps with
  | some ps => match fillL z ps with
    | some cs => fresh bx nb H cs (.s (some (H.nx, 0)) len len) []
    | none => none
  | none => none
noncomputable def mMsl (l c : Opd) (bytes : Nat) (z : List V) : MSem := fun _ sl bx nb H => match evV sl l with
  | some (.i .i64 (.ofNat l)) => match evV sl c with
    | some (.i .i64 (.ofNat c)) =>
      bif Nat.ble l c && (Nat.ble (bytes * c) 281474976710656 && Nat.ble c 9223372036854775807) then
        fresh bx nb H (List.replicate c z).flatten (.s (some (H.nx, 0)) l c) []
      else none
    | _ => none
  | _ => none

/-- The cells of a slice's first elements. -/
noncomputable def rowOf (H : Heap) (a : Option (Nat × Nat)) (len n : Nat) : Option (List V) :=
  match a with
  | none => bif Nat.beq len 0 then some [] else none
  | some (b, o) => match H.bl.get b with
    | some (.cells cs _ _) => cut cs o (len * n)
    | none => none
def blkOf (a : Option (Nat × Nat)) : List (Nat × Bool) :=
  match a with
  | none => []
  | some (b, _) => [(b, false)]
/-- An append that finds room. -/
noncomputable def appIn (bx : T (List V)) (nb : Nat) (H : Heap) (a : Option (Nat × Nat)) (at_ : Nat) (new : List V) (r : V) (yf : List (Nat × Bool)) : Option Res :=
  match a with
  | none => some ⟨.v r, bx, nb, H, .hs yf⟩
  | some (b, o) => match new with
    | [] => some ⟨.v r, bx, nb, H, .hs yf⟩
    | _ :: _ => stBlk bx nb H b (o + at_) new (.v r) yf
/-- An append that finds none (or may find some, behind what is known of its block: then the block is given up). -/
noncomputable def appOut (bx : T (List V)) (nb : Nat) (H : Heap) (a : Option (Nat × Nat)) (len n need : Nat) (new : List V) (yf : List (Nat × Bool)) : Option Res :=
  match rowOf H a len n with
  | none => none
  | some old =>
    match a with
    | none => some ⟨.v (.s (some (H.nx, 0)) need need), bx, nb, H.new (.cells (old ++ new) n .loose), .hs yf⟩
    | some (b, _) => match H.bl.get b with
      | some (.cells _ es .loose) => bif Nat.beq es n then
          some ⟨.v (.s (some (H.nx, 0)) need need), bx, nb, (H.new (.cells (old ++ new) n .loose)).write b none, .hs ((b, true) :: yf)⟩
        else none
      | some (.cells _ _ _) => some ⟨.v (.s (some (H.nx, 0)) need need), bx, nb, H.new (.cells (old ++ new) n .loose), .hs ((b, false) :: yf)⟩
      | none => none
noncomputable def mApp (x y : Opd) (n bytes : Nat) : MSem := fun _ sl bx nb H => match evV sl x with
  | some (.s a len cap) => match evV sl y with
    | some (.s a' len' _) => match rowOf H a' len' n with
      | none => none
      | some new =>
        bif allS new then
          bif Nat.ble (len + len') cap then appIn bx nb H a (len * n) new (.s a (len + len') cap) (blkOf a')
          else bif Nat.ble ((len + len') * bytes) 140737488355328 then appOut bx nb H a len n (len + len') new (blkOf a')
          else none
        else none
    | _ => none
  | _ => none
noncomputable def mCpy (x y : Opd) (n : Nat) : MSem := fun _ sl bx nb H => match evV sl x with
  | some (.s a len _) => match evV sl y with
    | some (.s a' len' _) =>
      match rowOf H a' (bif Nat.ble len' len then len' else len) n with
      | none => none
      | some new => bif allS new then
          (match a with
          | none => some ⟨.v (.i .i64 (bif Nat.ble len' len then len' else len : Nat)), bx, nb, H, .hs (blkOf a')⟩
          | some (b, o) => stBlk bx nb H b o new (.v (.i .i64 (bif Nat.ble len' len then len' else len : Nat))) (blkOf a'))
        else none
    | _ => none
  | _ => none
noncomputable def callRes (bx : T (List V)) (nb : Nat) (H : Heap) : Option (V × Heap) → Option Res
  | some (r, H') => some ⟨.v r, bx, nb, { H' with lo := loMin H.lo H'.lo }, .ha H'.lo.isSome⟩
  | none => none
noncomputable def mCall (f : Opd) (args : List Opd) : MSem := fun C sl bx nb H => match evV sl f with
  | some (.fn f first caps) => match evL sl args with
    | some args => callRes bx nb H (C f (first ++ (args ++ caps)) { H with lo := none })
    | none => none
  | _ => none
noncomputable def mMeth (x : Opd) (tbl : List (Nat × Nat)) (args : List Opd) : MSem := fun C sl bx nb H => match evV sl x with
  | some (.ifc t v) => match evL sl args with
    | some args => match tbl.find? (fun e => Nat.beq e.1 t) with
      | some (_, f) => callRes bx nb H (C f (v :: args) { H with lo := none })
      | none => none
    | none => none
  | _ => none

/-! ## Regions -/
/-- Is an operation wanted? -/
noncomputable def wanted (e : En) : Option (Opd × Bool) → Option Bool
  | none => some true
  | some (x, w) => match ev e x with
    | some (.v (.b x)) => some (bif w then x else !x)
    | some .u => some false
    | _ => none
noncomputable def putS (sl : T S) (d : Option Nat) (s : S) : T S :=
  match d with
  | some d => sl.set d s
  | none => sl
/-- What an operation comes to, if it is wanted; nothing, if it is not. -/
noncomputable def runPu (g : Option (Opd × Bool)) (f : PSem) (sl : T S) (rs : List S) : Option S :=
  match wanted ⟨sl, rs⟩ g with
  | some true => f ⟨sl, rs⟩
  | some false => some .u
  | none => none
noncomputable def runMe (C : Orc) (g : Option (Opd × Bool)) (f : MSem) (sl : T S) (rs : List S) (bx : T (List V)) (nb : Nat) (H : Heap) : Option Res :=
  match wanted ⟨sl, rs⟩ g with
  | some true => f C ⟨sl, rs⟩ bx nb H
  | some false => some ⟨.u, bx, nb, H, .pu⟩
  | none => none

/-- What has been touched so far in a region whose order is open (bits of operations): those that look at the heap, those that write to it, the calls, the calls that write; block by block; box by box. -/
structure Hist where
  hr : Nat
  hw : Nat
  cr : Nat
  cw : Nat
  es : List (Nat × Nat × Bool)
  bs : List (Nat × Nat × Bool)
def Hist.none : Hist := ⟨0, 0, 0, 0, [], []⟩
def sub (a b : Nat) : Bool := Nat.beq (a ||| b) b
def apartFrom (pre g : Nat) (w : Bool) (l : List (Nat × Nat × Bool)) : Bool :=
  l.all fun e => bif Nat.beq e.1 g && (w || e.2.2) then pre.testBit e.2.1 else true
def Hist.add (h : Hist) (j pre : Nat) : Fx → Option Hist
  | .pu => some h
  | .bx g w => bif apartFrom pre g w h.bs then some { h with bs := (g, j, w) :: h.bs } else Option.none
  | .hs l =>
    let w := l.any (·.2)
    bif sub h.cw pre && (!w || sub h.cr pre) && l.all (fun e => apartFrom pre e.1 e.2 h.es) then
      some { h with hr := h.hr ||| 2 ^ j, hw := bif w then h.hw ||| 2 ^ j else h.hw, es := l.map (fun e => (e.1, j, e.2)) ++ h.es }
    else Option.none
  | .ha w =>
    bif sub (bif w then h.hr else h.hw) pre then
      some { h with hr := h.hr ||| 2 ^ j, hw := bif w then h.hw ||| 2 ^ j else h.hw, cr := h.cr ||| 2 ^ j, cw := bif w then h.cw ||| 2 ^ j else h.cw }
    else Option.none

noncomputable def seqPK (f : S → Option St) (o : Option S) : Option St := Option.rec (motive := fun _ => Option St) none f o
noncomputable def seqMK (f : Res → Option St) (o : Option Res) : Option St := Option.rec (motive := fun _ => Option St) none f o
noncomputable def histK (f : Hist → Option St) (o : Option Hist) : Option St := Option.rec (motive := fun _ => Option St) none f o
noncomputable def runSeq (C : Orc) (l : List Io) : T S → List S → T (List V) → Nat → Heap → Option St :=
  List.rec (motive := fun _ => T S → List S → T (List V) → Nat → Heap → Option St) (fun sl _ bx nb H => some ⟨sl, bx, nb, H⟩)
    (fun o _ ih sl rs bx nb H => Io.rec (motive := fun _ => Option St)
      (fun d g f _ => seqPK (fun s => ih (putS sl d s) (s :: rs) bx nb H) (runPu g f sl rs))
      (fun d g f _ => seqMK (fun r => ih (putS sl d r.s) (r.s :: rs) r.bx r.nb r.hp) (runMe C g f sl rs bx nb H)) o) l
noncomputable def runAny (C : Orc) (l : List Io) : Nat → Hist → T S → List S → T (List V) → Nat → Heap → Option St :=
  List.rec (motive := fun _ => Nat → Hist → T S → List S → T (List V) → Nat → Heap → Option St) (fun _ _ sl _ bx nb H => some ⟨sl, bx, nb, H⟩)
    (fun o _ ih j h sl rs bx nb H => Io.rec (motive := fun _ => Option St)
      (fun d g f _ => seqPK (fun s => ih (j + 1) h (putS sl d s) (s :: rs) bx nb H) (runPu g f sl rs))
      (fun d g f pre => seqMK (fun r => histK (fun h => ih (j + 1) h (putS sl d r.s) (r.s :: rs) r.bx r.nb r.hp) (h.add j pre r.fx)) (runMe C g f sl rs bx nb H)) o) l
theorem seqPK_eq (f : S → Option St) (o : Option S) : seqPK f o = (match o with | some s => f s | none => none) := by cases o <;> rfl
theorem seqMK_eq (f : Res → Option St) (o : Option Res) : seqMK f o = (match o with | some s => f s | none => none) := by cases o <;> rfl
theorem histK_eq (f : Hist → Option St) (o : Option Hist) : histK f o = (match o with | some s => f s | none => none) := by cases o <;> rfl
noncomputable def loopK (g : St → Option (Ex × St)) (o : Option (Ex × St)) : Option (Ex × St) :=
  Option.rec (motive := fun _ => Option (Ex × St)) none (fun p => Ex.rec (motive := fun _ => Option (Ex × St)) (g p.2) (fun i => some (.exit i, p.2)) (some (.ret, p.2)) p.1) o
noncomputable def loopN (f : St → Option (Ex × St)) (n : Nat) : St → Option (Ex × St) :=
  Nat.rec (motive := fun _ => St → Option (Ex × St)) (fun _ => none) (fun _ ih st => loopK ih (f st)) n
theorem loopK_eq (g : St → Option (Ex × St)) (o : Option (Ex × St)) : loopK g o = (match o with | some (.normal, st) => g st | r => r) := by
  cases o with
  | none => rfl
  | some p => obtain ⟨e, st⟩ := p; cases e <;> rfl
theorem runSeq_nil (C : Orc) (sl : T S) (rs : List S) (bx : T (List V)) (nb : Nat) (H : Heap) : runSeq C [] sl rs bx nb H = some ⟨sl, bx, nb, H⟩ := rfl
theorem runSeq_pu (C : Orc) (d : Option Nat) (g : Option (Opd × Bool)) (f : PSem) (pre : Nat) (os : List Io) (sl : T S) (rs : List S) (bx : T (List V)) (nb : Nat) (H : Heap) :
    runSeq C (.pu d g f pre :: os) sl rs bx nb H = (match runPu g f sl rs with
      | some s => runSeq C os (putS sl d s) (s :: rs) bx nb H
      | none => none) := by first | rfl | exact seqPK_eq _ _
theorem runSeq_me (C : Orc) (d : Option Nat) (g : Option (Opd × Bool)) (f : MSem) (pre : Nat) (os : List Io) (sl : T S) (rs : List S) (bx : T (List V)) (nb : Nat) (H : Heap) :
    runSeq C (.me d g f pre :: os) sl rs bx nb H = (match runMe C g f sl rs bx nb H with
      | some r => runSeq C os (putS sl d r.s) (r.s :: rs) r.bx r.nb r.hp
      | none => none) := by first | rfl | exact seqMK_eq _ _
theorem runAny_nil (C : Orc) (j : Nat) (h : Hist) (sl : T S) (rs : List S) (bx : T (List V)) (nb : Nat) (H : Heap) : runAny C [] j h sl rs bx nb H = some ⟨sl, bx, nb, H⟩ := rfl
theorem runAny_pu (C : Orc) (d : Option Nat) (g : Option (Opd × Bool)) (f : PSem) (pre : Nat) (os : List Io) (j : Nat) (hi : Hist) (sl : T S) (rs : List S) (bx : T (List V)) (nb : Nat) (H : Heap) :
    runAny C (.pu d g f pre :: os) j hi sl rs bx nb H = (match runPu g f sl rs with
      | some s => runAny C os (j + 1) hi (putS sl d s) (s :: rs) bx nb H
      | none => none) := by first | rfl | exact seqPK_eq _ _
theorem runAny_me (C : Orc) (d : Option Nat) (g : Option (Opd × Bool)) (f : MSem) (pre : Nat) (os : List Io) (j : Nat) (hi : Hist) (sl : T S) (rs : List S) (bx : T (List V)) (nb : Nat) (H : Heap) :
    runAny C (.me d g f pre :: os) j hi sl rs bx nb H = (match runMe C g f sl rs bx nb H with
      | some r => (match hi.add j pre r.fx with
        | some hi => runAny C os (j + 1) hi (putS sl d r.s) (r.s :: rs) r.bx r.nb r.hp
        | none => none)
      | none => none) := by
  first
    | rfl
    | (refine (seqMK_eq _ _).trans ?_
       cases runMe C g f sl rs bx nb H with
       | none => rfl
       | some r => exact histK_eq _ _)
theorem loopN_zero (f : St → Option (Ex × St)) (st : St) : loopN f 0 st = none := rfl
theorem loopN_succ (f : St → Option (Ex × St)) (n : Nat) (st : St) : loopN f (n + 1) st = (match f st with
    | some (.normal, st) => loopN f n st
    | r => r) := by first | rfl | exact loopK_eq _ _

noncomputable def normK (o : Option St) : Option (Ex × St) := Option.rec (motive := fun _ => Option (Ex × St)) none (fun st => some (.normal, st)) o
theorem normK_eq (o : Option St) : normK o = (match o with | some st => some (.normal, st) | none => none) := by cases o <;> rfl
def boolOf : Option V → Option Bool
  | some (.b x) => some x
  | _ => none
noncomputable def condK (t e : Option (Ex × St)) (o : Option Bool) : Option (Ex × St) :=
  Option.rec (motive := fun _ => Option (Ex × St)) none (fun x => Bool.rec (motive := fun _ => Option (Ex × St)) e t x) o
theorem condK_eq (t e : Option (Ex × St)) (o : Option V) : condK t e (boolOf o) = (match o with | some (.b true) => t | some (.b false) => e | _ => none) := by
  cases o with
  | none => rfl
  | some v => cases v with
    | b x => cases x <;> rfl
    | _ => rfl
noncomputable def blockK (id : Nat) (o : Option (Ex × St)) : Option (Ex × St) :=
  Option.rec (motive := fun _ => Option (Ex × St)) none
    (fun p => Ex.rec (motive := fun _ => Option (Ex × St)) (some (.normal, p.2)) (fun j => bif Nat.beq j id then some (.normal, p.2) else some (.exit j, p.2)) (some (.ret, p.2)) p.1) o
theorem blockK_eq (id : Nat) (o : Option (Ex × St)) : blockK id o = (match o with | some (.exit j, st) => bif Nat.beq j id then some (.normal, st) else some (.exit j, st) | r => r) := by
  cases o with
  | none => rfl
  | some p => obtain ⟨e, st⟩ := p; cases e <;> rfl
noncomputable def exec (C : Orc) (n : Nat) (c : Cd) : St → Option (Ex × St) :=
  Cd.rec (motive := fun _ => St → Option (Ex × St))
    (fun st => some (.normal, st))
    (fun ops draw st => normK (Bool.rec (motive := fun _ => Option St) (runSeq C ops st.sl [] st.bx st.nb st.hp) (runAny C ops 0 Hist.none st.sl [] st.bx st.nb st.hp) draw))
    (fun _ _ ia ib st => loopK ib (ia st))
    (fun c _ _ it ie st => condK (it st) (ie st) (boolOf (evV ⟨st.sl, []⟩ c)))
    (fun id _ ib st => blockK id (ib st))
    (fun _ ib st => loopN ib n st)
    (fun id st => some (.exit id, st))
    (fun st => some (.ret, st)) c
theorem exec_skip (C : Orc) (n : Nat) (st : St) : exec C n .skip st = some (.normal, st) := rfl
theorem exec_reg (C : Orc) (n : Nat) (ops : List Io) (draw : Bool) (st : St) : exec C n (.reg ops draw) st =
    (match (match draw with | true => runAny C ops 0 Hist.none st.sl [] st.bx st.nb st.hp | false => runSeq C ops st.sl [] st.bx st.nb st.hp) with
    | some st => some (.normal, st)
    | none => none) := by
  cases draw <;> first | rfl | exact normK_eq _
theorem exec_seq (C : Orc) (n : Nat) (a b : Cd) (st : St) : exec C n (.seq a b) st = (match exec C n a st with
    | some (.normal, st) => exec C n b st
    | r => r) := by first | rfl | exact loopK_eq _ _
theorem exec_cond (C : Orc) (n : Nat) (c : Opd) (t e : Cd) (st : St) : exec C n (.cond c t e) st = (match evV ⟨st.sl, []⟩ c with
    | some (.b true) => exec C n t st
    | some (.b false) => exec C n e st
    | _ => none) := by first | rfl | exact condK_eq _ _ _
theorem exec_block (C : Orc) (n id : Nat) (b : Cd) (st : St) : exec C n (.block id b) st = (match exec C n b st with
    | some (.exit j, st) => bif Nat.beq j id then some (.normal, st) else some (.exit j, st)
    | r => r) := by first | rfl | exact blockK_eq _ _
theorem exec_loop (C : Orc) (n : Nat) (b : Cd) (st : St) : exec C n (.loop b) st = loopN (exec C n b) n st := rfl
theorem exec_exit (C : Orc) (n id : Nat) (st : St) : exec C n (.exit id) st = some (.exit id, st) := rfl
theorem exec_ret (C : Orc) (n : Nat) (st : St) : exec C n .ret st = some (.ret, st) := rfl

noncomputable def resOf (st : St) : Rs → Option V
  | .tmp t => match st.sl.get t with
    | some (.v v) => some v
    | _ => none
  | .cell t n ag => match st.sl.get t with
    | some (.lp g o) => match st.bx.get g with
      | some cs => cutV cs o n ag
      | none => none
    | some (.v (.p (some (b, o)))) => match st.hp.bl.get b with
      | some (.cells cs _ _) => cutV cs o n ag
      | none => none
    | _ => none
noncomputable def resL (st : St) : List Rs → Option (List V)
  | [] => some []
  | r :: rs => match resOf st r with
    | none => none
    | some v => match resL st rs with
      | none => none
      | some vs => some (v :: vs)
def tupV : Option (List V) → Option V
  | some [v] => some v
  | some vs => some (.tup vs)
  | none => none
noncomputable def resV (st : St) (rs : List Rs) : Option V := tupV (resL st rs)

def loOut (nx : Nat) : Option Nat → Option Nat
  | none => none
  | some b => bif Nat.blt b nx then some b else none

noncomputable def start (args : List V) (H : Heap) : St := ⟨T.ofList (args.map S.v), .e, 0, { H with lo := none }⟩
def endV (nx : Nat) (st : St) : Option V → Option (V × Heap)
  | some v => some (v, { st.hp with lo := loOut nx st.hp.lo })
  | none => none
noncomputable def finish (nx : Nat) (res : List Rs) : Option (Ex × St) → Option (V × Heap)
  | some (.exit _, _) => none
  | some (.normal, st) => endV nx st (resV st res)
  | some (.ret, st) => endV nx st (resV st res)
  | none => none
noncomputable def callB (C : Orc) (n : Nat) (args : List V) (H : Heap) : Option Fn → Option (V × Heap)
  | none => none
  | some fn => match lenIs args fn.np with
    | true => finish H.nx fn.res (exec C n fn.body (start args H))
    | false => none
noncomputable def callN (E : Nat → Option Fn) (n : Nat) : Orc :=
  Nat.rec (motive := fun _ => Orc) (fun _ _ _ => none) (fun n ih f args H => callB ih n args H (E f)) n
theorem callN_zero (E : Nat → Option Fn) (f : Nat) (args : List V) (H : Heap) : callN E 0 f args H = none := rfl
theorem callN_succ (E : Nat → Option Fn) (n f : Nat) (args : List V) (H : Heap) : callN E (n + 1) f args H = callB (callN E n) n args H (E f) := rfl
end Am
