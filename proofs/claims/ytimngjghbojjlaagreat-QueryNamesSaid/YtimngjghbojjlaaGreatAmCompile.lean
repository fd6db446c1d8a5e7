/-
The abstract machine's code out of the model's: a translation operation by operation; what it does not take it refuses.
-/
import Derived.Test.YtimngjghbojjlaaGreatAmBase
import GoSem.Dispatch
namespace Am
open Go (IntKind FloatKind BinOp UnOp Value Operand Oper Op Code Func Program TypeDesc TypeInfo TypeId Callee Builtin ResultVar)

/-! ## Constants -/
def constS : Value → Option V
  | .bool b => some (.b b)
  | .int k n => some (.i k n)
  | .float .f64 w => some (.f (canon w))
  | .complex .f64 a b => some (.c (canon a) (canon b))
  | .pointer none => some (.p none)
  | .slice none l c => some (.s none l c)
  | .nilFunc => some .nilFn
  | .nilIface => some .nilI
  | _ => none
def constL : List Value → Option (List V)
  | [] => some []
  | v :: vs => match constS v with
    | none => none
    | some x => consO x (constL vs)
def constV (v : Value) : Option V :=
  match v with
  | .agg cs => match constL cs.toList with
    | some cs => some (.agg cs)
    | none => none
  | v => constS v

/-! ## Operands -/
/-- What the operations ahead in a region write, the last one first. -/
abbrev Ws := List (Option Nat)
/-- The same; and which registers may be read (bits; none: all). -/
structure Wr where
  l : Ws
  m : Option Nat
def sees (m : Option Nat) (t : Nat) : Bool := match m with | none => true | some m => m.testBit t
/-- Where a register's value stands: among the results of its own region, or in the frame. -/
def isD (t : Nat) (w : Option Nat) : Bool := match w with | some d => Nat.beq d t | none => false
def findW (t : Nat) : Ws → Nat → Option Nat
  | [], _ => none
  | w :: ws, k => bif isD t w then some k else findW t ws (Nat.succ k)
def opdT (t : Nat) (o : Option Nat) : Opd :=
  match o with
  | some k => .r k
  | none => .v t
def opd (wr : Wr) (x : Operand) : Option Opd :=
  match x with
  | .tmp t => bif sees wr.m t then some (opdT t (findW t wr.l 0)) else none
  | .const v => match constV v with
    | some v => some (.k v)
    | none => none
  | .func f => some (.k (.fn f [] []))
  | .global _ => none
def opdL (wr : Wr) : List Operand → Option (List Opd)
  | [] => some []
  | x :: xs => match opd wr x with
    | none => none
    | some y => consO y (opdL wr xs)
def opdO (wr : Wr) (o : Option Operand) : Option (Option Opd) :=
  match o with
  | none => some none
  | some x => match opd wr x with
    | some y => some (some y)
    | none => none
def opdP (wr : Wr) (place : Nat → Option (Nat × Nat)) : List (Nat × Operand) → Option (List (Nat × Nat × Opd))
  | [] => some []
  | (i, x) :: xs => match place i with
    | some (off, n) => match opd wr x with
      | some y => consO (off, n, y) (opdP wr place xs)
      | none => none
    | none => none

/-! ## Types -/
abbrev TT := T TypeInfo
abbrev FT := T Func
noncomputable def undD (tt : TT) (d : TypeDesc) : Option TypeDesc :=
  match d with
  | .named _ u => match tt.get u with
    | some i => some i.desc
    | none => none
  | d => some d
noncomputable def und (tt : TT) (t : TypeId) : Option TypeDesc :=
  match tt.get t with
  | some i => undD tt i.desc
  | none => none
noncomputable def tySize (tt : TT) (t : TypeId) : Option Nat :=
  match tt.get t with
  | some i => some i.size
  | none => none
def isAggD (d : TypeDesc) : Bool :=
  match d with
  | .struct _ => true
  | .array _ _ => true
  | _ => false
noncomputable def tyAgg (tt : TT) (t : TypeId) : Option Bool :=
  match und tt t with
  | some d => some (isAggD d)
  | none => none
noncomputable def tyZero (tt : TT) (t : TypeId) : Option (List V) :=
  match tt.get t with
  | some i => match i.zero with
    | some z => constL z.cells.toList
    | none => none
  | none => none
noncomputable def tyBytes (tt : TT) (t : TypeId) : Option Nat :=
  match tt.get t with
  | some i => some i.bytes
  | none => none
/-- Size and kind of a variable of a type; what is no struct or array has one cell. -/
def varOf (n : Nat) (ag : Bool) : Option (Nat × Bool) :=
  match ag with
  | true => some (n, true)
  | false => bif Nat.beq n 1 then some (1, false) else none
noncomputable def tyVar (tt : TT) (t : TypeId) : Option (Nat × Bool) :=
  match tySize tt t with
  | some n => match tyAgg tt t with
    | some ag => varOf n ag
    | none => none
  | none => none
noncomputable def tyPlaces (tt : TT) : List Go.Field → Option (List (Nat × Nat))
  | [] => some []
  | f :: fs => match tySize tt f.type with
    | none => none
    | some n => consO (f.offset, n) (tyPlaces tt fs)

noncomputable def eqF (tt : TT) (rec : TypeId → Option Sh) : List Go.Field → Option (List (Nat × Nat × Bool × Sh))
  | [] => some []
  | f :: fs => bif decide (f.name = "_") then none else match tyVar tt f.type with
    | some (n, ag) => match rec f.type with
      | some sh => consO (f.offset, n, ag, sh) (eqF tt rec fs)
      | none => none
    | none => none
def mapSh (o : Option (List (Nat × Nat × Bool × Sh))) : Option Sh :=
  match o with
  | some l => some (.node l)
  | none => none
noncomputable def eqSh (P : Program) (tt : TT) : Nat → TypeId → Option Sh
  | 0, _ => none
  | d + 1, t =>
    match und tt t with
    | some .bool => some (.leaf .b)
    | some (.int _) => some (.leaf .i)
    | some (.float _) => some (.leaf .f)
    | some (.complex _) => some (.leaf .c)
    | some (.struct fs) => bif P.stoodInHeld t then none else mapSh (eqF tt (eqSh P tt d) fs.toList)
    | some (.array len e) => match tyVar tt e with
      | some (n, ag) => match eqSh P tt d e with
        | some sh => some (.node ((List.range len).map fun i => (i * n, n, ag, sh)))
        | none => none
      | none => none
    | _ => none

noncomputable def isSlice (tt : TT) (t : TypeId) : Option TypeId :=
  match und tt t with
  | some (.slice e) => some e
  | _ => none

/-- The functions behind a method of interface values whose dynamic type is one of some. -/
def methOf (t : Nat) (m : Option Go.Method) (rest : List (Nat × Nat)) : List (Nat × Nat) :=
  match m with
  | some m => match m.path.toList with
    | [] => match m.func with
      | some (f, false) => (t, f) :: rest
      | _ => rest
    | _ => rest
  | none => rest
def isPtr (d : TypeDesc) : Bool := match d with | .pointer _ => true | _ => false
noncomputable def methTbl (tt : TT) (name : String) : List TypeId → List (Nat × Nat)
  | [] => []
  | t :: ts =>
    match tt.get t with
    | some i => match undD tt i.desc with
      | some u => bif isPtr u then methTbl tt name ts else methOf t (i.methods.toList.find? (·.name == name)) (methTbl tt name ts)
      | none => methTbl tt name ts
    | none => methTbl tt name ts

/-! ## Operations -/
/-- What an operation comes to: one of registers alone, one of memory. -/
inductive Sm where
  | p (f : PSem)
  | m (f : MSem)

noncomputable def c1 (f : Opd → PSem) (x : Option Opd) : Option Sm := match x with | some x => some (.p (f x)) | none => none
noncomputable def c2 (f : Opd → Opd → PSem) (x y : Option Opd) : Option Sm :=
  match x with
  | some x => match y with
    | some y => some (.p (f x y))
    | none => none
  | none => none
noncomputable def cPick (c a b : Option Opd) : Option Sm := match c with | some c => c2 (pPick c) a b | none => none
noncomputable def eqsP (neg : Bool) (o : Option Sh) (x y : Opd) : Option Sm := match o with | some sh => some (.p (pEqs neg sh x y)) | none => none
noncomputable def compileEq (P : Program) (tt : TT) (neg : Bool) (t : TypeId) (x y : Opd) : Option Sm :=
  match und tt t with
  | some .bool => some (.p (pBeq neg x y))
  | some (.int _) => some (.p (pBin (bif neg then .neq else .eql) x y))
  | some (.float _) => some (.p (pBin (bif neg then .neq else .eql) x y))
  | some (.complex _) => some (.p (pBin (bif neg then .neq else .eql) x y))
  | some (.pointer _) => some (.p (pPeq neg x y))
  | some (.slice _) => some (.p (pSnl neg x y))
  | some (.struct _) => bif P.eqGuardType P.depth t then none else eqsP neg (eqSh P tt 9 t) x y
  | some (.array _ _) => bif P.eqGuardType P.depth t then none else eqsP neg (eqSh P tt 9 t) x y
  | _ => none
noncomputable def cBin (P : Program) (tt : TT) (b : BinOp) (t : TypeId) (x y : Option Opd) : Option Sm :=
  match x with
  | some x => match y with
    | some y => match b with
      | .eql => compileEq P tt false t x y
      | .neq => compileEq P tt true t x y
      | b => some (.p (pBin b x y))
    | none => none
  | none => none

noncomputable def cApp (tt : TT) (t u : TypeId) (x y : Opd) : Option Sm :=
  match isSlice tt t with
  | some e => match isSlice tt u with
    | some _ => match tySize tt e with
      | some n => match tyBytes tt e with
        | some bytes => match tyZero tt e with
          | some z => bif lenIs z n && (Nat.blt 0 n && Nat.blt 0 bytes) then some (.m (mApp x y n bytes)) else none
          | none => none
        | none => none
      | none => none
    | none => none
  | none => none
noncomputable def cCpy (tt : TT) (t : TypeId) (x y : Opd) : Option Sm :=
  match isSlice tt t with
  | some e => match tySize tt e with
    | some n => some (.m (mCpy x y n))
    | none => none
  | none => none
noncomputable def compileBuiltin (tt : TT) (b : Builtin) (tys : List TypeId) (args : List Opd) : Option Sm :=
  match args with
  | [x] => match b with
    | .len => match tys with
      | t :: _ => match isSlice tt t with
        | some _ => some (.p (pLen x))
        | none => none
      | [] => none
    | .real => some (.p (pRe x))
    | .imag => some (.p (pIm x))
    | _ => none
  | [x, y] => match b with
    | .append => match tys with
      | [t, u] => cApp tt t u x y
      | _ => none
    | .copy => match tys with
      | t :: _ => cCpy tt t x y
      | [] => none
    | .min => some (.p (pMm false x y))
    | .max => some (.p (pMm true x y))
    | .complex => some (.p (pCx x y))
    | _ => none
  | _ => none
noncomputable def cExt (name : String) (args : List Opd) : Option Sm :=
  match args with
  | [x] =>
    bif name == "math.sqrt" then some (.p (pSqrt x))
    else bif name == "math.Float64bits" then some (.p (pFbits x))
    else bif name == "math.Float64frombits" then some (.p (pFfrom x))
    else none
  | _ => none
noncomputable def cFun (ft : FT) (f : Nat) (args : List Opd) : Option Sm :=
  match ft.get f with
  | none => none
  | some fn => match fn.body with
    | some _ => some (.m (mCall (.k (.fn f [] [])) args))
    | none => bif fn.origin == "" then cExt fn.name args else none
noncomputable def compileCall (tt : TT) (ft : FT) (wr : Wr) (mt : List TypeId) (c : Go.Call) : Option Sm :=
  match opdL wr c.args.toList with
  | none => none
  | some args =>
    match c.callee with
    | .builtin b => compileBuiltin tt b c.argTypes.toList args
    | .invoke r name => match opd wr r with
      | some x => some (.m (mMeth x (methTbl tt name mt) args))
      | none => none
    | .value (.func f) => cFun ft f args
    | .value g => match opd wr g with
      | some g => some (.m (mCall g args))
      | none => none

noncomputable def cAlloc (tt : TT) (lo : Bool) (e : TypeId) : Option Sm :=
  match tyZero tt e with
  | some z => some (.m (match lo with | true => mLnew z | false => mHnew z))
  | none => none
noncomputable def cBox (lo : Bool) (x : Option Opd) : Option Sm :=
  match x with
  | some x => some (.m (match lo with | true => mLbox x | false => mHbox x))
  | none => none
noncomputable def bldP (z : List V) (o : Option (List (Nat × Nat × Opd))) : Option Sm := match o with | some ps => some (.p (pBld z ps)) | none => none
noncomputable def cBuild (tt : TT) (wr : Wr) (t : TypeId) (ps : List (Nat × Operand)) : Option Sm :=
  match tyZero tt t with
  | some z => match und tt t with
    | some (.struct fs) => match tyPlaces tt fs.toList with
      | some pl => bldP z (opdP wr (fun i => nth pl i) ps)
      | none => none
    | some (.array _ e) => match tySize tt e with
      | some n => bldP z (opdP wr (fun i => some (Nat.mul i n, n)) ps)
      | none => none
    | _ => none
  | none => none
noncomputable def bslM (len : Nat) (z : List V) (o : Option (List (Nat × Nat × Opd))) : Option Sm := match o with | some ps => some (.m (mBsl len z ps)) | none => none
noncomputable def cBsl (tt : TT) (wr : Wr) (t : TypeId) (len : Nat) (ps : List (Nat × Operand)) : Option Sm :=
  match isSlice tt t with
  | some e => match tySize tt e with
    | some n => match tyZero tt e with
      | some z => bif Nat.ble (Nat.mul len n) 16777216 && (lenIs z n && Nat.blt 0 n) then bslM len (List.replicate len z).flatten (opdP wr (fun i => some (Nat.mul i n, n)) ps) else none
      | none => none
    | none => none
  | none => none
noncomputable def cLd (v : Option (Nat × Bool)) (x : Option Opd) : Option Sm :=
  match v with
  | some (n, ag) => match x with
    | some x => some (.m (mLd x n ag))
    | none => none
  | none => none
noncomputable def cSt (n : Option Nat) (x v : Option Opd) : Option Sm :=
  match n with
  | some n => match x with
    | some x => match v with
      | some v => some (.m (mSt x v n))
      | none => none
    | none => none
  | none => none
noncomputable def cConv (s d : Option TypeDesc) (x : Option Opd) : Option Sm :=
  match s with
  | some (.int _) => match d with
    | some (.int k) => c1 (pCvi k) x
    | some (.float .f64) => c1 pCvf x
    | _ => none
  | some (.float .f64) => match d with
    | some (.float .f64) => c1 pIdf x
    | _ => none
  | some (.complex .f64) => match d with
    | some (.complex .f64) => c1 pIdc x
    | _ => none
  | _ => none
noncomputable def cIfc (d : Option TypeDesc) (t : TypeId) (x : Option Opd) : Option Sm :=
  match d with
  | some (.interface _) => none
  | some _ => c1 (pIfc t) x
  | none => none
noncomputable def cMkf (fn : Go.Fn) (first caps : Option (List Opd)) : Option Sm :=
  match fn with
  | .func f => match first with
    | some a => match caps with
      | some c => some (.p (pMkf f a c))
      | none => none
    | none => none
  | _ => none
noncomputable def cMsl (tt : TT) (t : TypeId) (l c : Option Opd) : Option Sm :=
  match isSlice tt t with
  | some e => match tySize tt e with
    | some n => match tyBytes tt e with
      | some bytes => match tyZero tt e with
        | some z => bif lenIs z n && Nat.blt 0 n then (match l with
          | some l => match c with
            | some c => some (.m (mMsl l c bytes z))
            | none => none
          | none => none) else none
        | none => none
      | none => none
    | none => none
  | none => none
noncomputable def cSlc (tt : TT) (t : TypeId) (x : Option Opd) (lo hi mx : Option (Option Opd)) : Option Sm :=
  match x with
  | some x => match lo with
    | some lo => match hi with
      | some hi => match mx with
        | some mx => match und tt t with
          | some (.slice e) => match tySize tt e with
            | some n => some (.m (mSlc x lo hi mx n))
            | none => none
          | some (.array len e) => match tySize tt e with
            | some n => some (.p (pSla x len lo hi mx n))
            | none => none
          | _ => none
        | none => none
      | none => none
    | none => none
  | none => none
noncomputable def cFld (tt : TT) (s : TypeId) (f : Nat) (x : Option Opd) : Option Sm :=
  match und tt s with
  | some (.struct fs) => match nth fs.toList f with
    | some f => match tySize tt f.type with
      | some (_ + 1) => c1 (fun x => pFld x f.offset) x
      | _ => none
    | none => none
  | _ => none
noncomputable def cPart (tt : TT) (s : TypeId) (f : Nat) (x : Option Opd) : Option Sm :=
  match und tt s with
  | some (.struct fs) => match nth fs.toList f with
    | some f => match tyVar tt f.type with
      | some (n, ag) => c1 (fun x => pPart x f.offset n ag) x
      | none => none
    | none => none
  | _ => none
noncomputable def cIxa (tt : TT) (t : TypeId) (x i : Option Opd) : Option Sm :=
  match und tt t with
  | some (.slice e) => match tySize tt e with
    | some n => c2 (fun x i => pIxa x i n) x i
    | none => none
  | some (.array len e) => match tySize tt e with
    | some n => c2 (fun x i => pIxp x i len n) x i
    | none => none
  | _ => none
noncomputable def cIx (tt : TT) (wr : Wr) (t : TypeId) (x : Operand) (i : Option Opd) : Option Sm :=
  match und tt t with
  | some .string => match x with
    | .const (.string s) => c1 (pSix (s.data.toList.map UInt8.toNat)) i
    | _ => none
  | some (.array len e) => match tyVar tt e with
    | some (n, ag) => c2 (fun x i => pIxv x i len n ag) (opd wr x) i
    | none => none
  | _ => none

def isLoc (esc : Nat) (d : Option Nat) : Bool := match d with | some d => !(esc.testBit d) | none => false
/-- 'esc': the registers whose boxes leave the frame (bits); 'mt': the dynamic types of interface values whose methods are called. -/
noncomputable def compileOp (P : Program) (tt : TT) (ft : FT) (wr : Wr) (esc : Nat) (mt : List TypeId) (o : Oper) : Option Sm :=
  match o.op with
  | .move x => c1 pMov (opd wr x)
  | .assign x => c1 pMov (opd wr x)
  | .pick c a b => cPick (opd wr c) (opd wr a) (opd wr b)
  | .alloc e => cAlloc tt (isLoc esc o.dst) e
  | .box _ x => cBox (isLoc esc o.dst) (opd wr x)
  | .build t ps => cBuild tt wr t ps.toList
  | .buildSlice t len ps => cBsl tt wr t len ps.toList
  | .load t x => cLd (tyVar tt t) (opd wr x)
  | .store t x v => cSt (tySize tt t) (opd wr x) (opd wr v)
  | .nilCheck x => c1 pChk (opd wr x)
  | .binOp b t x y _ => cBin P tt b t (opd wr x) (opd wr y)
  | .unOp u _ x => c1 (pUn u) (opd wr x)
  | .convert s t x => cConv (und tt s) (und tt t) (opd wr x)
  | .makeInterface t x => cIfc (und tt t) t (opd wr x)
  | .makeFunc fn first caps => cMkf fn (opdL wr first.toList) (opdL wr caps.toList)
  | .makeSlice t l c => cMsl tt t (opd wr l) (opd wr c)
  | .slice t x lo hi mx => cSlc tt t (opd wr x) (opdO wr lo) (opdO wr hi) (opdO wr mx)
  | .fieldAddr s x f => cFld tt s f (opd wr x)
  | .field s x f => cPart tt s f (opd wr x)
  | .indexAddr t x i => cIxa tt t (opd wr x) (opd wr i)
  | .index t x i => cIx tt wr t x (opd wr i)
  | .extract x i => c1 (fun x => pExt x i) (opd wr x)
  | .call c => compileCall tt ft wr mt c
  | _ => none

/-! ## Regions -/
/-- What must be done before, by the edges that bind in every order; the bits of the operations ahead. -/
def preE (acc : List Nat) (s : Nat) (e : Go.Edge) : Nat := bif Go.Region.binds .any e then Nat.lor s (Nat.lor (Nat.shiftLeft 1 e.on) (acc.getD e.on 0)) else s
def preOf (acc : List Nat) (o : Oper) : Nat := o.after.toList.foldl (preE acc) 0
def edgesOk (i : Nat) (o : Oper) : Bool := o.after.toList.all fun e => bif Go.Region.binds .any e then Nat.blt e.on i else true

/-- The guard: what the guarding operation came to. -/
def guardOf (i : Nat) (o : Oper) : Option (Option (Opd × Bool)) :=
  match o.guard with
  | none => some none
  | some (j, w) => bif Nat.blt j i then some (some (.r (Nat.sub (Nat.sub i 1) j), w)) else none
/-- A guarding operation has a register, and no operation behind it, up to the guarded one, writes it anew. -/
def guardD (wr : Ws) (k : Nat) (d : Option (Option Nat)) : Bool :=
  match d with
  | some (some d) => (match findW d wr 0 with | some k' => Nat.beq k' k | none => false)
  | _ => false
def guardOk (wr : Ws) (i : Nat) (o : Oper) : Bool :=
  match o.guard with
  | none => true
  | some (j, _) => guardD wr (Nat.sub (Nat.sub i 1) j) wr[Nat.sub (Nat.sub i 1) j]?

/-- Is a register kept in the frame? -/
def isVar (np vm t : Nat) : Bool := bif Nat.blt t np then true else vm.testBit t
def keep (np vm : Nat) (d : Option Nat) : Option Nat := match d with | some d => bif isVar np vm d then some d else none | none => none
def dstOk (nt : Nat) (d : Option Nat) : Bool := match d with | some d => Nat.blt d nt | none => true
/-- What the whole translation is told: the program; its tables; the escaping registers; the dynamic types; how many registers; how many parameters; the registers that are kept. -/
structure Cx where
  P : Program
  tt : TT
  ft : FT
  mt : List TypeId
  esc : Nat
  nt : Nat
  np : Nat
  vm : Nat
noncomputable def mkIO (d : Option Nat) (g : Option (Opd × Bool)) (pre : Nat) (s : Option Sm) : Option Io :=
  match s with
  | some (.p f) => some (.pu d g f pre)
  | some (.m f) => some (.me d g f pre)
  | none => none
noncomputable def compileIO (x : Cx) (wr : Wr) (o : Oper) (pre : Nat) (g : Option (Option (Opd × Bool))) : Option Io :=
  match g with
  | some g => mkIO (keep x.np x.vm o.dst) g pre (compileOp x.P x.tt x.ft wr x.esc x.mt o)
  | none => none
noncomputable def compileSeq (x : Cx) : List Oper → Nat → Ws → Option (List Io)
  | [], _, _ => some []
  | o :: os, i, wr =>
    bif dstOk x.nt o.dst && guardOk wr i o then
      match compileIO x ⟨wr, none⟩ o 0 (guardOf i o) with
      | none => none
      | some r => consO r (compileSeq x os (Nat.succ i) (o.dst :: wr))
    else none

/-- The registers that an operation names, as bits: those that it reads, the one that it writes. -/
def tmpBit (m : Nat) (x : Operand) : Nat := match x with | .tmp t => Nat.lor m (Nat.shiftLeft 1 t) | _ => m
def guardBit (wr : Ws) (i : Nat) (o : Oper) : Nat :=
  match o.guard with
  | some (j, _) => (match wr[Nat.sub (Nat.sub i 1) j]? with | some (some d) => Nat.shiftLeft 1 d | _ => 0)
  | none => 0
def readsOf (wr : Ws) (i : Nat) (o : Oper) : Nat := o.op.operands.toList.foldl tmpBit (guardBit wr i o)
def dstBit (d : Option Nat) : Nat := match d with | some d => Nat.shiftLeft 1 d | none => 0
/-- Of the operations ahead (what each reads, and writes), all that clash with one stand before it. -/
def meetB (a b : Nat) : Bool := !(Nat.beq (Nat.land a b) 0)
def slotsOk (pre r w : Nat) : List (Nat × Nat) → Nat → Bool
  | [], _ => true
  | (r', w') :: l, i => bif (bif meetB w (Nat.lor r' w') || meetB w' r then pre.testBit (Nat.sub i 1) else true) then slotsOk pre r w l (Nat.sub i 1) else false
noncomputable def compileAny (x : Cx) : List Oper → Nat → Ws → List Nat → List (Nat × Nat) → Option (List Io)
  | [], _, _, _, _ => some []
  | o :: os, i, wr, acc, rw =>
    bif (dstOk x.nt o.dst && guardOk wr i o) && (edgesOk i o && slotsOk (preOf acc o) (readsOf wr i o) (dstBit o.dst) rw i) then
      match compileIO x ⟨wr, some (readsOf wr i o)⟩ o (preOf acc o) (guardOf i o) with
      | none => none
      | some r => consO r (compileAny x os (Nat.succ i) (o.dst :: wr) (acc ++ [preOf acc o]) ((readsOf wr i o, dstBit o.dst) :: rw))
    else none

noncomputable def regD (draw : Bool) (o : Option (List Io)) : Option Cd := match o with | some os => some (.reg os draw) | none => none
noncomputable def compileRegion (x : Cx) (ops : List Oper) (draw : Bool) : Option Cd :=
  match draw with
  | true => regD true (compileAny x ops 0 [] [] [])
  | false => regD false (compileSeq x ops 0 [])

/-! ## Code, functions -/
noncomputable def cdSeq (a b : Option Cd) : Option Cd := match a with | some a => (match b with | some b => some (.seq a b) | none => none) | none => none
noncomputable def cdCond (c : Option Opd) (a b : Option Cd) : Option Cd :=
  match c with
  | some c => match a with
    | some a => match b with
      | some b => some (.cond c a b)
      | none => none
    | none => none
  | none => none
noncomputable def cdMap (f : Cd → Cd) (a : Option Cd) : Option Cd := match a with | some a => some (f a) | none => none
noncomputable def compileCode (x : Cx) : Code → Option Cd
  | .skip => some .skip
  | .region _ ops draw => compileRegion x ops.toList draw
  | .seq a b => cdSeq (compileCode x a) (compileCode x b)
  | .cond c t e => cdCond (opd ⟨[], none⟩ c) (compileCode x t) (compileCode x e)
  | .block id b => cdMap (.block id) (compileCode x b)
  | .loop b => cdMap .loop (compileCode x b)
  | .exit id => some (.exit id)
  | .scope b => compileCode x b
  | .label _ => some .skip
  | .ret => some .ret
  | _ => none

def cellOf (a : Nat) (v : Option (Nat × Bool)) : Option Rs := match v with | some (n, ag) => some (.cell a n ag) | none => none
noncomputable def compileR (tt : TT) (r : ResultVar) : Option Rs :=
  match r with
  | .tmp t => some (.tmp t)
  | .cell a t => cellOf a (tyVar tt t)
noncomputable def compileRes (tt : TT) : List ResultVar → Option (List Rs)
  | [] => some []
  | r :: rs => match compileR tt r with
    | none => none
    | some r => consO r (compileRes tt rs)

noncomputable def mkFn (np : Nat) (b : Option Cd) (rs : Option (List Rs)) : Option Fn :=
  match b with
  | some b => match rs with
    | some rs => some ⟨np, b, rs⟩
    | none => none
  | none => none
/-- 'esc', 'vm': see Cx. -/
noncomputable def compileFn (P : Program) (tt : TT) (ft : FT) (mt : List TypeId) (esc vm : Nat) (f : Func) : Option Fn :=
  match f.body with
  | none => none
  | some b => bif f.name == "runtime.NumGoroutine" || Nat.blt f.ntmps (f.params.size + f.nfree) then none else
    mkFn (f.params.size + f.nfree) (compileCode ⟨P, tt, ft, mt, esc, f.ntmps, f.params.size + f.nfree, vm⟩ b) (compileRes tt f.results.toList)

noncomputable def typeT (P : Program) : TT := T.ofList P.types.toList
noncomputable def funcT (P : Program) : FT := T.ofList P.funcs.toList
/-- A function's escaping registers, and the registers that it keeps: a table out of the outside; it need not be right. -/
abbrev Masks := T (Nat × Nat)
noncomputable def masksOfList (t : Masks) : List (Nat × Nat × Nat) → Masks
  | [] => t
  | (k, a, b) :: l => masksOfList (t.set k (a, b)) l
noncomputable def env (P : Program) (mt : List TypeId) (mk : Masks) (f : Nat) : Option Fn :=
  match (funcT P).get f with
  | none => none
  | some fn => match mk.get f with
    | some (esc, vm) => compileFn P (typeT P) (funcT P) mt esc vm fn
    | none => none
end Am
