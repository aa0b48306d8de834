/- Part 1 of the proof that this seat's laws lean on: an abstract machine over the model's code, its soundness, and what it says of this program. -/
import GoSem.Dispatch

section
set_option linter.unusedSimpArgs false
set_option linter.unusedVariables false
/-! The abstract machine: its values, its states, and what one function's code does on them. Plain definitions, over any program. -/
set_option autoImplicit false
namespace Go.Ab

/-- Data that nobody writes any more. A list bears its elements' type; a row is an element's cells. -/
inductive Dat where
  | int (k : IntKind) (n : Int)
  | bool (b : Bool)
  | str (s : List UInt8)
  | lst (e : TypeId) (rows : List (List Dat))
  | fn (f : FuncId) (caps : List Dat)
  | nilF
  | ifc (t : TypeId) (cells : List Dat)
  | nilI
  | nilP
  | ref (e : TypeId) (row : List Dat)

namespace Dat
noncomputable def i : Dat → Int | .int _ n => n | _ => 0
noncomputable def b : Dat → Bool | .bool b => b | _ => false
noncomputable def s : Dat → List UInt8 | .str s => s | _ => []
noncomputable def l : Dat → List (List Dat) | .lst _ r => r | _ => []
noncomputable def fid : Dat → Nat | .fn f _ => f | _ => 0
noncomputable def fcaps : Dat → List Dat | .fn _ c => c | _ => []
noncomputable def isFn : Dat → Bool | .fn _ _ => true | _ => false
noncomputable def it : Dat → Nat | .ifc t _ => t | _ => 0
noncomputable def ic : Dat → List Dat | .ifc _ c => c | _ => []
noncomputable def isIfc : Dat → Bool | .ifc _ _ => true | _ => false
noncomputable def isNilI : Dat → Bool | .nilI => true | _ => false
noncomputable def isNilF : Dat → Bool | .nilF => true | _ => false
end Dat

/-- What a temporary may hold. -/
inductive AV where
  | d (x : Dat)
  | nils (e : TypeId)
  | own (e : TypeId) (rows : List (List Dat))
  | full (e : TypeId) (rows : List (List Dat))
  | alias (t : Nat)
  | ptr (id off : Nat)
  | dptr (e : TypeId) (off : Nat) (row : List Dat)
  | eptr (t : Nat) (e : TypeId) (i : Nat) (off : Nat)
  | agg (xs : List AV)
  | ifc (t : TypeId) (x : AV)
  | fn (f : FuncId) (caps : List AV)
  | tup (xs : List AV)
  | undef

structure St where
  tmps : List (Nat × AV)
  boxes : List (Nat × List AV)

inductive Ex where
  | normal | exit (id : Nat) | ret

/-- How a call ends: is the one result a row of the caller's own from now on; its results' types; their cells; what the variables handed on by address hold now (and is it a row of their own). -/
inductive Res where
  | ret (own : Bool) (ts : List TypeId) (rs : List Dat) (xs : List (List (Dat × Bool)))
  | panic (v : Dat)

abbrev Out := Option Res

inductive TK where
  | int (k : IntKind) | bool | string | slice (e : TypeId) | struct | pointer (e : TypeId) | func | iface | array (n : Nat) (e : TypeId) | map (k e : TypeId) | tuple (ts : List TypeId) | other

structure TyI where
  kind : TK
  size : Nat
  bytes : Nat
  fields : List (Nat × TypeId)
  cells : List TypeId
  zok : Bool
  eqok : Bool

noncomputable def tkOf : Option TypeDesc → TK
  | none => .other
  | some (.int k) => .int k
  | some .bool => .bool
  | some .string => .string
  | some (.slice e) => .slice e
  | some (.struct _) => .struct
  | some (.pointer e) => .pointer e
  | some (.func ..) => .func
  | some (.interface _) => .iface
  | some (.array n e) => .array n e
  | some (.map k e) => .map k e
  | some (.tuple ts) => .tuple ts.toList
  | some _ => .other

noncomputable def fieldsOf : Option TypeDesc → List (Nat × TypeId)
  | some (.struct fs) => fs.toList.map fun f => (f.offset, f.type)
  | _ => []

noncomputable def TK.isAgg : TK → Bool
  | .struct => true
  | .array _ _ => true
  | _ => false

noncomputable def TK.isVal : TK → Bool
  | .pointer _ => false
  | .other => false
  | _ => true

noncomputable def TK.isIface : TK → Bool
  | .iface => true
  | _ => false

noncomputable def TK.some : TK → Bool
  | .other => false
  | _ => true

noncomputable def TK.known : TK → Bool
  | .other => false
  | .tuple _ => false
  | _ => true

/-- The types of a type's cells. -/
noncomputable def leaves (P : Program) : Nat → TypeId → List TypeId
  | 0, _ => []
  | n + 1, t => match tkOf (P.underlying t) with
    | .struct => (fieldsOf (P.underlying t)).flatMap fun f => leaves P n f.2
    | .array m e => (List.replicate m (leaves P n e)).flatten
    | .tuple ts => ts.flatMap (leaves P n)
    | _ => [t]

noncomputable def kindOf (P : Program) (t : TypeId) : TK :=
  match P.info? t with
  | some _ => tkOf (P.underlying t)
  | none => .other

/-- Is a value the zero value of a kind of one cell? -/
noncomputable def zeroIs : TK → Value → Bool
  | .int k, .int k' n => decide (k = k') && decide (n = 0)
  | .bool, .bool b => !b
  | .string, .string s => s.data.toList.isEmpty
  | .slice _, .slice none l c => Nat.beq l 0 && Nat.beq c 0
  | .iface, .nilIface => true
  | .func, .nilFunc => true
  | .pointer _, .pointer none => true
  | .map _ _, .map none => true
  | _, _ => false

noncomputable def zerosAre (P : Program) : List TypeId → List Value → Bool
  | [], [] => true
  | t :: ts, v :: vs => zeroIs (kindOf P t) v && zerosAre P ts vs
  | _, _ => false

noncomputable def isAggV : Value → Bool
  | .agg _ => true
  | _ => false

/-- Is the type's zero value the one that its cells' types tell? -/
noncomputable def zokOf (P : Program) (t : TypeId) : Bool :=
  match P.info? t with
  | some i => match i.zero with
    | some z => zerosAre P (leaves P 20 t) z.cells.toList && Nat.beq i.size (leaves P 20 t).length && cond (isAggV z) (tkOf (P.underlying t)).isAgg (!(tkOf (P.underlying t)).isAgg)
    | none => false
  | none => false

noncomputable def basicTy : Option TypeDesc → Bool
  | some (.int _) => true
  | some .bool => true
  | some .string => true
  | _ => false

/-- Is it a struct of numbers, bools and strings alone, one cell each? -/
noncomputable def eqokOf (P : Program) (t : TypeId) : Bool :=
  match P.underlying t with
  | some (.struct fs) => decide (fs.toList.map (·.offset) = List.range fs.toList.length) && (fs.toList.all fun f => !(f.name == "_") && basicTy (P.underlying f.type)) && !(P.stoodInHeld t)
  | _ => false

noncomputable def tyOf (P : Program) (t : TypeId) : TyI :=
  match P.info? t with
  | some i => { kind := tkOf (P.underlying t), size := i.size, bytes := i.bytes, fields := fieldsOf (P.underlying t), cells := leaves P 20 t, zok := zokOf P t, eqok := eqokOf P t }
  | none => { kind := .other, size := 0, bytes := 0, fields := [], cells := [], zok := false, eqok := false }

/-- The method of a type's values, its receiver being the value itself. -/
noncomputable def methOf (P : Program) (t : TypeId) (name : String) : Option FuncId :=
  match P.info? t with
  | some i => match i.methods.find? (·.name == name) with
    | some m => match m.func with
      | some (f, false) => cond (m.path.toList.isEmpty && (tkOf (P.underlying t)).isVal) (some f) none
      | _ => none
    | none => none
  | none => none

abbrev Tys := TypeId → TyI

/-- What calls give; what the rest of the function gives, from a place on; how a call's end is taken. -/
abbrev TCD := FuncId → List AV → List (List AV) → Option Res
abbrev TCC := Nat → St → Option Res
abbrev TBD := (R : Type) → R → Bool → List TypeId → List (List AV) → (Dat → R) → (List Dat → List (List (Dat × Bool)) → R) → Option Res → R

abbrev TCI := String → Dat → List AV → List (List AV) → Option Res

structure Cfg : Type 1 where
  ty : Tys
  n : Nat
  CD : TCD
  CC : TCC
  CI : TCI
  meth : TypeId → String → Option FuncId
  live : Nat → Option (List (Nat × Nat) × List (Nat × Nat))
  flag : Nat → Nat
  bind : TBD

/-- Rows that are no slice's: a map's entries, a string that is ranged over. -/
noncomputable def isTag (e : TypeId) : Bool := Nat.ble 1000000 e
def mapTag (t : TypeId) : TypeId := 1000001 + t
def iterTag : TypeId := 1000000

/-! ### Lists of pairs -/
noncomputable def getA (k : Nat) (l : List (Nat × AV)) : AV :=
  l.rec (motive := fun _ => AV) .undef fun p _ ih => cond (Nat.beq k p.1) p.2 ih

noncomputable def getB (k : Nat) (l : List (Nat × List AV)) : Option (List AV) :=
  l.rec (motive := fun _ => Option (List AV)) none fun p _ ih => cond (Nat.beq k p.1) (some p.2) ih

noncomputable def setB (k : Nat) (v : List AV) (l : List (Nat × List AV)) : List (Nat × List AV) :=
  l.rec (motive := fun _ => List (Nat × List AV)) [(k, v)] fun p l ih => cond (Nat.beq k p.1) ((k, v) :: l) (p :: ih)

noncomputable def St.get (st : St) (t : Nat) : AV := getA t st.tmps
noncomputable def St.box (st : St) (id : Nat) : Option (List AV) := getB id st.boxes

/-- Does a value lead to the row of a temporary? -/
noncomputable def AV.refs (t : Nat) : AV → Bool
  | .alias u => Nat.beq t u
  | .eptr u _ _ _ => Nat.beq t u
  | _ => false

/-- A temporary is written; if it held a row of its own, what led there leads nowhere. -/
noncomputable def St.put (st : St) (t : Nat) (v : AV) : St :=
  match st.get t with
  | .own _ _ => ⟨(t, v) :: st.tmps.map (fun p => (p.1, cond (p.2.refs t) .undef p.2)), st.boxes⟩
  | _ => ⟨(t, v) :: st.tmps, st.boxes⟩

noncomputable def St.setBox (st : St) (id : Nat) (cs : List AV) : St := ⟨st.tmps, setB id cs st.boxes⟩

/-! ### Effects -/
structure Eff where
  v : AV
  tw : List (Nat × AV) := []
  uw : List (Nat × AV) := []
  bw : List (Nat × List AV) := []

noncomputable def putAll : List (Nat × AV) → St → St
  | [], st => st
  | p :: l, st => putAll l (st.put p.1 p.2)

noncomputable def updAll : List (Nat × AV) → St → St
  | [], st => st
  | p :: l, st => updAll l ⟨p :: st.tmps, st.boxes⟩

noncomputable def boxAll : List (Nat × List AV) → St → St
  | [], st => st
  | p :: l, st => boxAll l (st.setBox p.1 p.2)

noncomputable def St.putO (st : St) (dst : Option Nat) (v : AV) : St :=
  match dst with
  | some t => st.put t v
  | none => st

noncomputable def Eff.app (f : Eff) (dst : Option Nat) (st : St) : St := (boxAll f.bw (updAll f.uw (putAll f.tw st))).putO dst f.v

/-! ### Values -/
noncomputable def ofValue : Value → AV
  | .int k n => .d (.int k n)
  | .bool b => .d (.bool b)
  | .string s => .d (.str s.data.toList)
  | .nilIface => .d .nilI
  | .nilFunc => .d .nilF
  | .pointer none => .d .nilP
  | .slice none 0 0 => .nils 0
  | _ => .undef

noncomputable def coerce (k : TK) (x : Dat) : AV :=
  match k with
  | .int k => .d (.int k x.i)
  | .bool => .d (.bool x.b)
  | .string => .d (.str x.s)
  | .slice e => .d (.lst e x.l)
  | .iface => .d x
  | .func => .d x
  | _ => .undef

noncomputable def coerces (T : Tys) : List TypeId → Nat → List Dat → List AV
  | [], _, _ => []
  | t :: ts, j, xs => coerce (T t).kind (xs.getD j .nilP) :: coerces T ts (j + 1) xs

noncomputable def asCells : AV → List AV
  | .agg xs => xs
  | v => [v]

noncomputable def mkVal (k : TK) (xs : List AV) : AV := cond k.isAgg (.agg xs) (xs.headD .undef)

/-- A new variable's cells: a nil slice may be told as a row of its own. -/
noncomputable def freshCells (fl : Nat) (cs : List AV) : List AV :=
  match cs with
  | [.nils e] => cond (Nat.beq fl 3 && !(isTag e)) [.own e []] cs
  | _ => cs

/-- A value of one cell, as data. -/
noncomputable def toD1 : AV → Option Dat
  | .d x => some x
  | .nils e => some (.lst e [])
  | .full e r => some (.lst e r)
  | .dptr e off row => cond (Nat.beq off 0) (some (.ref e row)) none
  | _ => none

noncomputable def toDs (xs : List AV) : Option (List Dat) :=
  xs.rec (motive := fun _ => Option (List Dat)) (some []) fun x _ ih => match toD1 x, ih with
    | some a, some b => some (a :: b)
    | _, _ => none

noncomputable def isAggA : AV → Bool
  | .agg _ => true
  | _ => false

/-- Is a value of the kind, as far as its head tells? (functions and interface values as well) -/
noncomputable def headOk : TK → Dat → Bool
  | .int k, .int k' _ => decide (k = k')
  | .bool, .bool _ => true
  | .string, .str _ => true
  | .slice e, .lst e' _ => Nat.beq e e'
  | .func, .fn _ _ => true
  | .func, .nilF => true
  | .iface, .ifc _ _ => true
  | .iface, .nilI => true
  | .pointer _, .nilP => true
  | _, _ => false

noncomputable def headsOk (T : Tys) : List TypeId → List Dat → Bool
  | [], [] => true
  | t :: ts, x :: xs => headOk (T t).kind x && headsOk T ts xs
  | _, _ => false

/-- A value as data, if it is. -/
noncomputable def toD (T : Tys) : AV → Option (List Dat)
  | .agg xs => toDs xs
  | .ifc t x => match x with
    | .agg xs => match toDs xs with
      | some c => cond ((T t).kind.isAgg && headsOk T (T t).cells c) (some [.ifc t c]) none
      | none => none
    | x => match toD1 x with
      | some c => cond (!(T t).kind.isAgg && headsOk T (T t).cells [c]) (some [.ifc t [c]]) none
      | none => none
  | x => match toD1 x with
    | some c => some [c]
    | none => none

/-- A value of one cell that may stand in a struct or a variable. -/
noncomputable def isLeaf : AV → Bool
  | .d _ => true
  | .nils _ => true
  | .full _ _ => true
  | .ptr _ _ => true
  | .dptr _ _ _ => true
  | _ => false

/-- A function's value: data, if what it captured is. -/
noncomputable def mkFn (f : FuncId) (caps : List AV) : AV :=
  match toDs caps with
  | some c => .d (.fn f c)
  | none => .fn f caps

/-- The zero value's cells. -/
noncomputable def zeroCell (k : TK) : AV :=
  match k with
  | .int k => .d (.int k 0)
  | .bool => .d (.bool false)
  | .string => .d (.str [])
  | .slice e => .nils e
  | .iface => .d .nilI
  | .func => .d .nilF
  | .pointer _ => .d .nilP
  | _ => .undef

noncomputable def zeroCells (T : Tys) (t : TypeId) : List AV := (T t).cells.map fun u => zeroCell (T u).kind

/-! ### What one operation does -/
/-- A constant nil slice gets its type where it is used. -/
noncomputable def retype (k : TK) : AV → AV
  | .nils e => match k with | .slice e' => .nils e' | _ => .nils e
  | v => v

noncomputable def operand (get : Nat → AV) : Operand → AV
  | .tmp t => get t
  | .const v => ofValue v
  | .func f => .d (.fn f [])
  | .global _ => .undef

/-- An operand's value as others may share it: its own row is published (the writes of temporaries). -/
noncomputable def view (get : Nat → AV) (x : Operand) : AV :=
  match operand get x with
  | .own e r => cond (isTag e) .undef (.d (.lst e r))
  | .alias t => match get t with
    | .own e r => cond (isTag e) .undef (.d (.lst e r))
    | _ => .undef
  | v => v

noncomputable def pubs (get : Nat → AV) (x : Operand) : List (Nat × AV) :=
  match x with
  | .tmp t => match get t with
    | .own e r => cond (isTag e) [] [(t, .d (.lst e r))]
    | .alias u => match get u with
      | .own e r => cond (isTag e) [] [(u, .d (.lst e r))]
      | _ => []
    | _ => []
  | _ => []

noncomputable def views (get : Nat → AV) (xs : List Operand) : List AV := xs.map (view get)
noncomputable def pubss (get : Nat → AV) (xs : List Operand) : List (Nat × AV) := xs.flatMap (pubs get)

/-- A temporary that holds a row of its own. -/
noncomputable def ownTmp (get : Nat → AV) (x : Operand) : Option Nat :=
  match x with
  | .tmp t => match get t with
    | .own _ _ => some t
    | _ => none
  | _ => none

/-- No row of its own, no way to one. -/
noncomputable def noRow : AV → Bool
  | .own _ _ => false
  | .alias _ => false
  | .eptr _ _ _ _ => false
  | _ => true

/-- The rows of a slice that is only read here. -/
noncomputable def rowsOf (get : Nat → AV) (x : Operand) : Option (TypeId × List (List Dat)) :=
  match operand get x with
  | .own e r => cond (isTag e) none (some (e, r))
  | .full e r => some (e, r)
  | .d (.lst e r) => some (e, r)
  | .nils e => some (e, [])
  | .alias t => match get t with
    | .own e r => cond (isTag e) none (some (e, r))
    | _ => none
  | _ => none

/-- Whose row of its own is this operand? -/
noncomputable def ownerOf (get : Nat → AV) (x : Operand) : Option Nat :=
  match x with
  | .tmp t => match get t with
    | .own _ _ => some t
    | .alias u => match get u with
      | .own _ _ => some u
      | _ => none
    | _ => none
  | _ => none

section
variable {R : Type} (fail : R) (k : Eff → R)

noncomputable def binInt (op : BinOp) (ik : IntKind) (a b : Int) : R :=
  match op with
  | .add => k { v := .d (.int ik (ik.wrap (a + b))) }
  | .sub => k { v := .d (.int ik (ik.wrap (a - b))) }
  | .mul => k { v := .d (.int ik (ik.wrap (a * b))) }
  | .quo => cond (b == 0) fail (k { v := .d (.int ik (ik.wrap (a.tdiv b))) })
  | .rem => cond (b == 0) fail (k { v := .d (.int ik (a.tmod b)) })
  | .eql => k { v := .d (.bool (a == b)) }
  | .neq => k { v := .d (.bool (a != b)) }
  | .lss => k { v := .d (.bool (decide (a < b))) }
  | .leq => k { v := .d (.bool (decide (a ≤ b))) }
  | .gtr => k { v := .d (.bool (decide (a > b))) }
  | .geq => k { v := .d (.bool (decide (a ≥ b))) }
  | _ => fail

noncomputable def binStr (op : BinOp) (a b : List UInt8) : R :=
  match op with
  | .add => cond (decide (a.length + b.length ≤ 9223372036854775807)) (k { v := .d (.str (a ++ b)) }) fail
  | .eql => k { v := .d (.bool (a == b)) }
  | .neq => k { v := .d (.bool (!(a == b))) }
  | .lss => k { v := .d (.bool (Op.bytesLess a b)) }
  | .leq => k { v := .d (.bool (Op.bytesLess a b || a == b)) }
  | .gtr => k { v := .d (.bool (!(Op.bytesLess a b || a == b))) }
  | .geq => k { v := .d (.bool (!Op.bytesLess a b)) }
  | _ => fail

noncomputable def binAny (kd : TK) (op : BinOp) (x y : AV) : R :=
  match x, y with
  | .d (.int ik a), .d (.int jk b) => cond (decide (ik = jk)) (binInt fail k op ik a b) fail
  | .d (.str a), .d (.str b) => binStr fail k op a b
  | .d (.bool a), .d (.bool b) => match kd, op with
    | .bool, .eql => k { v := .d (.bool (a == b)) }
    | .bool, .neq => k { v := .d (.bool (!(a == b))) }
    | _, _ => fail
  | _, _ => fail

/-- Structs of numbers, bools and strings: are they equal? -/
noncomputable def eqCells (T : Tys) : List (Nat × TypeId) → List AV → List AV → Option Bool
  | [], [], [] => some true
  | f :: fs, .d (.int k a) :: xs, .d (.int k' b) :: ys => cond (decide (k = k') && headOk (T f.2).kind (.int k a)) ((eqCells T fs xs ys).map fun r => (a == b) && r) none
  | f :: fs, .d (.bool a) :: xs, .d (.bool b) :: ys => cond (headOk (T f.2).kind (.bool a)) ((eqCells T fs xs ys).map fun r => (a == b) && r) none
  | f :: fs, .d (.str a) :: xs, .d (.str b) :: ys => cond (headOk (T f.2).kind (.str a)) ((eqCells T fs xs ys).map fun r => (a == b) && r) none
  | _, _, _ => none

/-- Shifts, bits, structs' equality. -/
noncomputable def binSp (T : Tys) (t : TypeId) (op : BinOp) (x y : AV) : Option Dat :=
  match x, y with
  | .d (.int ik a), .d (.int jk b) => match op with
    | .shl => cond (decide (0 ≤ b)) (some (.int ik (ik.wrap (a * 2 ^ (min b.toNat ik.bits))))) none
    | .shr => cond (decide (0 ≤ b)) (some (.int ik (a.fdiv (2 ^ (min b.toNat ik.bits))))) none
    | .and => cond (decide (ik = jk)) (some (.int ik (ik.wrap ((BitVec.ofInt ik.bits a &&& BitVec.ofInt ik.bits b).toNat)))) none
    | .or => cond (decide (ik = jk)) (some (.int ik (ik.wrap ((BitVec.ofInt ik.bits a ||| BitVec.ofInt ik.bits b).toNat)))) none
    | .xor => cond (decide (ik = jk)) (some (.int ik (ik.wrap ((BitVec.ofInt ik.bits a ^^^ BitVec.ofInt ik.bits b).toNat)))) none
    | .andNot => cond (decide (ik = jk)) (some (.int ik (ik.wrap ((BitVec.ofInt ik.bits a &&& ~~~ BitVec.ofInt ik.bits b).toNat)))) none
    | _ => none
  | .agg xs, .agg ys => cond (T t).eqok (match op with
    | .eql => (eqCells T (T t).fields xs ys).map .bool
    | .neq => (eqCells T (T t).fields xs ys).map fun r => .bool (!r)
    | _ => none) none
  | _, _ => none

/-- An interface value held against the literal nil: which one, and is it asked whether they differ? -/
noncomputable def nilSide (kd : TK) (op : BinOp) (x y : Operand) : Option (Operand × Bool) :=
  match kd, op, x, y with
  | .iface, .eql, x, .const .nilIface => some (x, false)
  | .iface, .neq, x, .const .nilIface => some (x, true)
  | .iface, .eql, .const .nilIface, y => some (y, false)
  | .iface, .neq, .const .nilIface, y => some (y, true)
  | _, _, _, _ => none

/-- The index of an element: an int within the bounds. -/
noncomputable def atIndex (i : AV) (n : Nat) (kk : Nat → R) : R :=
  match i with
  | .d (.int _ i) => cond (decide (0 ≤ i) && decide (i < (n : Int))) (kk i.toNat) fail
  | _ => fail

noncomputable def bound (x : Option AV) (dflt top : Nat) (kk : Nat → R) : R :=
  match x with
  | none => kk dflt
  | some (.d (.int _ i)) => cond (decide (0 ≤ i) && decide (i ≤ (top : Int))) (kk i.toNat) fail
  | _ => fail
end

/-- The cells of a part, in a struct's cells. -/
noncomputable def fillCells (fs : List (Nat × TypeId)) : List (Nat × AV) → List AV → List AV
  | [], cs => cs
  | p :: ps, cs => fillCells fs ps (cs.take (fs.getD p.1 (0, 0)).1 ++ asCells p.2 ++ cs.drop ((fs.getD p.1 (0, 0)).1 + (asCells p.2).length))

/-- The rows of a slice's literal: all its elements are given, in their order. -/
noncomputable def partRows (T : Tys) : Nat → List (Nat × AV) → Option (List (List Dat))
  | _, [] => some []
  | i, p :: ps => cond (Nat.beq i p.1) (match toD T p.2 with
      | some c => (partRows T (i + 1) ps).map fun r => c :: r
      | none => none) none

/-- What is handed on by address in a call: pointers are numbered in their order; each variable once. -/
structure Ren where
  ids : List Nat

noncomputable def idL : AV → List Nat
  | .ptr id _ => [id]
  | _ => []

/-- The variables that a value leads to. -/
noncomputable def idsOf : AV → List Nat
  | .agg xs => xs.flatMap idL
  | .fn _ xs => xs.flatMap idL
  | .ifc _ x => match x with
    | .agg xs => xs.flatMap idL
    | x => idL x
  | x => idL x

noncomputable def idsOfs (xs : List AV) : List Nat := xs.flatMap idsOf

noncomputable def addId (id : Nat) : List Nat → List Nat
  | [] => [id]
  | x :: l => cond (Nat.beq id x) (x :: l) (x :: addId id l)

noncomputable def addIds : List Nat → List Nat → List Nat
  | [], acc => acc
  | x :: l, acc => addIds l (addId x acc)

/-- All variables that values lead to. -/
noncomputable def reach (box : Nat → Option (List AV)) : Nat → List Nat → List Nat
  | 0, acc => acc
  | n + 1, acc => reach box n (addIds (acc.flatMap fun id => match box id with | some cs => idsOfs cs | none => []) acc)

noncomputable def indexIn (id : Nat) : List Nat → Nat → Option Nat
  | [], _ => none
  | x :: l, i => cond (Nat.beq id x) (some i) (indexIn id l (i + 1))

noncomputable def renameL (ids : List Nat) : AV → AV
  | .ptr id off => match indexIn id ids 0 with
    | some i => .ptr i off
    | none => .undef
  | .d x => .d x
  | .nils e => .d (.lst e [])
  | .full e r => .d (.lst e r)
  | .own e r => .own e r
  | .dptr e o r => .dptr e o r
  | _ => .undef

noncomputable def rename (ids : List Nat) : AV → AV
  | .agg xs => .agg (xs.map (renameL ids))
  | .fn f xs => .fn f (xs.map (renameL ids))
  | .ifc t x => match x with
    | .agg xs => .ifc t (.agg (xs.map (renameL ids)))
    | x => .ifc t (renameL ids x)
  | x => renameL ids x

noncomputable def renames (ids : List Nat) (xs : List AV) : List AV := xs.map (rename ids)

/-- What a variable's cell holds behind a call that was handed its address. -/
noncomputable def backOk : List AV → List (Dat × Bool) → Bool
  | [], [] => true
  | .d (.int k _) :: xs, (.int k' _, false) :: ys => decide (k = k') && backOk xs ys
  | .d (.bool _) :: xs, (.bool _, false) :: ys => backOk xs ys
  | .d (.str _) :: xs, (.str _, false) :: ys => backOk xs ys
  | .d (.lst e _) :: xs, (.lst e' _, false) :: ys => Nat.beq e e' && backOk xs ys
  | .nils e :: xs, (.lst e' _, false) :: ys => Nat.beq e e' && backOk xs ys
  | .own e _ :: xs, (.lst e' _, true) :: ys => Nat.beq e e' && backOk xs ys
  | .ptr _ _ :: xs, (.nilP, false) :: ys => backOk xs ys
  | .d .nilI :: xs, (y, false) :: ys => (y.isIfc || y.isNilI) && backOk xs ys
  | .d (.ifc _ _) :: xs, (y, false) :: ys => (y.isIfc || y.isNilI) && backOk xs ys
  | .d .nilF :: xs, (_, false) :: ys => backOk xs ys
  | .d (.fn _ _) :: xs, (_, false) :: ys => backOk xs ys
  | _, _ => false

noncomputable def xat (xs : List (List (Dat × Bool))) (i j : Nat) : Dat := ((xs.getD i []).getD j (.nilP, false)).1

noncomputable def back (new : List (List (Dat × Bool))) (i : Nat) : Nat → List AV → List AV
  | _, [] => []
  | j, x :: xs => (match x with
      | .d (.int k _) => .d (.int k (xat new i j).i)
      | .d (.bool _) => .d (.bool (xat new i j).b)
      | .d (.str _) => .d (.str (xat new i j).s)
      | .d (.lst e _) => .d (.lst e (xat new i j).l)
      | .d _ => .d (xat new i j)
      | .nils e => .d (.lst e (xat new i j).l)
      | .own e _ => .own e (xat new i j).l
      | v => v) :: back new i (j + 1) xs

noncomputable def backsOk : List (List AV) → List (List (Dat × Bool)) → Bool
  | [], [] => true
  | x :: xs, y :: ys => backOk x y && backsOk xs ys
  | _, _ => false

/-- How a call's end is taken: 'own': a row of its own is expected; 'ts': the results' cells; 'olds': what the variables held before. -/
noncomputable def bindR (R : Type) (fail : R) (own : Bool) (ts : List TypeId) (olds : List (List AV)) (kp : Dat → R) (k : List Dat → List (List (Dat × Bool)) → R) : Option Res → R
  | some (.ret ow ts' rs xs) => cond ((!own || ow) && decide (ts' = ts) && backsOk olds xs) (k rs xs) fail
  | some (.panic v) => kp v
  | none => fail

/-- The types of a call's results. -/
noncomputable def resTys (T : Tys) (t : TypeId) : List TypeId :=
  match (T t).kind with
  | .tuple ts => ts
  | _ => [t]

noncomputable def resTup (T : Tys) : List TypeId → Nat → List Dat → List AV
  | [], _, _ => []
  | t :: ts, j, rs => mkVal (T t).kind (coerces T (T t).cells j rs) :: resTup T ts (j + (T t).cells.length) rs

noncomputable def resVal (T : Tys) (own : Bool) (t : TypeId) (rs : List Dat) : AV :=
  match (T t).kind with
  | .tuple [_] => .undef
  | .tuple ts => .tup (resTup T ts 0 rs)
  | .slice e => cond own (.own e (rs.getD 0 .nilP).l) (.d (.lst e (rs.getD 0 .nilP).l))
  | .map _ _ => cond own (.own (mapTag t) (rs.getD 0 .nilP).l) .undef
  | k => mkVal k (coerces T (T t).cells 0 rs)

noncomputable def backs (new : List (List (Dat × Bool))) : Nat → List Nat → List (List AV) → List (Nat × List AV)
  | i, id :: ids, o :: os => (id, back new i 0 o) :: backs new (i + 1) ids os
  | _, _, _ => []

noncomputable def isOwn : AV → Bool
  | .own _ _ => true
  | _ => false

noncomputable def pubCell : AV → AV
  | .own e r => cond (isTag e) .undef (.d (.lst e r))
  | v => v

/-- The first cells' own rows are published. -/
noncomputable def pubN (n : Nat) (cs : List AV) : List AV := (cs.take n).map pubCell ++ cs.drop n

def boxId (d : Nat) : Nat := 1000 + d

/-- All variables that variables lead to are there. -/
noncomputable def closedIn (ids : List Nat) (olds : List (List AV)) : Bool := olds.all fun o => (idsOfs o).all fun id => ids.any (Nat.beq id)

mutual
/-- Data that are the same. -/
noncomputable def eqD : Dat → Dat → Bool
  | .int k n, y => match y with
    | .int k' n' => decide (k = k') && decide (n = n')
    | _ => false
  | .bool b, y => match y with
    | .bool b' => b == b'
    | _ => false
  | .str s, y => match y with
    | .str s' => decide (s = s')
    | _ => false
  | .lst e rs, y => match y with
    | .lst e' rs' => decide (e = e') && eqRs rs rs'
    | _ => false
  | .fn f cs, y => match y with
    | .fn f' cs' => decide (f = f') && eqCs cs cs'
    | _ => false
  | .nilF, y => match y with
    | .nilF => true
    | _ => false
  | .ifc t cs, y => match y with
    | .ifc t' cs' => decide (t = t') && eqCs cs cs'
    | _ => false
  | .nilI, y => match y with
    | .nilI => true
    | _ => false
  | .nilP, y => match y with
    | .nilP => true
    | _ => false
  | .ref e cs, y => match y with
    | .ref e' cs' => decide (e = e') && eqCs cs cs'
    | _ => false
noncomputable def eqRs : List (List Dat) → List (List Dat) → Bool
  | [], y => match y with
    | [] => true
    | _ => false
  | r :: rs, y => match y with
    | [] => false
    | r' :: rs' => eqCs r r' && eqRs rs rs'
noncomputable def eqCs : List Dat → List Dat → Bool
  | [], y => match y with
    | [] => true
    | _ => false
  | x :: xs, y => match y with
    | [] => false
    | x' :: xs' => eqD x x' && eqCs xs xs'
end

/-- The cells are as they were. -/
noncomputable def keptV : List AV → List (Dat × Bool) → Bool
  | [], ys => match ys with
    | [] => true
    | _ => false
  | x :: xs, ys => match ys with
    | [] => false
    | y :: ys => (match x with
      | .d x => eqD x y.1
      | .ptr _ _ => true
      | _ => false) && keptV xs ys

noncomputable def kept : List (List AV) → List (List (Dat × Bool)) → Bool
  | [], ys => match ys with
    | [] => true
    | _ => false
  | x :: xs, ys => match ys with
    | [] => false
    | y :: ys => keptV x y && kept xs ys

/-- What a call does to variables; flag 5: it leaves them as they are. -/
noncomputable def evBack {R : Type} (fail : R) (fl : Nat) (xs : List (List (Dat × Bool))) (ids : List Nat) (olds : List (List AV)) (k : List (Nat × List AV) → R) : R :=
  cond (Nat.beq fl 5) (cond (kept olds xs) (k []) fail) (k (backs xs 0 ids olds))

/-- A call of what gives 'D'. -/
noncomputable def evCallG (C : Cfg) {R : Type} (fail : R) (kp : Dat → R) (box : Nat → Option (List AV)) (fl : Nat) (t : TypeId) (D : List AV → List (List AV) → Option Res) (args : List AV) (tw : List (Nat × AV)) (k : Eff → R) : R :=
  let ids := reach box 4 (addIds (idsOfs args) [])
  let olds := ids.map fun id => (box id).getD []
  cond (closedIn ids olds && args.all noRow && (C.ty t).kind.some) (C.bind R fail (Nat.beq fl 3) (resTys C.ty t) olds kp (fun rs xs => evBack fail fl xs ids olds fun bw => k { v := resVal C.ty (Nat.beq fl 3) t rs, tw := tw, bw := bw })
    (D (renames ids args) (olds.map (renames ids)))) fail

/-- What a function's value captured, as arguments. -/
noncomputable def capAV : Dat → AV
  | .ref e row => .dptr e 0 row
  | x => .d x

/-- A call of what gives 'D', with what a function's value captured. -/
noncomputable def evCallC (C : Cfg) {R : Type} (fail : R) (kp : Dat → R) (box : Nat → Option (List AV)) (fl : Nat) (t : TypeId) (D : List AV → List (List AV) → Option Res) (args : List AV) (cs : List Dat) (tw : List (Nat × AV)) (k : Eff → R) : R :=
  let ids := reach box 4 (addIds (idsOfs args) [])
  let olds := ids.map fun id => (box id).getD []
  cond (closedIn ids olds && args.all noRow && (C.ty t).kind.some) (C.bind R fail (Nat.beq fl 3) (resTys C.ty t) olds kp (fun rs xs => evBack fail fl xs ids olds fun bw => k { v := resVal C.ty (Nat.beq fl 3) t rs, tw := tw, bw := bw })
    (D (renames ids args ++ cs.map capAV) (olds.map (renames ids)))) fail

/-- A call of function f. -/
noncomputable def evCall (C : Cfg) {R : Type} (fail : R) (kp : Dat → R) (box : Nat → Option (List AV)) (fl : Nat) (t : TypeId) (f : FuncId) (args : List AV) (tw : List (Nat × AV)) (k : Eff → R) : R :=
  evCallG C fail kp box fl t (C.CD f) args tw k

/-- What is appended. -/
noncomputable def srcRows (T : Tys) (e : TypeId) (get : Nat → AV) (x : Operand) : Option (List (List Dat)) :=
  match operand get x with
  | .d (.str s) => match (T e).kind with
    | .int .u8 => cond (Nat.beq (T e).size 1 && decide ((T e).cells = [e])) (some (s.map fun (b : UInt8) => [Dat.int .u8 (b.toNat : Int)])) none
    | _ => none
  | _ => match rowsOf get x with
    | some p => cond (Nat.beq p.1 e || p.2.isEmpty) (some p.2) none
    | none => none

noncomputable def bytesOf (rows : List (List Dat)) : List UInt8 := rows.map fun r => UInt8.ofNat (r.headD .nilP).i.toNat
noncomputable def TK.isU8 : TK → Bool
  | .int .u8 => true
  | _ => false
noncomputable def isU8 (T : Tys) (e : TypeId) : Bool := (T e).kind.isU8 && Nat.beq (T e).size 1 && decide ((T e).cells = [e])

/-! ### Maps -/
noncomputable def keyEq : Dat → Dat → Bool
  | .int k a, .int k' b => decide (k = k') && (a == b)
  | .str a, .str b => a == b
  | .bool a, .bool b => a == b
  | _, _ => false

noncomputable def TK.isKey : TK → Bool
  | .int _ => true
  | .string => true
  | .bool => true
  | _ => false

/-- The value of a key, or what is told. -/
noncomputable def mapVal (key : Dat) (dflt : List Dat) : List (List Dat) → List Dat
  | [] => dflt
  | r :: rs => cond (keyEq key (r.headD .nilP)) r.tail (mapVal key dflt rs)

noncomputable def mapHas (key : Dat) : List (List Dat) → Bool
  | [] => false
  | r :: rs => keyEq key (r.headD .nilP) || mapHas key rs

noncomputable def mapPut (key : Dat) (v : List Dat) : List (List Dat) → List (List Dat)
  | [] => [key :: v]
  | r :: rs => cond (keyEq key (r.headD .nilP)) ((key :: v) :: rs) (r :: mapPut key v rs)

/-- A key, as data. -/
noncomputable def keyOf (T : Tys) (k : TypeId) : AV → Option Dat
  | .d x => cond ((T k).kind.isKey && headOk (T k).kind x) (some x) none
  | _ => none

/-- The rows of an object of the call's own: of which temporary. -/
noncomputable def objRows (get : Nat → AV) (x : Operand) (e : TypeId) : Option (Nat × List (List Dat)) :=
  match ownerOf get x with
  | some u => match get u with
    | .own e' r => cond (Nat.beq e' e) (some (u, r)) none
    | _ => none
  | none => none

noncomputable def decR (s : List UInt8) (i : Nat) : Int := (Utf8.decode ⟨s.toArray⟩ i).1
noncomputable def decW (s : List UInt8) (i : Nat) : Nat := (Utf8.decode ⟨s.toArray⟩ i).2

noncomputable def TK.isInt : TK → Bool
  | .int _ => true
  | _ => false

noncomputable def evBuiltin (C : Cfg) {R : Type} (fail : R) (get : Nat → AV) (b : Builtin) (args : List Operand) (argTypes : List TypeId) (k : Eff → R) : R :=
  match b, args, argTypes with
  | .len, [x], t :: _ => match (C.ty t).kind with
    | .string => match operand get x with
      | .d (.str s) => k { v := .d (.int .i64 s.length) }
      | _ => fail
    | .slice _ => match rowsOf get x with
      | some (_, r) => k { v := .d (.int .i64 r.length) }
      | none => fail
    | _ => fail
  | .min, [x, y], _ => match view get x, view get y with
    | .d (.int ik a), .d (.int _ b) => k { v := .d (.int ik (if b < a then b else a)) }
    | _, _ => fail
  | .max, [x, y], _ => match view get x, view get y with
    | .d (.int ik a), .d (.int _ b) => k { v := .d (.int ik (if b > a then b else a)) }
    | _, _ => fail
  | .append, [s, x], t :: tx :: _ => match (C.ty t).kind with
    | .slice e => cond ((C.ty e).zok && (C.ty e).kind.known && (C.ty tx).kind.known && !(C.ty tx).kind.isInt && !(Nat.beq (C.ty e).bytes 0) && !(Nat.beq (C.ty e).size 0) && !(isTag e)) (match srcRows C.ty e get x with
      | some ys => match ownerOf get s with
        | some t => match get t with
          | .own e' r => cond (Nat.beq e' e && decide ((r.length + ys.length) * (C.ty e).bytes ≤ 140737488355328)) (k { v := .own e (r ++ ys), tw := [(t, .undef)] }) fail
          | _ => fail
        | none => match operand get s with
          | .nils _ => cond (decide (ys.length * (C.ty e).bytes ≤ 140737488355328)) (k { v := .own e ys }) fail
          | .full e' r => cond (Nat.beq e' e && decide ((r.length + ys.length) * (C.ty e).bytes ≤ 140737488355328) && !ys.isEmpty) (k { v := .own e (r ++ ys) }) fail
          | _ => fail
      | none => fail) fail
    | _ => fail
  | _, _, _ => fail

/-- The parts of a struct's literal: fields, of their sizes, one cell each or a struct's cells. -/
noncomputable def buildOk (T : Tys) (t : TypeId) (ps : List (Nat × AV)) : Bool :=
  (T t).zok && (match (T t).kind with | .struct => true | _ => false) && (T t).fields.all (fun f => (T f.2).kind.known) &&
    ps.all fun p => Nat.blt p.1 (T t).fields.length && Nat.beq (asCells p.2).length (T ((T t).fields.getD p.1 (0, 0)).2).size && Nat.ble (((T t).fields.getD p.1 (0, 0)).1 + (asCells p.2).length) (T t).cells.length && (asCells p.2).all isLeaf

noncomputable def rowsOk (T : Tys) (ts : List TypeId) (rows : List (List Dat)) : Bool := rows.all fun r => headsOk T ts r

/-- A struct's field of some size. -/
noncomputable def fieldOk (T : Tys) (s : TypeId) (f : Nat) : Bool :=
  match (T s).kind with
  | .struct => Nat.blt f (T s).fields.length && !(Nat.beq (T ((T s).fields.getD f (0, 0)).2).size 0)
  | _ => false

/-- One operation. -/
noncomputable def evOp (C : Cfg) {R : Type} (fail : R) (kp : Dat → R) (get : Nat → AV) (box : Nat → Option (List AV)) (o : Oper) (k : Eff → R) : R :=
  let fl := match o.dst with | some d => C.flag d | none => 0
  let T := C.ty
  match o.op with
  | .move x => match ownTmp get x with
    | some t => match fl with
      | 2 => k { v := view get x, tw := pubs get x }
      | _ => k { v := .alias t }
    | none => k { v := retype (T o.type).kind (operand get x) }
  | .assign x => match ownerOf get x with
    | some t => match fl with
      | 2 => k { v := view get x, tw := pubs get x }
      | _ => k { v := get t, tw := [(t, .undef)] }
    | none => k { v := retype (T o.type).kind (operand get x) }
  | .pick c a b => match operand get c with
    | .d (.bool cb) => cond cb (cond (noRow (operand get a)) (k { v := operand get a }) fail) (cond (noRow (operand get b)) (k { v := operand get b }) fail)
    | _ => fail
  | .alloc t => match o.dst with
    | some d => match box (boxId d) with
      | none => cond (T t).zok (k { v := .ptr (boxId d) 0, bw := [(boxId d, freshCells fl (zeroCells T t))] }) fail
      | some _ => fail
    | none => fail
  | .box t x => match o.dst with
    | some d => cond (Nat.beq fl 4) (match toD T (retype (T t).kind (view get x)) with
      | some c => cond (headsOk T (T t).cells c && Nat.beq (T t).size (T t).cells.length && (T t).kind.known) (k { v := .dptr t 0 c, tw := pubss get [x] }) fail
      | none => fail) (match box (boxId d) with
      | none => match ownerOf get x with
        | some t => k { v := .ptr (boxId d) 0, tw := [(t, .undef)], bw := [(boxId d, [get t])] }
        | none => cond ((asCells (operand get x)).all isLeaf) (k { v := .ptr (boxId d) 0, bw := [(boxId d, asCells (operand get x))] }) fail
      | some _ => fail)
    | none => fail
  | .build t parts => cond (buildOk T t (parts.toList.map fun p => (p.1, retype (T ((T t).fields.getD p.1 (0, 0)).2).kind (view get p.2)))) (k { v := .agg (fillCells (T t).fields (parts.toList.map fun p => (p.1, retype (T ((T t).fields.getD p.1 (0, 0)).2).kind (view get p.2))) (zeroCells T t)), tw := pubss get (parts.toList.map (·.2)) }) fail
  | .buildSlice t len parts => match (T t).kind with
    | .slice e => match partRows T 0 (parts.toList.map fun p => (p.1, retype (T e).kind (view get p.2))) with
      | some rows => cond (Nat.beq len rows.length && (T e).zok && decide (len * (T e).size ≤ 16777216) && rowsOk T (T e).cells rows && !(isTag e)) (match fl with
          | 3 => k { v := .own e rows, tw := pubss get (parts.toList.map (·.2)) }
          | _ => k { v := .d (.lst e rows), tw := pubss get (parts.toList.map (·.2)) }) fail
      | none => fail
    | _ => fail
  | .nilCheck x => match operand get x with
    | .ptr id off => k { v := .ptr id off }
    | .dptr e off row => k { v := .dptr e off row }
    | .fn f c => k { v := .fn f c }
    | .d x => cond x.isFn (k { v := .d x }) fail
    | _ => fail
  | .fieldAddr s x f => cond (fieldOk T s f) (match operand get x with
    | .ptr id off => k { v := .ptr id (off + ((T s).fields.getD f (0, 0)).1) }
    | .dptr e off row => k { v := .dptr e (off + ((T s).fields.getD f (0, 0)).1) row }
    | .eptr t e i off => k { v := .eptr t e i (off + ((T s).fields.getD f (0, 0)).1) }
    | _ => fail) fail
  | .load t x => match operand get x with
    | .ptr id off => match box id with
      | some cs => cond (T t).kind.isAgg
          (cond (Nat.ble (off + (T t).size) cs.length) (cond (((cs.drop off).take (T t).size).any isOwn)
            (k { v := .agg (((pubN (off + (T t).size) cs).drop off).take (T t).size), bw := [(id, pubN (off + (T t).size) cs)] })
            (k { v := .agg ((cs.drop off).take (T t).size) })) fail)
          (cond (Nat.blt off cs.length && (T t).kind.known)
            (cond (isOwn (cs.getD off .undef))
              (match fl with
                | 1 => k { v := cs.getD off .undef, bw := [(id, cs.set off .undef)] }
                | _ => k { v := pubCell (cs.getD off .undef), bw := [(id, cs.set off (pubCell (cs.getD off .undef)))] })
              (k { v := cs.getD off .undef })) fail)
      | none => fail
    | .dptr e off row => cond (decide (((T e).cells.drop off).take (T t).cells.length = (T t).cells) && Nat.beq (T t).size (T t).cells.length && (T t).kind.known)
        (k { v := mkVal (T t).kind (coerces T (T t).cells off row) }) fail
    | .eptr u e i off => match get u with
      | .own e' r => cond (Nat.beq e e' && decide (((T e).cells.drop off).take (T t).cells.length = (T t).cells) && Nat.beq (T t).size (T t).cells.length && (T t).kind.known && Nat.blt i r.length)
        (k { v := mkVal (T t).kind (coerces T (T t).cells off (r.getD i [])) }) fail
      | _ => fail
    | _ => fail
  | .store t a x => match operand get a with
    | .ptr id off => match box id with
      | some cs => match ownerOf get x with
        | some u => cond (Nat.blt off cs.length && Nat.beq (T t).size 1 && (T t).kind.known) (k { v := .undef, tw := [(u, .undef)], bw := [(id, cs.set off (get u))] }) fail
        | none => cond (Nat.ble (off + (T t).size) cs.length && Nat.beq (asCells (operand get x)).length (T t).size && (asCells (operand get x)).all isLeaf && (T t).kind.known)
            (k { v := .undef, bw := [(id, cs.take off ++ asCells (retype (T t).kind (operand get x)) ++ cs.drop (off + (T t).size))] }) fail
      | none => fail
    | .eptr u e i off => match get u with
      | .own e' r => match toD T (retype (T t).kind (operand get x)) with
        | some c => cond (Nat.beq e e' && decide (((T e).cells.drop off).take (T t).cells.length = (T t).cells) && Nat.beq (T t).size (T t).cells.length && headsOk T (T t).cells c && Nat.blt i r.length && (T t).kind.known && Nat.ble (off + (T t).size) (T e).size)
            (k { v := .undef, uw := [(u, .own e (r.set i ((r.getD i []).take off ++ c ++ (r.getD i []).drop (off + c.length))))] }) fail
        | none => fail
      | _ => fail
    | _ => fail
  | .binOp op t x y _ => match nilSide (T t).kind op x y with
    | some p => match operand get p.1 with
      | .ifc _ _ => k { v := .d (.bool p.2) }
      | .d z => cond z.isIfc (k { v := .d (.bool p.2) }) (cond z.isNilI (k { v := .d (.bool (!p.2)) }) fail)
      | _ => fail
    | none => match binSp T t op (view get x) (view get y) with
      | some v => k { v := .d v }
      | none => binAny fail k (T t).kind op (view get x) (view get y)
  | .unOp op _ x => match op, operand get x with
    | .not, .d (.bool b) => k { v := .d (.bool (!b)) }
    | .neg, .d (.int ik n) => k { v := .d (.int ik (ik.wrap (0 - n))) }
    | _, _ => fail
  | .convert s t x => match (T s).kind, (T t).kind, operand get x with
    | .int _, .int ik, .d (.int _ n) => k { v := .d (.int ik (ik.wrap n)) }
    | .string, .string, .d (.str l) => k { v := .d (.str l) }
    | .slice e, .string, _ => match rowsOf get x with
      | some p => cond (isU8 T e && (Nat.beq p.1 e || p.2.isEmpty)) (k { v := .d (.str (bytesOf p.2)) }) fail
      | none => fail
    | _, _, _ => fail
  | .makeInterface t x => cond ((asCells (retype (T t).kind (view get x))).all isLeaf && (T t).kind.known && !(T t).kind.isIface) (k { v := .ifc t (retype (T t).kind (view get x)), tw := pubs get x }) fail
  | .makeFunc (.func f) first caps => cond (first.isEmpty && (views get caps.toList).all isLeaf) (k { v := mkFn f (views get caps.toList), tw := pubss get caps.toList }) fail
  | .indexAddr t x i => match (T t).kind with
    | .slice e' => match ownerOf get x with
      | some t => match get t with
        | .own e r => cond (Nat.beq e' e && (T e').kind.known) (atIndex fail (view get i) r.length fun j => k { v := .eptr t e j 0 }) fail
        | _ => fail
      | none => match operand get x with
        | .d (.lst e r) => cond (Nat.beq e' e && (T e').kind.known) (atIndex fail (view get i) r.length fun j => k { v := .dptr e 0 (r.getD j []) }) fail
        | .full e r => cond (Nat.beq e' e && (T e').kind.known) (atIndex fail (view get i) r.length fun j => k { v := .dptr e 0 (r.getD j []) }) fail
        | _ => fail
    | _ => fail
  | .index t x i => match (T t).kind with
    | .string => match operand get x with
      | .d (.str s) => atIndex fail (view get i) s.length fun j => k { v := .d (.int .u8 (s.getD j 0).toNat) }
      | _ => fail
    | _ => fail
  | .slice t x lo hi mx => match (T t).kind, view get x with
    | .string, .d (.str s) => match mx with
      | none => bound fail (hi.map (view get)) s.length s.length fun h => bound fail (lo.map (view get)) 0 h fun l => k { v := .d (.str ((s.take h).drop l)) }
      | some _ => fail
    | .slice e', .d (.lst e r) => cond (Nat.beq e' e && (T e).kind.known) (match mx with
      | none => bound fail (hi.map (view get)) r.length r.length fun h => bound fail (lo.map (view get)) 0 h fun l => k { v := .d (.lst e ((r.take h).drop l)), tw := pubs get x }
      | some mo => cond hi.isSome (bound fail (some (view get mo)) 0 r.length fun m => bound fail (hi.map (view get)) r.length m fun h => bound fail (lo.map (view get)) 0 h fun l => cond (Nat.beq m h) (k { v := .full e ((r.take h).drop l), tw := pubs get x }) fail) fail) fail
    | _, _ => fail
  | .field s x f => cond (fieldOk T s f) (match operand get x with
    | .agg cs => cond (Nat.ble (((T s).fields.getD f (0, 0)).1 + (T ((T s).fields.getD f (0, 0)).2).size) cs.length && (T ((T s).fields.getD f (0, 0)).2).kind.known) (k { v := mkVal (T ((T s).fields.getD f (0, 0)).2).kind ((cs.drop ((T s).fields.getD f (0, 0)).1).take (cond (T ((T s).fields.getD f (0, 0)).2).kind.isAgg (T ((T s).fields.getD f (0, 0)).2).size 1)) }) fail
    | _ => fail) fail
  | .extract x i => match operand get x with
    | .tup vs => cond (Nat.blt i vs.length) (k { v := vs.getD i .undef }) fail
    | _ => fail
  | .typeAssert x _ t ok => cond ((T t).kind.known && !(T t).kind.isIface) (match operand get x with
    | .ifc u v => cond (Nat.beq u t) (cond ok (cond (idsOf v).isEmpty (k { v := .tup [v, .d (.bool true)] }) fail) (k { v := v }))
        (cond (ok && (T t).zok) (k { v := .tup [mkVal (T t).kind (zeroCells T t), .d (.bool false)] }) fail)
    | .d x => cond x.isIfc (cond (Nat.beq x.it t)
        (k { v := cond ok (.tup [mkVal (T t).kind (coerces T (T t).cells 0 x.ic), .d (.bool true)]) (mkVal (T t).kind (coerces T (T t).cells 0 x.ic)) })
        (cond (ok && (T t).zok) (k { v := .tup [mkVal (T t).kind (zeroCells T t), .d (.bool false)] }) fail))
        (cond (x.isNilI && ok && (T t).zok) (k { v := .tup [mkVal (T t).kind (zeroCells T t), .d (.bool false)] }) fail)
    | _ => fail) fail
  | .makeMap t none => match (T t).kind, (T (mapTag t)).kind with
    | .map _ _, .other => k { v := .own (mapTag t) [] }
    | _, _ => fail
  | .lookup t m i ok => match (T t).kind with
    | .map kt lt => match objRows get m (mapTag t), keyOf T kt (view get i), toDs (zeroCells T lt) with
      | some p, some key, some zs => cond ((T lt).zok && (T lt).kind.known && headsOk T (T lt).cells zs)
          (cond ok (k { v := .tup [mkVal (T lt).kind (coerces T (T lt).cells 0 (mapVal key zs p.2)), .d (.bool (mapHas key p.2))] })
            (k { v := mkVal (T lt).kind (coerces T (T lt).cells 0 (mapVal key zs p.2)) })) fail
      | _, _, _ => fail
    | _ => fail
  | .mapUpdate t m i x | .insert t m i x => match (T t).kind with
    | .map kt lt => match objRows get m (mapTag t) with
      | some p => match keyOf T kt (view get i), toD T (retype (T lt).kind (operand get x)) with
        | some key, some c => cond ((T lt).kind.known && headsOk T (T lt).cells c && cond (isAggA (operand get x)) (T lt).kind.isAgg (!(T lt).kind.isAgg)) (k { v := .undef, uw := [(p.1, .own (mapTag t) (mapPut key c p.2))] }) fail
        | _, _ => fail
      | none => fail
    | _ => fail
  | .range t x => match (T t).kind, (T iterTag).kind, view get x with
    | .string, .other, .d (.str s) => k { v := .own iterTag [[.str s, .int .i64 0]] }
    | _, _, _ => fail
  | .next x true => match objRows get x iterTag with
    | some (u, [[.str s, .int _ p]]) => cond (decide (p < (s.length : Int)))
        (k { v := .tup [.d (.bool true), .d (.int .i64 p), .d (.int .i32 (decR s p.toNat))], uw := [(u, .own iterTag [[.str s, .int .i64 (p + decW s p.toNat)]])] })
        (k { v := .tup [.d (.bool false)] })
    | _ => fail
  | .call ⟨.invoke r m, args, _⟩ => match operand get r with
    | .ifc t x => match C.meth t m with
      | some f => evCall C fail kp box fl o.type f (x :: views get args.toList) (pubss get args.toList) k
      | none => fail
    | .d x => evCallG C fail kp box fl o.type (C.CI m x) (views get args.toList) (pubss get args.toList) k
    | _ => fail
  | .call ⟨.builtin b, args, argTypes⟩ => evBuiltin C fail get b args.toList argTypes.toList k
  | .call ⟨.value f, args, _⟩ => match operand get f with
    | .fn f caps => evCall C fail kp box fl o.type f (views get args.toList ++ caps) (pubss get args.toList) k
    | .d x => cond x.isFn (evCallC C fail kp box fl o.type (C.CD x.fid) (views get args.toList) x.fcaps (pubss get args.toList) k) fail
    | _ => fail
  | .panic x => match view get x with
    | .ifc t y => match toD T (.ifc t y) with
      | some [v] => kp v
      | _ => fail
    | .d v => cond v.isIfc (kp v) fail
    | _ => fail
  | _ => fail

/-! ### Values told whole: the same, but a program that reckons sees them (each of these is 'k' of what it is given) -/
section
variable {R : Type}
noncomputable def forceL (f : AV → (AV → R) → R) (xs : List AV) (k : List AV → R) : R :=
  xs.rec (motive := fun _ => (List AV → R) → R) (fun k => k []) (fun x _ ih k => f x fun x => ih fun xs => k (x :: xs)) k

noncomputable def force1 (v : AV) (k : AV → R) : R :=
  match v with
  | .d x => k (.d x)
  | .nils e => k (.nils e)
  | .own e r => k (.own e r)
  | .full e r => k (.full e r)
  | .alias t => k (.alias t)
  | .ptr i o => k (.ptr i o)
  | .dptr e o r => k (.dptr e o r)
  | .eptr t e i o => k (.eptr t e i o)
  | .agg xs => k (.agg xs)
  | .ifc t x => k (.ifc t x)
  | .fn f xs => k (.fn f xs)
  | .tup xs => k (.tup xs)
  | .undef => k .undef

noncomputable def force2 (v : AV) (k : AV → R) : R :=
  match v with
  | .agg xs => forceL force1 xs fun xs => k (.agg xs)
  | .ifc t x => force1 x fun x => match x with
    | .agg xs => forceL force1 xs fun xs => k (.ifc t (.agg xs))
    | x => k (.ifc t x)
  | .fn f xs => forceL force1 xs fun xs => k (.fn f xs)
  | v => force1 v k

noncomputable def forceAV (v : AV) (k : AV → R) : R :=
  match v with
  | .tup xs => forceL force2 xs fun xs => k (.tup xs)
  | v => force2 v k

noncomputable def forceB (l : List (Nat × List AV)) (k : List (Nat × List AV) → R) : R :=
  l.rec (motive := fun _ => (List (Nat × List AV) → R) → R) (fun k => k []) (fun p _ ih k => match p with
    | (i, cs) => forceL forceAV cs fun cs => ih fun l => k ((i, cs) :: l)) k

noncomputable def forceT (l : List (Nat × AV)) (k : List (Nat × AV) → R) : R :=
  l.rec (motive := fun _ => (List (Nat × AV) → R) → R) (fun k => k []) (fun p _ ih k => match p with
    | (i, v) => forceAV v fun v => ih fun l => k ((i, v) :: l)) k

noncomputable def putK (st : St) (t : Nat) (v : AV) (k : St → R) : R :=
  forceAV v fun v => match st with
  | ⟨ts, bs⟩ => match getA t ts with
    | .own _ _ => forceT (ts.map (fun p => (p.1, cond (p.2.refs t) .undef p.2))) fun ts => k ⟨(t, v) :: ts, bs⟩
    | _ => k ⟨(t, v) :: ts, bs⟩

noncomputable def putsK : List (Nat × AV) → St → (St → R) → R
  | [], st, k => k st
  | (t, v) :: l, st, k => putK st t v fun st => putsK l st k

noncomputable def updsK : List (Nat × AV) → St → (St → R) → R
  | [], st, k => k st
  | (t, v) :: l, ⟨ts, bs⟩, k => forceAV v fun v => updsK l ⟨(t, v) :: ts, bs⟩ k

noncomputable def boxesK : List (Nat × List AV) → St → (St → R) → R
  | [], st, k => k st
  | (i, cs) :: l, ⟨ts, bs⟩, k => forceB (setB i cs bs) fun bs => boxesK l ⟨ts, bs⟩ k

noncomputable def Eff.appK (f : Eff) (dst : Option Nat) (st : St) (k : St → R) : R :=
  putsK f.tw st fun st => updsK f.uw st fun st => boxesK f.bw st fun st =>
    match dst with
    | some t => putK st t f.v k
    | none => k st
end

/-! ### Code -/
/-- The temporary exists, and a value does not lead to it. -/
noncomputable def dstOk (n : Nat) (dst : Option Nat) (v : AV) : Bool :=
  match dst with
  | none => true
  | some d => Nat.blt d n && !(v.refs d)

noncomputable def evOper (C : Cfg) (all : List Oper) (o : Oper) (st : St) (k : St → Out) : Out :=
  let run (st : St) : Out := evOp C none (fun v => some (.panic v)) st.get st.box o fun f => cond (dstOk C.n o.dst f.v) (f.appK o.dst st k) none
  let skip (st : St) : Out := cond (dstOk C.n o.dst (.tup [])) ((Eff.mk (.tup []) [] [] []).appK o.dst st k) none
  match o.guard with
  | none => run st
  | some (j, want) => match (all[j]?).bind (·.dst) with
    | none => none
    | some t => match st.get t with
      | .d (.bool b) => cond b
          (putK st t (.d (.bool true)) fun st => cond want (run st) (skip st))
          (putK st t (.d (.bool false)) fun st => cond want (skip st) (run st))
      | .tup [] => skip st
      | _ => none

noncomputable def evOps (C : Cfg) (all : List Oper) (l : List Oper) (st : St) (k : St → Out) : Out :=
  l.rec (motive := fun _ => St → (St → Out) → Out) (fun st k => k st) (fun o _ ih st k => evOper C all o st fun st => ih st k) st k

/-! ### Regions that draw their order: what each operation reads and writes -/
noncomputable def memN (x : Nat) (l : List Nat) : Bool := l.any (Nat.beq x)
noncomputable def meets (a b : List Nat) : Bool := a.any fun x => memN x b

structure Rec where
  i : Nat
  anc : Nat
  rT : List Nat
  wT : List Nat
  rB : List Nat
  wB : List Nat

noncomputable def Rec.clash (x y : Rec) : Bool := meets x.wT (y.rT ++ y.wT) || meets y.wT x.rT || meets x.wB (y.rB ++ y.wB) || meets y.wB x.rB

noncomputable def ancAt (i : Nat) : List Rec → Nat
  | [] => 0
  | r :: l => cond (Nat.beq i r.i) r.anc (ancAt i l)

noncomputable def bindsE (e : Edge) : Bool :=
  match e.ground with
  | .textOnly _ => false
  | .gcOnly _ => false
  | _ => true

/-- What must have run before: the operations, as the bits of a number. -/
noncomputable def ancOf (recs : List Rec) : List Edge → Nat
  | [] => 0
  | e :: l => cond (bindsE e) (Nat.lor (Nat.lor (2 ^ e.on) (ancAt e.on recs)) (ancOf recs l)) (ancOf recs l)

noncomputable def edgesOk (i : Nat) (l : List Edge) : Bool := l.all fun e => !bindsE e || Nat.blt e.on i

noncomputable def AV.tgt : AV → List Nat
  | .alias u => [u]
  | .eptr u _ _ _ => [u]
  | _ => []

noncomputable def opTmps (o : Oper) : List Nat := o.op.operands.toList.filterMap fun | .tmp t => some t | _ => none
noncomputable def withTgts (get : Nat → AV) (ts : List Nat) : List Nat := ts ++ ts.flatMap fun t => (get t).tgt
noncomputable def dstL (o : Oper) : List Nat := match o.dst with | some d => [d] | none => []
/-- The variables that an operand leads to (a function's: to all that it captured). -/
noncomputable def idsX (v : AV) : List Nat := idsOf v ++ match v with | .fn _ xs => idsOfs xs | .ifc _ x => idsOf x | _ => []
noncomputable def opBoxes (get : Nat → AV) (box : Nat → Option (List AV)) (o : Oper) : List Nat :=
  (dstL o).map boxId ++ reach box 4 (addIds ((opTmps o).flatMap fun t => idsX (get t)) [])

/-- Temporaries with a row of their own that an effect overwrites. -/
noncomputable def ownsPut (st : St) (l : List Nat) : List Nat := l.filter fun t => isOwn (st.get t)

/-- What an effect writes into temporaries, the last first. -/
noncomputable def Eff.ws (f : Eff) (dst : Option Nat) : List (Nat × AV) := (match dst with | some d => [(d, f.v)] | none => []) ++ f.uw.reverse ++ f.tw.reverse

noncomputable def notDst (dst : Option Nat) (t : Nat) : Bool := match dst with | some d => !(Nat.beq d t) | none => true
noncomputable def effOk (f : Eff) (dst : Option Nat) : Bool := (f.tw.all fun p => p.2.tgt.isEmpty && !(isOwn p.2) && notDst dst p.1) && f.uw.all fun p => p.2.tgt.isEmpty && notDst dst p.1

noncomputable def recOf (i anc : Nat) (gT : List Nat) (o : Oper) (st : St) (f : Eff) : Rec :=
  { i := i, anc := anc, rT := gT ++ withTgts st.get (opTmps o), wT := (f.ws o.dst).map (·.1), rB := opBoxes st.get st.box o, wB := f.bw.map (·.1) }

noncomputable def clear (anc : Nat) (r : Rec) (recs : List Rec) : Bool := recs.all fun x => !(r.clash x) || Nat.testBit anc x.i

/-- The last look: nothing leads to a row that was written over. -/
noncomputable def noLead (owns : List Nat) (s0 : List (Nat × AV)) (vals : List AV) : Bool := owns.all fun t => s0.all (fun p => !(p.2.refs t)) && vals.all fun v => !(v.refs t)

/-- Truths that this way has told. -/
noncomputable def getK (t : Nat) : List (Nat × Bool) → Option Bool
  | [] => none
  | p :: l => cond (Nat.beq t p.1) (some p.2) (getK t l)

noncomputable def guardV (kn : List (Nat × Bool)) (t : Nat) (v : AV) : Option (Option Bool) :=
  match getK t kn with
  | some b => some (some b)
  | none => match v with
    | .d (.bool b) => some (some b)
    | .tup [] => some none
    | _ => none

noncomputable def skipEff : Eff := Eff.mk (.tup []) [] [] []
noncomputable def noEff : Eff := Eff.mk .undef [] [] []

abbrev DrawK := Nat → List Rec → Option (Nat × Dat) → List Nat → List AV → List (Nat × Bool) → St → (St → Out) → Out

/-- Numbers, lists and records are reckoned out before it goes on (the same thing; it keeps the terms small). -/
noncomputable def forceN (n : Nat) (k : Nat → Out) : Out :=
  match n with
  | 0 => k 0
  | m + 1 => k (m + 1)
noncomputable def forceNL (l : List Nat) (k : List Nat → Out) : Out :=
  l.rec (motive := fun _ => (List Nat → Out) → Out) (fun k => k []) (fun n _ ih k => forceN n fun n => ih fun l => k (n :: l)) k
noncomputable def forceKn (l : List (Nat × Bool)) (k : List (Nat × Bool) → Out) : Out :=
  l.rec (motive := fun _ => (List (Nat × Bool) → Out) → Out) (fun k => k []) (fun p _ ih k => match p with
    | (n, b) => forceN n fun n => ih fun l => k ((n, b) :: l)) k
noncomputable def forceRec (r : Rec) (k : Rec → Out) : Out :=
  match r with
  | ⟨i, anc, a, b, c, d⟩ => forceN i fun i => forceN anc fun anc => forceNL a fun a => forceNL b fun b => forceNL c fun c => forceNL d fun d => k ⟨i, anc, a, b, c, d⟩

noncomputable def drawStep (C : Cfg) (o : Oper) (ih : DrawK) (i : Nat) (recs : List Rec) (pan : Option (Nat × Dat)) (owns : List Nat) (vals : List AV) (st : St) (k : St → Out) (gT : List Nat) (kn : List (Nat × Bool)) (f : Eff) : Out :=
  forceRec (recOf i (ancOf recs o.after.toList) gT o st f) fun rc =>
    cond (dstOk C.n o.dst f.v && effOk f o.dst && clear rc.anc rc recs)
      (f.appK o.dst st fun st' => forceNL (ownsPut st ((f.ws o.dst).map (·.1)) ++ owns) fun owns' => forceL forceAV ((f.ws o.dst).map (·.2) ++ vals) fun vals' => forceKn (kn.filter fun p => !(memN p.1 ((f.ws o.dst).map (·.1)))) fun kn' =>
        forceN (i + 1) fun i' => ih i' (rc :: recs) pan owns' vals' kn' st' k) none

noncomputable def drawRun (C : Cfg) (o : Oper) (ih : DrawK) (i : Nat) (recs : List Rec) (pan : Option (Nat × Dat)) (owns : List Nat) (vals : List AV) (st : St) (k : St → Out) (gT : List Nat) (kn : List (Nat × Bool)) : Out :=
  evOp C none (fun v => match pan with
    | some _ => none
    | none => cond (clear (ancOf recs o.after.toList) (recOf i (ancOf recs o.after.toList) gT o st noEff) recs)
        (ih (i + 1) (recOf i (ancOf recs o.after.toList) gT o st noEff :: recs) (some (i, v)) owns vals kn st k) none) st.get st.box o (drawStep C o ih i recs pan owns vals st k gT kn)

noncomputable def deadBy (pan : Option (Nat × Dat)) (anc : Nat) : Bool := match pan with | some pv => Nat.testBit anc pv.1 | none => false

noncomputable def drawCons (C : Cfg) (all : List Oper) (o : Oper) (ih : DrawK) : DrawK := fun i recs pan owns vals kn st k =>
  cond (edgesOk i o.after.toList)
    (cond (deadBy pan (ancOf recs o.after.toList)) (ih (i + 1) (⟨i, ancOf recs o.after.toList, [], [], [], []⟩ :: recs) pan owns vals kn st k)
      (match o.guard with
       | none => drawRun C o ih i recs pan owns vals st k [] kn
       | some (j, want) => match (all[j]?).bind (·.dst) with
         | none => none
         | some t => match guardV kn t (st.get t) with
           | some (some b) => cond b
               (cond want (drawRun C o ih i recs pan owns vals st k [t] ((t, true) :: kn)) (drawStep C o ih i recs pan owns vals st k [t] ((t, true) :: kn) skipEff))
               (cond want (drawStep C o ih i recs pan owns vals st k [t] ((t, false) :: kn) skipEff) (drawRun C o ih i recs pan owns vals st k [t] ((t, false) :: kn)))
           | some none => drawStep C o ih i recs pan owns vals st k [t] kn skipEff
           | none => none)) none

noncomputable def drawNil (s0 : List (Nat × AV)) : DrawK := fun _ _ pan owns vals _ st k => cond (noLead owns s0 vals) (match pan with
  | none => k st
  | some pv => some (.panic pv.2)) none

noncomputable def evDraw (C : Cfg) (all : List Oper) (s0 : List (Nat × AV)) (l : List Oper) : DrawK :=
  l.rec (motive := fun _ => DrawK) (drawNil s0) (fun o _ ih => drawCons C all o ih)

/-- What is kept where ways meet: temporaries and variables, with their forms (1: a row of its own; 0: as it is). -/
noncomputable def reform (f : Nat) (v : AV) : Option AV :=
  match f, v with
  | 1, .nils e => cond (isTag e) none (some (.own e []))
  | 2, .nils e => some (.d (.lst e []))
  | 2, .own e r => cond (isTag e) none (some (.d (.lst e r)))
  | 2, .full e r => some (.d (.lst e r))
  | _, _ => none

noncomputable def reformTs : List (Nat × Nat) → St → St
  | [], st => st
  | p :: l, st => match reform p.2 (st.get p.1) with
    | some v => reformTs l (st.put p.1 v)
    | none => reformTs l st

noncomputable def reformCs (id : Nat) : Nat → Nat → Nat → St → St
  | 0, _, _, st => st
  | n + 1, off, f, st => match st.box id with
    | some cs => match cond (Nat.blt off cs.length) (reform (f % 4) (cs.getD off .undef)) none with
      | some v => reformCs id n (off + 1) (f / 4) (st.setBox id (cs.set off v))
      | none => reformCs id n (off + 1) (f / 4) st
    | none => st

noncomputable def reformBs : List (Nat × Nat) → St → St
  | [], st => st
  | p :: l, st => reformBs l (reformCs p.1 ((st.box p.1).getD []).length 0 p.2 st)

noncomputable def keepT (ts : List Nat) (v : AV) : AV :=
  match v with
  | .alias t => cond (ts.any (Nat.beq t)) v .undef
  | .eptr t _ _ _ => cond (ts.any (Nat.beq t)) v .undef
  | v => v

noncomputable def extIds : List (Nat × List AV) → List Nat
  | [] => []
  | p :: l => cond (Nat.blt p.1 1000) (p.1 :: extIds l) (extIds l)

noncomputable def keepTs (l : List (Nat × Nat)) (st : St) : List (Nat × AV) := l.map fun p => (p.1, keepT (l.map (·.1)) (st.get p.1))

noncomputable def keepSt (l : List (Nat × Nat)) (st : St) : St :=
  ⟨keepTs l st, st.boxes.filter fun p => Nat.blt p.1 1000 || (reach st.box 6 (addIds (idsOfs ((keepTs l st).map (·.2))) (extIds st.boxes))).any (Nat.beq p.1)⟩

noncomputable def norm (l : List (Nat × Nat) × List (Nat × Nat)) (st : St) : St := keepSt l.1 (reformBs l.2 (reformTs l.1 st))

/-- All variables that it leads to are there. -/
noncomputable def closedSt (st : St) : Bool :=
  (st.boxes.all fun p => (p.2.flatMap idL).all fun id => (getB id st.boxes).isSome) && st.tmps.all fun p => (idsOf p.2).all fun id => (getB id st.boxes).isSome

noncomputable def forceSt {R : Type} (st : St) (k : St → R) : R :=
  match st with
  | ⟨ts, bs⟩ => forceT ts fun ts => forceB bs fun bs => k ⟨ts, bs⟩

noncomputable def goPt (C : Cfg) (p : Nat) (st : St) (other : Out) : Out :=
  match C.live p with
  | some l => forceSt (norm l st) fun st => cond (closedSt st) (C.CC p st) none
  | none => other

abbrev K := Ex → St → Out

noncomputable def kSeq (C : Cfg) (p : Nat) (next : St → Out) (k : K) : K := fun e st =>
  match e with
  | .normal => goPt C p st (next st)
  | e => k e st

noncomputable def kBlock (id : Nat) (k : K) : K := fun e st =>
  match e with
  | .exit j => cond (Nat.beq j id) (k .normal st) (k (.exit j) st)
  | e => k e st

noncomputable def kLoop (C : Cfg) (p : Nat) (k : K) : K := fun e st =>
  match e with
  | .normal => goPt C p st none
  | e => k e st

noncomputable def evCond (c : Operand) (st : St) (x y : St → Out) : Out :=
  match c with
  | .tmp t => match st.get t with
    | .d (.bool b) => cond b (putK st t (.d (.bool true)) x) (putK st t (.d (.bool false)) y)
    | _ => none
  | .const (.bool b) => cond b (x st) (y st)
  | _ => none

noncomputable def evCode (C : Cfg) (c : Code) : Nat → St → K → Out :=
  c.rec (motive := fun _ => Nat → St → K → Out)
    (fun _ st k => k .normal st)
    (fun _ ops draw _ st k => cond draw (evDraw C ops.toList st.tmps ops.toList 0 [] none [] [] [] st (k .normal)) (evOps C ops.toList ops.toList st (k .normal)))
    (fun _ _ iha ihb p st k => iha (2 * p) st (kSeq C (2 * p + 1) (fun st => ihb (2 * p + 1) st k) k))
    (fun c _ _ iha ihb p st k => evCond c st (fun st => iha (2 * p) st k) (fun st => ihb (2 * p + 1) st k))
    (fun id _ ih p st k => ih (2 * p) st (kBlock id k))
    (fun _ _ p st _ => goPt C p st none)
    (fun _ _ _ _ _ _ _ _ _ => none)
    (fun id _ st k => k (.exit id) st)
    (fun _ ih p st k => ih (2 * p) st k)
    (fun _ _ st k => k .normal st)
    (fun _ _ _ _ => none)
    (fun _ st k => k .ret st)
    (fun _ _ _ _ => none)

/-- From a place inside the code on: to the function's end. -/
noncomputable def evFrom (C : Cfg) : List Bool → Code → Nat → St → K → Out
  | [], .loop a, p, st, k => evCode C a (2 * p) st (kLoop C p k)
  | [], c, p, st, k => evCode C c p st k
  | false :: bs, .seq a b, p, st, k => evFrom C bs a (2 * p) st (kSeq C (2 * p + 1) (fun st => evCode C b (2 * p + 1) st k) k)
  | true :: bs, .seq _ b, p, st, k => evFrom C bs b (2 * p + 1) st k
  | false :: bs, .cond _ a _, p, st, k => evFrom C bs a (2 * p) st k
  | true :: bs, .cond _ _ b, p, st, k => evFrom C bs b (2 * p + 1) st k
  | false :: bs, .block id a, p, st, k => evFrom C bs a (2 * p) st (kBlock id k)
  | false :: bs, .loop a, p, st, k => evFrom C bs a (2 * p) st (kLoop C p k)
  | false :: bs, .scope a, p, st, k => evFrom C bs a (2 * p) st k
  | _, _, _, _, _ => none

noncomputable def bitsOf : Nat → Nat → List Bool → List Bool
  | 0, _, acc => acc
  | n + 1, p, acc => cond (Nat.ble p 1) acc (bitsOf n (p / 2) (Nat.beq (p % 2) 1 :: acc))

noncomputable def pathOf : List Bool → Nat → Nat
  | [], p => p
  | true :: bs, p => pathOf bs (2 * p + 1)
  | false :: bs, p => pathOf bs (2 * p)

/-! ### Functions -/
noncomputable def numbered (i : Nat) : List AV → List (Nat × AV)
  | [] => []
  | v :: vs => (i, v) :: numbered (i + 1) vs

noncomputable def boxesFrom (i : Nat) : List (List AV) → List (Nat × List AV)
  | [] => []
  | v :: vs => (i, v) :: boxesFrom (i + 1) vs

noncomputable def cellBack : AV → Option (Dat × Bool)
  | .d x => some (x, false)
  | .nils e => some (.lst e [], false)
  | .full e r => some (.lst e r, false)
  | .own e r => some (.lst e r, true)
  | _ => none

/-- What a variable that came in by address holds at the end; pointers and functions in it must be as they were. -/
noncomputable def cellsBack : List AV → List AV → Option (List (Dat × Bool))
  | [], [] => some []
  | .ptr i o :: xs, .ptr i' o' :: ys => cond (Nat.beq i i' && Nat.beq o o') ((cellsBack xs ys).map fun r => (.nilP, false) :: r) none
  | .d _ :: xs, y :: ys | .own _ _ :: xs, y :: ys | .nils _ :: xs, y :: ys => match cellBack y with
    | some c => (cellsBack xs ys).map fun r => c :: r
    | none => none
  | _, _ => none

noncomputable def boxesBack (st : St) : Nat → List (List AV) → Option (List (List (Dat × Bool)))
  | _, [] => some []
  | i, x :: xs => match cellsBack x ((st.box i).getD []) with
    | some c => (boxesBack st (i + 1) xs).map fun r => c :: r
    | none => none

/-- Is data of a kind, as far as its head tells: then the one, else the other. -/
noncomputable def headK (k : TK) (x : Dat) (t f : Out) : Out :=
  match k with
  | .iface => cond x.isIfc t (cond x.isNilI t f)
  | .func => cond x.isFn t (cond x.isNilF t f)
  | k => cond (headOk k x) t f

noncomputable def headsK (T : Tys) : List TypeId → List Dat → Out → Out → Out
  | [], [], t, _ => t
  | u :: us, x :: xs, t, f => headK (T u).kind x (headsK T us xs t f) f
  | _, _, _, f => f

noncomputable def resK (T : Tys) (st : St) : List TypeId → List ResultVar → (List Dat → Out) → Out
  | [], [], k => k []
  | t :: ts, .tmp u :: rs, k => cond ((T t).kind.known && cond (isAggA (view st.get (.tmp u))) (T t).kind.isAgg (!(T t).kind.isAgg)) (match toD T (retype (T t).kind (view st.get (.tmp u))) with
    | some c => headsK T (T t).cells c (resK T st ts rs fun r => k (c ++ r)) none
    | none => none) none
  | t :: ts, .cell u t' :: rs, k => match st.get u with
    | .ptr id off => match st.box id with
      | some cs => cond (Nat.beq off 0 && Nat.beq t t' && Nat.ble 1000 id && (T t).kind.known && Nat.beq cs.length (cond (T t).kind.isAgg (T t).size 1)) (match toDs (cs.map pubCell) with
        | some c => headsK T (T t).cells c (resK T st ts rs fun r => k (c ++ r)) none
        | none => none) none
      | none => none
    | _ => none
  | _, _, _ => none

noncomputable def ownRes (T : Tys) (st : St) : List TypeId → List ResultVar → Bool
  | [t], [.tmp u] =>
    match st.get u with
    | .own _ _ => true
    | .nils _ => match (T t).kind with
      | .slice e => !(isTag e)
      | _ => false
    | .alias t => isOwn (st.get t)
    | _ => false
  | _, _ => false

/-- A map of the function's own is the result. -/
noncomputable def ownMap (T : Tys) (st : St) : List TypeId → List ResultVar → Option (TypeId × List (List Dat))
  | [t], [.tmp u] =>
    match (T t).kind with
    | .map _ _ => match st.get u with
      | .own e r => cond (Nat.beq e (mapTag t)) (some (e, r)) none
      | _ => none
    | _ => none
  | _, _ => none

noncomputable def kEnd (T : Tys) (fn : Func) (xs : List (List AV)) : K := fun e st =>
  match e with
  | .exit _ => none
  | _ => match ownMap T st fn.resultTypes.toList fn.results.toList with
    | some p => match boxesBack st 0 xs with
      | some ys => some (.ret true fn.resultTypes.toList [.lst p.1 p.2] ys)
      | none => none
    | none => resK T st fn.resultTypes.toList fn.results.toList fun rs => match boxesBack st 0 xs with
      | some ys => some (.ret (ownRes T st fn.resultTypes.toList fn.results.toList) fn.resultTypes.toList rs ys)
      | none => none

/-- What matters of a variable that came in by address, where ways meet. -/
noncomputable def erase : AV → AV
  | .d _ => .d .nilP
  | .own e _ => .own e []
  | v => v

noncomputable def erases : List AV → List AV
  | [] => []
  | x :: xs => erase x :: erases xs

noncomputable def erasess : List (List AV) → List (List AV)
  | [] => []
  | x :: xs => erases x :: erasess xs

noncomputable def evFn (C : Cfg) (fn : Func) (args : List AV) (xs : List (List AV)) : Out :=
  match fn.body with
  | some c => cond (Nat.ble xs.length 1000 && Nat.ble args.length fn.ntmps) (evCode C c 1 ⟨numbered 0 args, boxesFrom 0 xs⟩ (kEnd C.ty fn (erasess xs))) none
  | none => none

noncomputable def evPt (C : Cfg) (fn : Func) (xs : List (List AV)) (p : Nat) (st : St) : Out :=
  match fn.body with
  | some c => cond (Nat.beq (pathOf (bitsOf 200 p []) 1) p) (evFrom C (bitsOf 200 p []) c 1 st (kEnd C.ty fn xs)) none
  | none => none

end Go.Ab
end

section
set_option linter.unusedSimpArgs false
/-! Plain facts on the abstract machine's lists and states. -/
set_option autoImplicit false
set_option linter.unusedVariables false
namespace Go.Ab

section force
variable {R : Type}
theorem forceL_eq {f : AV → (AV → R) → R} (hf : ∀ x k, f x k = k x) : ∀ (xs : List AV) (k : List AV → R), forceL f xs k = k xs
  | [], k => rfl
  | x :: xs, k => by
    show f x (fun x => forceL f xs fun xs => k (x :: xs)) = _
    rw [hf, forceL_eq hf xs]
theorem force1_eq (v : AV) (k : AV → R) : force1 v k = k v := by cases v <;> rfl
theorem force2_eq (v : AV) (k : AV → R) : force2 v k = k v := by
  unfold force2
  split
  · exact forceL_eq force1_eq _ _
  · rw [force1_eq]
    split
    · exact forceL_eq force1_eq _ _
    · rfl
  · exact forceL_eq force1_eq _ _
  · exact force1_eq _ _
theorem forceAV_eq (v : AV) (k : AV → R) : forceAV v k = k v := by
  unfold forceAV
  split
  · exact forceL_eq force2_eq _ _
  · exact force2_eq _ _
theorem forceN_eq (n : Nat) (k : Nat → Out) : forceN n k = k n := by cases n <;> rfl
theorem forceNL_eq : ∀ (l : List Nat) (k : List Nat → Out), forceNL l k = k l
  | [], k => rfl
  | n :: l, k => by
    show forceN n (fun n => forceNL l fun l => k (n :: l)) = _
    rw [forceN_eq, forceNL_eq l]
theorem forceKn_eq : ∀ (l : List (Nat × Bool)) (k : List (Nat × Bool) → Out), forceKn l k = k l
  | [], k => rfl
  | (n, b) :: l, k => by
    show forceN n (fun n => forceKn l fun l => k ((n, b) :: l)) = _
    rw [forceN_eq, forceKn_eq l]
theorem forceRec_eq (r : Rec) (k : Rec → Out) : forceRec r k = k r := by
  obtain ⟨i, anc, a, b, c, d⟩ := r
  show forceN i (fun i => forceN anc fun anc => forceNL a fun a => forceNL b fun b => forceNL c fun c => forceNL d fun d => k ⟨i, anc, a, b, c, d⟩) = _
  rw [forceN_eq, forceN_eq, forceNL_eq, forceNL_eq, forceNL_eq, forceNL_eq]
theorem drawStep_eq (C : Cfg) (o : Oper) (ih : DrawK) (i : Nat) (recs : List Rec) (pan : Option (Nat × Dat)) (owns : List Nat) (vals : List AV) (st : St) (k : St → Out) (gT : List Nat) (kn : List (Nat × Bool)) (f : Eff) :
    drawStep C o ih i recs pan owns vals st k gT kn f = cond (dstOk C.n o.dst f.v && effOk f o.dst && clear (ancOf recs o.after.toList) (recOf i (ancOf recs o.after.toList) gT o st f) recs)
      (f.appK o.dst st fun st' => ih (i + 1) (recOf i (ancOf recs o.after.toList) gT o st f :: recs) pan (ownsPut st ((f.ws o.dst).map (·.1)) ++ owns) ((f.ws o.dst).map (·.2) ++ vals) (kn.filter fun p => !(memN p.1 ((f.ws o.dst).map (·.1)))) st' k) none := by
  unfold drawStep
  rw [forceRec_eq]
  have e : (fun st' => forceNL (ownsPut st ((f.ws o.dst).map (·.1)) ++ owns) fun owns' => forceL forceAV ((f.ws o.dst).map (·.2) ++ vals) fun vals' => forceKn (kn.filter fun p => !(memN p.1 ((f.ws o.dst).map (·.1)))) fun kn' =>
        forceN (i + 1) fun i' => ih i' (recOf i (ancOf recs o.after.toList) gT o st f :: recs) pan owns' vals' kn' st' k) =
      fun st' => ih (i + 1) (recOf i (ancOf recs o.after.toList) gT o st f :: recs) pan (ownsPut st ((f.ws o.dst).map (·.1)) ++ owns) ((f.ws o.dst).map (·.2) ++ vals) (kn.filter fun p => !(memN p.1 ((f.ws o.dst).map (·.1)))) st' k := by
    funext st'
    rw [forceNL_eq, forceL_eq forceAV_eq, forceKn_eq, forceN_eq]
  rw [e]
  rfl
theorem forceB_eq : ∀ (l : List (Nat × List AV)) (k : List (Nat × List AV) → R), forceB l k = k l
  | [], k => rfl
  | (i, cs) :: l, k => by
    show forceL forceAV cs (fun cs => forceB l fun l => k ((i, cs) :: l)) = _
    rw [forceL_eq forceAV_eq, forceB_eq l]
theorem forceT_eq : ∀ (l : List (Nat × AV)) (k : List (Nat × AV) → R), forceT l k = k l
  | [], k => rfl
  | (i, v) :: l, k => by
    show forceAV v (fun v => forceT l fun l => k ((i, v) :: l)) = _
    rw [forceAV_eq, forceT_eq l]
theorem putK_eq (st : St) (t : Nat) (v : AV) (k : St → R) : putK st t v k = k (st.put t v) := by
  unfold putK St.put St.get
  rw [forceAV_eq]
  cases st with
  | mk ts bs =>
    simp only
    cases h : getA t ts <;> simp only [forceT_eq]
theorem putsK_eq : ∀ (l : List (Nat × AV)) (st : St) (k : St → R), putsK l st k = k (putAll l st)
  | [], st, k => rfl
  | (t, v) :: l, st, k => by
    show putK st t v (fun st => putsK l st k) = _
    rw [putK_eq, putsK_eq l]
    rfl
theorem updsK_eq : ∀ (l : List (Nat × AV)) (st : St) (k : St → R), updsK l st k = k (updAll l st)
  | [], st, k => rfl
  | (t, v) :: l, ⟨ts, bs⟩, k => by
    show forceAV v (fun v => updsK l ⟨(t, v) :: ts, bs⟩ k) = _
    rw [forceAV_eq, updsK_eq l]
    rfl
theorem boxesK_eq : ∀ (l : List (Nat × List AV)) (st : St) (k : St → R), boxesK l st k = k (boxAll l st)
  | [], st, k => rfl
  | (i, cs) :: l, ⟨ts, bs⟩, k => by
    show forceB (setB i cs bs) (fun bs => boxesK l ⟨ts, bs⟩ k) = _
    rw [forceB_eq, boxesK_eq l]
    rfl
theorem appK_eq (f : Eff) (dst : Option Nat) (st : St) (k : St → R) : f.appK dst st k = k (f.app dst st) := by
  unfold Eff.appK Eff.app
  rw [putsK_eq, updsK_eq, boxesK_eq]
  cases dst with
  | none => rfl
  | some t => exact putK_eq _ _ _ _
end force

/-! ### reading a state -/
theorem nbeq_false {a b : Nat} (h : ¬ a = b) : Nat.beq a b = false := Bool.eq_false_iff.2 fun e => h (Nat.eq_of_beq_eq_true e)
theorem getA_nil (k : Nat) : getA k [] = .undef := rfl
theorem getA_cons (k t : Nat) (v : AV) (l : List (Nat × AV)) : getA k ((t, v) :: l) = if k = t then v else getA k l := by
  show cond (Nat.beq k t) v (getA k l) = _
  by_cases h : k = t
  · subst h; simp [Nat.beq_refl]
  · have : Nat.beq k t = false := nbeq_false h
    simp [this, h]
theorem getB_nil (k : Nat) : getB k [] = none := rfl
theorem getB_cons (k t : Nat) (v : List AV) (l : List (Nat × List AV)) : getB k ((t, v) :: l) = if k = t then some v else getB k l := by
  show cond (Nat.beq k t) (some v) (getB k l) = _
  by_cases h : k = t
  · subst h; simp [Nat.beq_refl]
  · have : Nat.beq k t = false := nbeq_false h
    simp [this, h]
theorem getB_setB (k t : Nat) (v : List AV) : ∀ l : List (Nat × List AV), getB k (setB t v l) = if k = t then some v else getB k l
  | [] => by
    show getB k [(t, v)] = _
    rw [getB_cons]
  | (u, x) :: l => by
    show getB k (cond (Nat.beq t u) ((t, v) :: l) ((u, x) :: setB t v l)) = _
    by_cases h : t = u
    · subst h
      simp only [Nat.beq_refl, cond_true, getB_cons]
      split <;> simp_all
    · have : Nat.beq t u = false := nbeq_false h
      rw [this, cond_false, getB_cons, getB_setB k t v l, getB_cons]
      by_cases h1 : k = u
      · subst h1
        have : ¬ k = t := fun e => h e.symm
        simp [this]
      · simp [h1]

theorem getA_map (f : AV → AV) (hf : f .undef = .undef) (k : Nat) : ∀ l : List (Nat × AV), getA k (l.map fun p => (p.1, f p.2)) = f (getA k l)
  | [] => by simp [getA_nil, hf]
  | (t, v) :: l => by
    simp only [List.map_cons, getA_cons, getA_map f hf k l]
    split <;> rfl

theorem get_put (st : St) (t u : Nat) (v : AV) :
    (st.put t v).get u = if u = t then v else if isOwn (st.get t) = true ∧ (st.get u).refs t = true then .undef else st.get u := by
  unfold St.put
  have key : ∀ ts : List (Nat × AV), getA u (ts.map fun p => (p.1, cond (p.2.refs t) .undef p.2)) = if (getA u ts).refs t = true then .undef else getA u ts := fun ts => by
    rw [getA_map (fun x => cond (x.refs t) .undef x) (by rfl)]
    cases h : (getA u ts).refs t <;> simp
  cases h : st.get t <;> simp only [St.get, getA_cons, isOwn] at * <;> first | rw [key]; simp | simp

theorem box_put (st : St) (t id : Nat) (v : AV) : (st.put t v).box id = st.box id := by
  unfold St.put
  split <;> rfl
theorem box_setBox (st : St) (i id : Nat) (cs : List AV) : (st.setBox i cs).box id = if id = i then some cs else st.box id := getB_setB id i cs st.boxes
theorem get_setBox (st : St) (i t : Nat) (cs : List AV) : (st.setBox i cs).get t = st.get t := rfl

/-! ### What a function's value captured -/
theorem idsOf_cap (x : Dat) : idsOf (capAV x) = [] := by cases x <;> rfl
theorem noRow_cap (x : Dat) : noRow (capAV x) = true := by cases x <;> rfl
theorem rename_cap (ids : List Nat) (x : Dat) : rename ids (capAV x) = capAV x := by cases x <;> rfl
theorem idss_cap (a : List AV) (cs : List Dat) : (a ++ cs.map capAV).flatMap idsOf = a.flatMap idsOf := by
  rw [List.flatMap_append]
  have : (cs.map capAV).flatMap idsOf = [] := List.flatMap_eq_nil_iff.2 fun x hx => by
    obtain ⟨y, _, rfl⟩ := List.mem_map.1 hx
    exact idsOf_cap y
  rw [this, List.append_nil]
theorem renames_cap (ids : List Nat) (a : List AV) (cs : List Dat) : renames ids (a ++ cs.map capAV) = renames ids a ++ cs.map capAV := by
  unfold renames
  rw [List.map_append, List.map_map]
  congr 1
  exact List.map_congr_left fun x _ => rename_cap ids x
theorem rows_cap (a : List AV) (cs : List Dat) : (a ++ cs.map capAV).all noRow = a.all noRow := by
  rw [List.all_append]
  have : (cs.map capAV).all noRow = true := List.all_eq_true.2 fun x hx => by
    obtain ⟨y, _, rfl⟩ := List.mem_map.1 hx
    exact noRow_cap y
  rw [this, Bool.and_true]
theorem evCallC_eq (C : Cfg) {R : Type} (fail : R) (kp : Dat → R) (box : Nat → Option (List AV)) (fl : Nat) (t : TypeId) (D : List AV → List (List AV) → Option Res) (args : List AV) (cs : List Dat) (tw : List (Nat × AV)) (k : Eff → R) :
    evCallC C fail kp box fl t D args cs tw k = evCallG C fail kp box fl t D (args ++ cs.map capAV) tw k := by
  unfold evCallC evCallG
  simp only [idsOfs, idss_cap, renames_cap, rows_cap]

end Go.Ab
end
