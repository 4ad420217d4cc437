/- Texts put together: Glb, Fa, Fb, Fc, Fd, Fe, Ff, Fg, Fh, Fi, Fj. -/
import Derived.Calls
import Derived.Orders
import Derived.Below
import Derived.Maps.AppendAt
import Derived.Laws.Rows
import Derived.Laws.Cells
import Derived.Laws.CopyRow
import Derived.Laws.MakeOwn
import Derived.Lib.Strings
import Derived.Great.BuildSlice
import Derived.Laws.OwnMore
import Derived.Laws.IdiomCopy
import Derived.Great.FillDense
/- What is known of package-level variables, and of functions that lie in data: seat r01. -/
namespace Go.Proofs.Rf
/-- The sorts of literals; the powers of ten. -/
def glob : Nat → Option (List Value)
  | 0 => some [.string ⟨#[48, 120]⟩, .int .u32 16, .func (.func 199) #[] #[], .string ⟨#[48, 111]⟩, .int .u32 8, .func (.func 200) #[] #[], .string ⟨#[48, 98]⟩, .int .u32 2, .func (.func 200) #[] #[], .string ⟨#[]⟩, .int .u32 10, .func (.func 200) #[] #[]]
  | 1 => some [.int .u64 1, .int .u64 10, .int .u64 100, .int .u64 1000, .int .u64 10000, .int .u64 100000, .int .u64 1000000, .int .u64 10000000, .int .u64 100000000, .int .u64 1000000000, .int .u64 10000000000, .int .u64 100000000000, .int .u64 1000000000000, .int .u64 10000000000000, .int .u64 100000000000000, .int .u64 1000000000000000, .int .u64 10000000000000000, .int .u64 100000000000000000, .int .u64 1000000000000000000, .int .u64 10000000000000000000]
  | _ => none
def treeR : Nat → Option (List Nat × List Nat)
  | _ => none
/-- Functions that may lie in data. -/
def fnsR : List Nat := [29, 30, 31, 32, 33, 34, 35, 36, 74, 75, 77, 79, 80, 103, 199, 200]
end Go.Proofs.Rf
/- Rf, part a: the abstract evaluator: typed data by value, a few local mutable blocks; the evaluation of the model's operations and code in continuation-passing style. Definitions alone. -/
namespace Go.Proofs.Rf
open Go

/-- Trees whose nodes lead to two trees. -/
inductive T2 (A : Type) where
  | nil
  | nd (x : A) (l r : T2 A)

def T2.isNil {A : Type} : T2 A → Bool
  | .nil => true
  | .nd _ _ _ => false
def T2.val {A : Type} (d : A) : T2 A → A
  | .nil => d
  | .nd x _ _ => x
def T2.left {A : Type} : T2 A → T2 A
  | .nil => .nil
  | .nd _ l _ => l
def T2.right {A : Type} : T2 A → T2 A
  | .nil => .nil
  | .nd _ _ r => r

/-- The shapes of data by value. -/
inductive Ty where
  | int (k : IntKind)
  | bool
  | str
  | sl (t : Ty)
  | pr (a b : Ty)
  | un
  | fk (f : Nat)
  | tr (a b : Ty)
  | ic
  | fv

@[reducible] def Ty.den : Ty → Type
  | .int _ => Int
  | .bool => Bool
  | .str => List UInt8
  | .sl t => List t.den
  | .pr a b => a.den × b.den
  | .un => Unit
  | .fk _ => Unit
  | .tr a b => T2 (a.den × b.den)
  | .ic => Bool
  | .fv => Int

def Ty.size : Ty → Nat
  | .pr a b => a.size + b.size
  | .un => 0
  | _ => 1

def Ty.dflt : (t : Ty) → t.den
  | .int _ => (0 : Int)
  | .bool => false
  | .str => ([] : List UInt8)
  | .sl t => ([] : List t.den)
  | .pr a b => (a.dflt, b.dflt)
  | .un => ()
  | .fk _ => ()
  | .tr _ _ => T2.nil
  | .ic => true
  | .fv => (0 : Int)

def ikEq : IntKind → IntKind → Bool
  | .i8, .i8 | .i16, .i16 | .i32, .i32 | .i64, .i64 | .u8, .u8 | .u16, .u16 | .u32, .u32 | .u64, .u64 => true
  | _, _ => false

theorem ikEq_eq : ∀ {j k : IntKind}, ikEq j k = true → j = k := by
  intro j k h
  cases j <;> cases k <;> first | rfl | (exact absurd h (by decide))

def Ty.eqv : (a b : Ty) → Option (PLift (a = b))
  | .int j, .int k => if h : ikEq j k = true then some ⟨by rw [ikEq_eq h]⟩ else none
  | .bool, .bool => some ⟨rfl⟩
  | .str, .str => some ⟨rfl⟩
  | .sl a, .sl b => match a.eqv b with
    | some h => some ⟨by rw [h.down]⟩
    | none => none
  | .pr a b, .pr c d => match a.eqv c, b.eqv d with
    | some h, some k => some ⟨by rw [h.down, k.down]⟩
    | _, _ => none
  | .tr a b, .tr c d => match a.eqv c, b.eqv d with
    | some h, some k => some ⟨by rw [h.down, k.down]⟩
    | _, _ => none
  | .un, .un => some ⟨rfl⟩
  | .ic, .ic => some ⟨rfl⟩
  | .fv, .fv => some ⟨rfl⟩
  | .fk f, .fk g => if h : Nat.beq f g = true then some ⟨by rw [Nat.eq_of_beq_eq_true h]⟩ else none
  | _, _ => none

def Ty.castL {a b : Ty} (h : a = b) (xs : List a.den) : List b.den := h ▸ xs

theorem Ty.castL_rfl {a : Ty} (xs : List a.den) : Ty.castL rfl xs = xs := rfl

/-- A seat's word on a datum: i, u, s, b, by kinds. -/
def tyOfR : List Nat → Ty
  | [] => .un
  | [0] => .int .i64
  | [1] => .int .u64
  | [2] => .str
  | [3] => .bool
  | k :: r => .pr (match k with
    | 0 => .int .i64
    | 1 => .int .u64
    | 2 => .str
    | _ => .bool) (tyOfR r)

/-- The types of nodes of trees (what lies ahead of the two trees, and behind them). -/
def treeOf (e : Nat) : Option (Ty × Ty) := match treeR e with
  | some (a, b) => some (tyOfR a, tyOfR b)
  | none => none

/-- Values of the abstract machine. -/
inductive AV where
  | d (t : Ty) (x : t.den)
  | un
  | ud
  | nl
  | np
  | ub
  | rf (b : Nat)
  | rs (b sz off len : Nat)
  | pt (b o : Nat)
  | pe (b sz i o : Nat)
  | ve (cs : List AV)
  | ag (cs : List AV)
  | tp (cs : List AV)
  | fn (f : Nat) (cs : List AV)
  | fm (f : Nat) (cs : List AV)
  | mp (b : Nat)
  | mnil
  | pa (b : Nat)

inductive Blk where
  | row (t : Ty) (e : Nat) (xs : List t.den) (rw : Bool)
  | box (e : Nat) (cs : List AV)
  | it (s : List UInt8) (pos : Nat)
  | map (kt : Ty) (va : Bool) (vt : Ty) (l : List (kt.den × vt.den))
  | dead

structure Eff where
  dst : AV
  upd : List (Nat × Blk)
  new : List Blk

/-- A type of the program, as far as it is wanted. -/
inductive TK where
  | int (k : IntKind)
  | bool
  | str
  | sl (e : Nat)
  | ar (n e : Nat)
  | st (fs : List (Nat × Nat))
  | pt (e : Nat)
  | mp (k e : Nat)
  | up
  | ifc
  | oth

structure TD where
  k : TK
  size : Nat
  bytes : Nat
  zero : List AV
  ty : Option Ty
  cmp : Bool

def TK.agg : TK → Bool
  | .ar _ _ | .st _ => true
  | _ => false

abbrev Tab := Nat → Option TD

abbrev CallO := List AV → (Nat → Blk) → Nat → (R : Type) → (Eff → Option R) → Option R

def avc : Value → AV
  | .int k n => .d (.int k) n
  | .bool b => .d .bool b
  | .string s => .d .str s.data.toList
  | .slice none 0 0 => .nl
  | .pointer none => .np
  | .map none => .mnil
  | .nilIface => .d .ic true
  | .nilFunc => .d .fv (0 : Int)
  | .func (.func f) a b => if (Nat.beq a.size 0 && Nat.beq b.size 0) = true then .fn f [] else .un
  | _ => .un

def ev (T : Nat → AV) : Operand → AV
  | .tmp t => T t
  | .const v => avc v
  | .func f => .fn f []
  | .global _ => .un

/-- An operand that may name a package-level variable: what is known to lie there. -/
def evG (T : Nat → AV) : Operand → AV
  | .global g => match glob g with
    | some us => .ve (us.map avc)
    | none => .un
  | x => ev T x

def unpack : (t : Ty) → t.den → List AV
  | .pr a b, x => unpack a x.1 ++ unpack b x.2
  | .un, _ => []
  | .fk f, _ => [.fn f []]
  | .int k, x => [.d (.int k) x]
  | .bool, x => [.d .bool x]
  | .str, x => [.d .str x]
  | .sl t, x => [.d (.sl t) x]
  | .tr a b, x => [.d (.tr a b) x]
  | .ic, x => [.d .ic x]
  | .fv, x => [.d .fv x]

def Ty.castT {a b c d : Ty} (h : a = c) (k : b = d) (x : T2 (a.den × b.den)) : T2 (c.den × d.den) := h ▸ k ▸ x

/-- A one-cell value as data of a type: rows of the call's own are frozen by it. -/
def dat1 (C : Nat → Blk) : (t : Ty) → AV → Option (t.den × List (Nat × Blk))
  | .int k, .d (.int k') n => if ikEq k k' = true then some (n, []) else none
  | .bool, .d .bool b => some (b, [])
  | .str, .d .str s => some (s, [])
  | .ic, .d .ic b => some (b, [])
  | .fv, .d .fv x => some (x, [])
  | .fv, .fn f [] => some (((f + 1 : Nat) : Int), [])
  | .sl t, .d (.sl t') xs => match t'.eqv t with
    | some h => some (Ty.castL h.down xs, [])
    | none => none
  | .sl _, .nl => some ([], [])
  | .sl t, .rf b => match C b with
    | .row t' e xs rw => match t'.eqv t with
      | some h => some (Ty.castL h.down xs, if rw = true then [(b, .row t' e xs false)] else [])
      | none => none
    | _ => none
  | .sl t, .rs b sz off len => match C b with
    | .row t' e xs rw => match t'.eqv t with
      | some h => if Nat.beq sz t.size = true then some (((Ty.castL h.down xs).drop off).take len, if rw = true then [(b, .row t' e xs false)] else []) else none
      | none => none
    | _ => none
  | .fk f, .fn f' [] => if Nat.beq f f' = true then some ((), []) else none
  | .tr a b, .d (.tr a' b') x => match a'.eqv a, b'.eqv b with
    | some h, some k => some (Ty.castT h.down k.down x, [])
    | _, _ => none
  | .tr _ _, .np => some (T2.nil, [])
  | _, _ => none

def pack (C : Nat → Blk) : (t : Ty) → List AV → Option (t.den × List AV × List (Nat × Blk))
  | .pr a b, cs => match pack C a cs with
    | some (x, r, f) => match pack C b r with
      | some (y, r', f') => some ((x, y), r', f ++ f')
      | none => none
    | none => none
  | .un, cs => some ((), cs, [])
  | .int k, c :: r => match dat1 C (.int k) c with
    | some (x, f) => some (x, r, f)
    | none => none
  | .bool, c :: r => match dat1 C .bool c with
    | some (x, f) => some (x, r, f)
    | none => none
  | .str, c :: r => match dat1 C .str c with
    | some (x, f) => some (x, r, f)
    | none => none
  | .sl t, c :: r => match dat1 C (.sl t) c with
    | some (x, f) => some (x, r, f)
    | none => none
  | .fk g, c :: r => match dat1 C (.fk g) c with
    | some (x, f) => some (x, r, f)
    | none => none
  | .ic, c :: r => match dat1 C .ic c with
    | some (x, f) => some (x, r, f)
    | none => none
  | .fv, c :: r => match dat1 C .fv c with
    | some (x, f) => some (x, r, f)
    | none => none
  | .tr a b, c :: r => match dat1 C (.tr a b) c with
    | some (x, f) => some (x, r, f)
    | none => none
  | _, [] => none

def eqBB : Bool → Bool → Bool
  | true, true | false, false => true
  | _, _ => false

def AV.isAg : AV → Bool
  | .ag _ => true
  | _ => false

def cellsOf : AV → List AV
  | .ag cs => cs
  | v => [v]

/-- A value as data of a type. -/
def dat (C : Nat → Blk) (t : Ty) (v : AV) : Option (t.den × List (Nat × Blk)) :=
  match v with
  | .un => none
  | .ud => none
  | v => match pack C t (cellsOf v) with
    | some (x, [], f) => some (x, f)
    | _ => none

/-- The value that stands for data (of one cell, or an aggregate). -/
def avD (agg : Bool) (t : Ty) (x : t.den) : AV :=
  if agg = true then .ag (unpack t x) else match unpack t x with
    | [v] => v
    | _ => .un

/-! ### Maps -/
/-- Types of keys. -/
def Ty.key : Ty → Bool
  | .int _ => true
  | .str => true
  | .bool => true
  | _ => false

def Ty.keq : (t : Ty) → t.den → t.den → Bool
  | .int _, (a : Int), (b : Int) => a == b
  | .str, (a : List UInt8), (b : List UInt8) => a == b
  | .bool, (a : Bool), (b : Bool) => a == b
  | _, _, _ => false

def lookM (kt vt : Ty) : List (kt.den × vt.den) → kt.den → Option vt.den
  | [], _ => none
  | p :: r, q => if kt.keq q p.1 = true then some p.2 else lookM kt vt r q

def setM (kt vt : Ty) : List (kt.den × vt.den) → kt.den → vt.den → List (kt.den × vt.den)
  | [], q, y => [(q, y)]
  | p :: r, q, y => if kt.keq q p.1 = true then (q, y) :: r else p :: setM kt vt r q y

def delM (kt vt : Ty) : List (kt.den × vt.den) → kt.den → List (kt.den × vt.den)
  | [], _ => []
  | p :: r, q => if kt.keq q p.1 = true then r else p :: delM kt vt r q

/-- Values of one cell. -/
def AV.one : AV → Bool
  | .un | .ud | .ag _ | .tp _ => false
  | _ => true

/-- Values of which something is known. -/
def AV.df : AV → Bool
  | .un | .ud => false
  | _ => true

def allOne : List AV → Bool
  | [] => true
  | a :: r => a.one && allOne r

def updLt (n : Nat) : List (Nat × Blk) → Bool
  | [] => true
  | (k, _) :: r => Nat.blt k n && updLt n r

def updIds : List (Nat × Blk) → List Nat
  | [] => []
  | (k, _) :: r => k :: updIds r

def memN (k : Nat) : List Nat → Bool
  | [] => false
  | j :: r => Nat.beq j k || memN k r

/-! ### Arithmetic -/
def bitop (op : BinOp) (k : IntKind) (x y : Int) : Int :=
  let a := BitVec.ofInt k.bits x
  let b := BitVec.ofInt k.bits y
  match op with
  | .and => k.wrap (a &&& b).toNat
  | .or => k.wrap (a ||| b).toNat
  | .xor => k.wrap (a ^^^ b).toNat
  | .andNot => k.wrap (a &&& ~~~b).toNat
  | _ => 0

/-- The greater one. -/
def imax (a b : Int) : Int := if b > a then b else a

/-- How long a slice or a string may be that is made. -/
def LIM : Nat := 4294967296

def bin {R : Type} (bt st : Bool) (op : BinOp) (a b : AV) (K : AV → Option R) : Option R :=
  match a, b with
  | .d (.int k) x, .d (.int k') y =>
    match op with
    | .shl => if y < 0 then none else K (.d (.int k) (k.wrap (x * 2 ^ (min y.toNat k.bits))))
    | .shr => if y < 0 then none else K (.d (.int k) (Int.fdiv x (2 ^ (min y.toNat k.bits))))
    | .add => if ikEq k k' = true then K (.d (.int k) (k.wrap (x + y))) else none
    | .sub => if ikEq k k' = true then K (.d (.int k) (k.wrap (x - y))) else none
    | .mul => if ikEq k k' = true then K (.d (.int k) (k.wrap (x * y))) else none
    | .quo => if ikEq k k' = true then (if y = 0 then none else K (.d (.int k) (k.wrap (Int.tdiv x y)))) else none
    | .rem => if ikEq k k' = true then (if y = 0 then none else K (.d (.int k) (Int.tmod x y))) else none
    | .and => if ikEq k k' = true then K (.d (.int k) (bitop .and k x y)) else none
    | .or => if ikEq k k' = true then K (.d (.int k) (bitop .or k x y)) else none
    | .xor => if ikEq k k' = true then K (.d (.int k) (bitop .xor k x y)) else none
    | .andNot => if ikEq k k' = true then K (.d (.int k) (bitop .andNot k x y)) else none
    | .eql => if ikEq k k' = true then K (.d .bool (x == y)) else none
    | .neq => if ikEq k k' = true then K (.d .bool (x != y)) else none
    | .lss => if ikEq k k' = true then K (.d .bool (decide (x < y))) else none
    | .leq => if ikEq k k' = true then K (.d .bool (decide (x ≤ y))) else none
    | .gtr => if ikEq k k' = true then K (.d .bool (decide (x > y))) else none
    | .geq => if ikEq k k' = true then K (.d .bool (decide (x ≥ y))) else none
  | .d .bool x, .d .bool y =>
    match op with
    | .eql => if bt = true then K (.d .bool (x == y)) else none
    | .neq => if bt = true then K (.d .bool (!(x == y))) else none
    | _ => none
  | .d (.sl _) x, .nl =>
    match op with
    | .eql => if st = true then (if 0 < x.length then K (.d .bool false) else K .ub) else none
    | .neq => if st = true then (if 0 < x.length then K (.d .bool true) else K .ub) else none
    | _ => none
  | .nl, .nl =>
    match op with
    | .eql => if st = true then K (.d .bool true) else none
    | .neq => if st = true then K (.d .bool false) else none
    | _ => none
  | .d .str x, .d .str y =>
    match op with
    | .eql => K (.d .bool (x == y))
    | .neq => K (.d .bool (!(x == y)))
    | .lss => K (.d .bool (Op.bytesLess x y))
    | .leq => K (.d .bool (Op.bytesLess x y || x == y))
    | .gtr => K (.d .bool (!(Op.bytesLess x y || x == y)))
    | .geq => K (.d .bool (!(Op.bytesLess x y)))
    | .add => if x.length + y.length ≤ LIM then K (.d .str (x ++ y)) else none
    | _ => none
  | _, _ => none

def uny {R : Type} (op : UnOp) (a : AV) (K : AV → Option R) : Option R :=
  match a with
  | .d (.int k) x =>
    match op with
    | .neg => K (.d (.int k) (k.wrap (0 - x)))
    | .xor => K (.d (.int k) (bitop .xor k (if k.signed then -1 else k.max) x))
    | _ => none
  | .d .bool b =>
    match op with
    | .not => K (.d .bool (!b))
    | _ => none
  | _ => none

/-! ### Operations -/
section
variable (TT : Tab)

def loadC (tt : Nat) (cs : List AV) : Option AV :=
  match TT tt with
  | some td => if td.k.agg = true then (if td.size ≤ cs.length then some (.ag (cs.take td.size)) else none) else match cs with
    | v :: _ => some v
    | [] => none
  | none => none

/-- cs with vs from place o on. -/
def splice (cs : List AV) (o : Nat) (vs : List AV) : List AV := cs.take o ++ vs ++ cs.drop (o + vs.length)

def fieldOf (tt f : Nat) : Option (Nat × Nat) :=
  match TT tt with
  | some td => match td.k with
    | .st fs => fs[f]?
    | _ => none
  | none => none

def lenOf (C : Nat → Blk) : AV → Option Int
  | .d (.sl _) xs => some xs.length
  | .nl => some 0
  | .rf b => match C b with
    | .row _ _ xs _ => some (xs.length : Int)
    | _ => none
  | .rs _ _ _ len => some len
  | _ => none

/-- A slice's elements: the block that they lie in is frozen by it. -/
def elems (C : Nat → Blk) (t : Ty) (v : AV) : Option (List t.den × List (Nat × Blk)) := dat1 C (.sl t) v

def fillC (place : Nat → Option (Nat × Nat)) (cs : List AV) : List (Nat × AV) → Option (List AV)
  | [] => some cs
  | (i, v) :: r => match place i with
    | some (off, size) => if (Nat.beq (cellsOf v).length size && Nat.ble (off + size) cs.length) = true then fillC place (splice cs off (cellsOf v)) r else none
    | none => none

def sizeT (tt : Nat) : Nat := match TT tt with
  | some td => td.size
  | none => 0

def placeSt (fs : List (Nat × Nat)) (i : Nat) : Option (Nat × Nat) := match fs[i]? with
  | some p => some (p.1, sizeT TT p.2)
  | none => none

def isBoolT (tt : Nat) : Bool := match TT tt with
  | some td => match td.k with
    | .bool => true
    | _ => false
  | none => false

def isSlT (tt : Nat) : Bool := match TT tt with
  | some td => match td.k with
    | .sl _ => true
    | _ => false
  | none => false

def packAll (C : Nat → Blk) (t : Ty) : (n : Nat) → (i : Nat) → List (Nat × AV) → Option (List t.den × List (Nat × Blk))
  | 0, _, [] => some ([], [])
  | n + 1, i, (j, v) :: r => if Nat.beq i j = true then (match dat C t v with
      | some (x, f) => match packAll C t n (i + 1) r with
        | some (xs, f') => some (x :: xs, f ++ f')
        | none => none
      | none => none) else none
  | _, _, _ => none

def chain {R : Type} (i : Nat) (b : Nat) (o sz : Nat) (x : Int) (K : AV → Option R) : (n : Nat) → Option R
  | 0 => none
  | n + 1 => if x = (i : Int) then K (.pt b (o + i * sz)) else chain (i + 1) b o sz x K n

/-- A place in an array that is read alone. -/
def chainV {R : Type} (i : Nat) (sz : Nat) (cs : List AV) (x : Int) (K : AV → Option R) : (n : Nat) → Option R
  | 0 => none
  | n + 1 => if x = (i : Int) then K (.ve (cs.drop (i * sz))) else chainV (i + 1) sz cs x K n

/-- An element of an array that is a value. -/
def chainA {R : Type} (TT : Tab) (e sz : Nat) (cs : List AV) (x : Int) (K : AV → Option R) : (i n : Nat) → Option R
  | _, 0 => none
  | i, n + 1 => if x = (i : Int) then (match loadC TT e (cs.drop (i * sz)) with
      | some y => K y
      | none => none) else chainA TT e sz cs x K (i + 1) n

def sliceGo {R : Type} (n l h : Int) (sub : AV) (K : AV → Option R) : Option R :=
  if 0 ≤ l then (if l ≤ h then (if h ≤ n then K sub else none) else none) else none

/-- The bounds: written, or the ends. -/
def sliceAt {R : Type} (n : Int) (lo hi : Option AV) (cut : Int → Int → AV) (full : Int → AV) (all : AV) (K : AV → Option R) : Option R :=
  match lo, hi with
  | none, none => K all
  | some (.d (.int _) l), none => sliceGo n l n (full l) K
  | none, some (.d (.int _) h) => sliceGo n 0 h (cut 0 h) K
  | some (.d (.int _) l), some (.d (.int _) h) => sliceGo n l h (cut l h) K
  | _, _ => none

def sliceOp {R : Type} (tt : Nat) (C : Nat → Blk) (v : AV) (lo hi : Option AV) (K : AV → Option R) : Option R :=
  match TT tt with
  | some td => match td.k, v with
    | .str, .d .str s => sliceAt s.length lo hi (fun l h => .d .str ((s.take h.toNat).drop l.toNat)) (fun l => .d .str (s.drop l.toNat)) v K
    | .sl e, .d (.sl t) xs => if ((TT e).isSome && Nat.beq t.size (sizeT TT e)) = true then
        sliceAt xs.length lo hi (fun l h => .d (.sl t) ((xs.take h.toNat).drop l.toNat)) (fun l => .d (.sl t) (xs.drop l.toNat)) v K else none
    | .sl e, .rf b => match C b with
      | .row t _ xs _ => if ((TT e).isSome && Nat.beq t.size (sizeT TT e)) = true then
          sliceAt xs.length lo hi (fun l h => .rs b t.size l.toNat (h.toNat - l.toNat)) (fun l => .rs b t.size l.toNat (xs.length - l.toNat)) v K else none
      | _ => none
    | .sl e, .rs b sz off len => if ((TT e).isSome && Nat.beq sz (sizeT TT e)) = true then
        sliceAt len lo hi (fun l h => .rs b sz (off + l.toNat) (h.toNat - l.toNat)) (fun l => .rs b sz (off + l.toNat) (len - l.toNat)) v K else none
    | _, _ => none
  | none => none

def kindOf (tt : Nat) : TK := match TT tt with
  | some td => td.k
  | none => .oth

/-- A part of an array in a row. -/
def sliceArr {R : Type} (tt : Nat) (C : Nat → Blk) (b : Nat) (lo hi : Option AV) (K : AV → Option R) : Option R :=
  match kindOf TT tt, C b with
  | .ar m el, .row t _ xs _ => if ((TT el).isSome && Nat.beq t.size (sizeT TT el) && Nat.blt 0 m) = true then (if m = xs.length then
      sliceAt (m : Int) lo hi (fun l h => .rs b t.size l.toNat (h.toNat - l.toNat)) (fun l => .rs b t.size l.toNat (m - l.toNat)) (.rs b t.size 0 m) K else none) else none
  | _, _ => none

def loadAV (C : Nat → Blk) (tt : Nat) : AV → Option AV
  | .pt b o' => match C b with
    | .box _ cs => loadC TT tt (cs.drop o')
    | _ => none
  | .pe b sz i o' => match C b with
    | .row t _ xs _ => if Nat.beq sz t.size = true then loadC TT tt ((unpack t (xs.getD i t.dflt)).drop o') else none
    | _ => none
  | .ve cs => loadC TT tt cs
  | _ => none

def fldAV (off : Nat) : AV → Option AV
  | .pt b o' => some (.pt b (o' + off))
  | .pe b s i o' => some (.pe b s i (o' + off))
  | .ve cs => some (.ve (cs.drop off))
  | _ => none

def idxAV {R : Type} (C : Nat → Blk) (e : Nat) (n : Int) (x : AV) (K : AV → Option R) : Option R :=
  match x with
  | .rf b => match C b with
    | .row t _ xs _ => if ((TT e).isSome && Nat.beq t.size (sizeT TT e)) = true then (if 0 ≤ n then (if n < (xs.length : Int) then K (.pe b t.size n.toNat 0) else none) else none) else none
    | _ => none
  | .rs b sz off len => if ((TT e).isSome && Nat.beq sz (sizeT TT e)) = true then (if 0 ≤ n then (if n < (len : Int) then K (.pe b sz (off + n.toNat) 0) else none) else none) else none
  | .d (.sl t) xs => if ((TT e).isSome && Nat.beq t.size (sizeT TT e)) = true then (if 0 ≤ n then (if n < (xs.length : Int) then K (.ve (unpack t (xs.getD n.toNat t.dflt))) else none) else none) else none
  | _ => none

/-- An element of an array in a row. -/
def arrAt {R : Type} (C : Nat → Blk) (m e : Nat) (b : Nat) (n : Int) (K : AV → Option R) : Option R :=
  match C b with
  | .row t _ xs _ => if ((TT e).isSome && Nat.beq t.size (sizeT TT e)) = true then (if 0 ≤ n then (if n < (m : Int) then (if n < (xs.length : Int) then K (.pe b t.size n.toNat 0) else none) else none) else none) else none
  | _ => none

/-- A node's cells. -/
def cellsT (a b : Ty) (x : T2 (a.den × b.den)) : List AV :=
  unpack a (x.val (a.dflt, b.dflt)).1 ++ (.d (.tr a b) x.left :: .d (.tr a b) x.right :: unpack b (x.val (a.dflt, b.dflt)).2)

/-- A new node. -/
def nodeC (C : Nat → Blk) (a b : Ty) (cs : List AV) : Option (T2 (a.den × b.den) × List (Nat × Blk)) :=
  match pack C a cs with
  | some (x, l :: r :: rest, f) => match dat1 C (.tr a b) l, dat1 C (.tr a b) r, pack C b rest with
    | some (l, f1), some (r, f2), some (y, [], f3) => some (.nd (x, y) l r, f ++ (f1 ++ (f2 ++ f3)))
    | _, _, _ => none
  | _ => none

/-- Pointers and maps held against each other. -/
def eqPM (k : TK) (a b : AV) : Option Bool :=
  match k, a, b with
  | .pt _, .np, .np => some true
  | .pt _, .pt _ _, .np => some false
  | .pt _, .pe _ _ _ _, .np => some false
  | .pt _, .ve _, .np => some false
  | .pt _, .np, .pt _ _ => some false
  | .pt e, .pt b o, .pt b' o' => if (Nat.beq b b' && Nat.beq o o' && Nat.blt 0 (sizeT TT e)) = true then some true else none
  | .mp _ _, .mnil, .mnil => some true
  | .mp _ _, .mp _, .mnil => some false
  | .mp _ _, .mnil, .mp _ => some false
  | .pt _, .d (.tr _ _) x, .np => some x.isNil
  | _, _, _ => none

def cmpT (tt : Nat) : Bool := match TT tt with
  | some td => td.cmp
  | none => false

mutual
/-- Values held against each other, by their type. -/
def eqV : Nat → Nat → AV → AV → Option Bool
  | 0, _, _, _ => none
  | n + 1, tt, a, b => match kindOf TT tt with
    | .int _ => (match a, b with
      | .d (.int j) x, .d (.int j') y => if ikEq j j' = true then some (x == y) else none
      | _, _ => none)
    | .bool => (match a, b with
      | .d .bool x, .d .bool y => some (x == y)
      | _, _ => none)
    | .str => (match a, b with
      | .d .str x, .d .str y => some (x == y)
      | _, _ => none)
    | .pt e => eqPM TT (.pt e) a b
    | .st fs => (match a, b with
      | .ag cs, .ag ds => if cmpT TT tt = true then eqF n fs cs ds else none
      | _, _ => none)
    | .ar m e => (match a, b with
      | .ag cs, .ag ds => if (TT e).isSome = true then eqA n e m 0 cs ds else none
      | _, _ => none)
    | _ => none
def eqF : Nat → List (Nat × Nat) → List AV → List AV → Option Bool
  | 0, _, _, _ => none
  | _ + 1, [], _, _ => some true
  | n + 1, p :: r, cs, ds => match loadC TT p.2 (cs.drop p.1), loadC TT p.2 (ds.drop p.1) with
    | some x, some y => (match eqV n p.2 x y, eqF n r cs ds with
      | some u, some v => some (u && v)
      | _, _ => none)
    | _, _ => none
def eqA : Nat → Nat → Nat → Nat → List AV → List AV → Option Bool
  | 0, _, _, _, _, _ => none
  | _ + 1, _, 0, _, _, _ => some true
  | n + 1, e, m + 1, i, cs, ds => match loadC TT e (cs.drop (i * sizeT TT e)), loadC TT e (ds.drop (i * sizeT TT e)) with
    | some x, some y => (match eqV n e x y, eqA n e m (i + 1) cs ds with
      | some u, some v => some (u && v)
      | _, _ => none)
    | _, _ => none
end

def eqAny (tt : Nat) (a b : AV) : Option Bool := match eqPM TT (kindOf TT tt) a b with
  | some r => some r
  | none => match kindOf TT tt with
    | .st _ | .ar _ _ => if cmpT TT tt = true then eqV TT 64 tt a b else none
    | _ => none

def eqNil (tt : Nat) (op : BinOp) (a b : AV) : Option Bool :=
  match op with
  | .eql => eqAny TT tt a b
  | .neq => match eqAny TT tt a b with
    | some r => some (!r)
    | none => none
  | _ => none

def kTy : TK → Option Ty
  | .int k => some (.int k)
  | .str => some .str
  | .bool => some .bool
  | _ => none

/-- What a map's type is told of: keys and elements. -/
def mapTy (tt : Nat) : Option (Ty × Bool × Ty) := match TT tt with
  | some td => match td.k with
    | .mp k e => match TT k, TT e with
      | some tk, some te => match kTy tk.k, te.ty with
        | some kt, some vt => some (kt, te.k.agg, vt)
        | _, _ => none
      | _, _ => none
    | _ => none
  | none => none

def Ty.castM {a b c d : Ty} (h : a = c) (k : b = d) (l : List (a.den × b.den)) : List (c.den × d.den) := h ▸ k ▸ l

def mapRoom (r : Option Operand) (T : Nat → AV) : Bool := match r with
  | none => true
  | some x => match ev T x with
    | .d (.int _) _ => true
    | _ => false

/-- A key as data; no row is frozen by it. -/
def keyOf (C : Nat → Blk) (kt : Ty) (y : AV) : Option kt.den := match dat1 C kt y with
  | some (q, []) => some q
  | _ => none

def mapLook {R : Type} (tt : Nat) (C : Nat → Blk) (x y : AV) (comma : Bool) (K : AV → Option R) : Option R :=
  match mapTy TT tt with
  | some (kt, va, vt) => match keyOf C kt y with
    | some q => match x with
      | .mnil => K (if comma = true then .tp [avD va vt vt.dflt, .d .bool false] else avD va vt vt.dflt)
      | .mp b => match C b with
        | .map kt' va' vt' l => match kt'.eqv kt, vt'.eqv vt with
          | some h, some k => if eqBB va' va = true then
              K (if comma = true then .tp [avD va vt ((lookM kt vt (Ty.castM h.down k.down l) q).getD vt.dflt), .d .bool (lookM kt vt (Ty.castM h.down k.down l) q).isSome]
                else avD va vt ((lookM kt vt (Ty.castM h.down k.down l) q).getD vt.dflt)) else none
          | _, _ => none
        | _ => none
      | _ => none
    | none => none
  | none => none

def mapSet {R : Type} (tt : Nat) (C : Nat → Blk) (x y z : AV) (K : Eff → Option R) : Option R :=
  match mapTy TT tt with
  | some (kt, va, vt) => match keyOf C kt y, dat C vt z with
    | some q, some (u, f) => match x with
      | .mp b => match C b with
        | .map kt' va' vt' l => match kt'.eqv kt, vt'.eqv vt with
          | some h, some k => if (eqBB va' va && eqBB z.isAg va && !(memN b (updIds f))) = true then
              K ⟨.un, f ++ [(b, .map kt va vt (setM kt vt (Ty.castM h.down k.down l) q u))], []⟩ else none
          | _, _ => none
        | _ => none
      | _ => none
    | _, _ => none
  | none => none

def mapDel {R : Type} (tt : Nat) (C : Nat → Blk) (x y : AV) (K : Eff → Option R) : Option R :=
  match mapTy TT tt with
  | some (kt, va, vt) => match keyOf C kt y with
    | some q => match x with
      | .mp b => match C b with
        | .map kt' va' vt' l => match kt'.eqv kt, vt'.eqv vt with
          | some h, some k => if eqBB va' va = true then
              K ⟨.un, [(b, .map kt va vt (delM kt vt (Ty.castM h.down k.down l) q))], []⟩ else none
          | _, _ => none
        | _ => none
      | _ => none
    | _ => none
  | none => none

/-- The first elements of a row of the call's own, as a row of its own. -/
def cutRow (C : Nat → Blk) : AV → Option (Nat × Blk)
  | .rs i sz off len => match C i with
    | .row t e xs true => if (Nat.beq off 0 && Nat.beq sz t.size) = true then some (i, .row t e (xs.take len) true) else none
    | _ => none
  | _ => none

/-- Pointers to unsafe.Pointer and back. -/
def unsf {R : Type} (C : Nat → Blk) (k k' : TK) (y : AV) (K : AV → Option R) : Option R :=
  match k, k', y with
  | .pt e, .up, .pt b o => match C b with
    | .box _ cs => if ((TT e).isSome && Nat.blt 0 (sizeT TT e) && Nat.blt o cs.length) = true then K (.pt b o) else none
    | _ => none
  | .up, .pt e, .pt b 0 => match C b with
    | .box be cs => if ((TT e).isSome && Nat.beq be e && Nat.blt 0 (sizeT TT e) && Nat.beq cs.length (sizeT TT e)) = true then K (.pt b 0) else none
    | _ => none
  | _, _, _ => none

/-- A row's elements, wherever it lies; where elements may be copied to. -/
def srcOf (C : Nat → Blk) (t : Ty) : AV → Option (List t.den)
  | .d (.sl t') xs => match t'.eqv t with
    | some h => some (Ty.castL h.down xs)
    | none => none
  | .nl => some []
  | .rf b => match C b with
    | .row t' _ xs _ => match t'.eqv t with
      | some h => some (Ty.castL h.down xs)
      | none => none
    | _ => none
  | .rs b sz off len => match C b with
    | .row t' _ xs _ => match t'.eqv t with
      | some h => if Nat.beq sz t'.size = true then some (((Ty.castL h.down xs).drop off).take len) else none
      | none => none
    | _ => none
  | _ => none

def dstOf (C : Nat → Blk) : AV → Option (Nat × Nat × Nat)
  | .rs b sz off len => match C b with
    | .row t _ _ true => if Nat.beq sz t.size = true then some (b, off, len) else none
    | _ => none
  | .rf b => match C b with
    | .row _ _ xs true => some (b, 0, xs.length)
    | _ => none
  | _ => none

def copyOp {R : Type} (tt : Nat) (C : Nat → Blk) (x y : AV) (K : Eff → Option R) : Option R :=
  match kindOf TT tt, dstOf C x with
  | .sl e, some (b, off, len) => match TT e, C b with
    | some te, .row t e' xs true => if Nat.beq t.size te.size = true then (match srcOf C t y with
      | some ys => K ⟨.d (.int .i64) ((min ys.length len : Nat) : Int), [(b, .row t e' (xs.take off ++ ys.take len ++ xs.drop (off + min ys.length len)) true)], []⟩
      | none => none) else none
    | _, _ => none
  | _, _ => none

def zeroU8 : List AV → Bool
  | [.d (.int .u8) n] => (n : Int) == 0
  | _ => false

/-- A string's bytes appended to a row of bytes. -/
def appStr {R : Type} (tt' e : Nat) (te : TD) (C : Nat → Blk) (nb : Nat) (x y : AV) (K : Eff → Option R) : Option R :=
  match kindOf TT tt', te.k, y with
  | .str, .int .u8, .d .str s => if (Nat.beq te.size 1 && Nat.beq te.bytes 1 && zeroU8 te.zero) = true then (match x with
    | .nl => if s.length ≤ LIM then K ⟨.rf nb, [], [.row (.int .u8) e (s.map fun b => (b.toNat : Int)) true]⟩ else none
    | .rf b => match C b with
      | .row (.int .u8) e' xs true => if Nat.beq e' e = true then (if xs.length + s.length ≤ LIM then K ⟨.rf nb, [(b, .dead)], [.row (.int .u8) e (xs ++ s.map fun b => (b.toNat : Int)) true]⟩ else none) else none
      | _ => none
    | _ => none) else none
  | _, _, _ => none

/-- The head of a slice's cells. -/
def sdata {R : Type} (C : Nat → Blk) (x : AV) (K : AV → Option R) : Option R :=
  match x with
  | .nl => K .np
  | .rf b => match C b with
    | .row t _ xs _ => if 0 < xs.length then K (.pe b t.size 0 0) else none
    | _ => none
  | _ => none

/-- The bytes of a row made a string; they are not written any more. -/
def ustr {R : Type} (tt : Nat) (C : Nat → Blk) (x y : AV) (K : Eff → Option R) : Option R :=
  match kindOf TT tt, x, y with
  | .pt e, .pe b 1 0 0, .d (.int .i64) n => match C b with
    | .row (.int .u8) e' xs true => if ((TT e).isSome && Nat.beq e' e && Nat.beq (sizeT TT e) 1) = true then (if n = (xs.length : Int) then (if xs.length ≤ LIM then
        K ⟨.d .str (xs.map fun n : Int => UInt8.ofNat n.toNat), [(b, .row (.int .u8) e' xs false)], []⟩ else none) else none) else none
    | _ => none
  | .pt _, .np, .d (.int .i64) n => if n = 0 then K ⟨.d .str [], [], []⟩ else none
  | _, _, _ => none

/-- An interface held against nil. -/
def eqIf (k : TK) (op : BinOp) (a : AV) (y : Operand) : Option Bool :=
  match k, a, y with
  | .ifc, .d .ic b, .const .nilIface => (match op with
    | .eql => some b
    | .neq => some (!b)
    | _ => none)
  | _, _, _ => none

/-- A rune's bytes. -/
def encR (n : Int) : List UInt8 := (Utf8.encode n).data.toList

/-- Arrays of more than eight numbers lie in rows. -/
def zerosK (k : IntKind) : List AV → Bool
  | [] => true
  | .d (.int k') n :: r => ikEq k k' && (n : Int) == 0 && zerosK k r
  | _ :: _ => false

def arrOf (td : TD) : Option (Nat × IntKind) := match td.k with
  | .ar n e => match kindOf TT e with
    | .int k => if (Nat.blt 8 n && Nat.ble n 1024 && Nat.beq td.zero.length n && Nat.beq (sizeT TT e) 1 && zerosK k td.zero) = true then some (n, k) else none
    | _ => none
  | _ => none

/-- One of some functions. -/
def amongF (Δ : Nat → Option CallO) {R : Type} (args : List AV) (C : Nat → Blk) (nb : Nat) (x : Int) (K : Eff → Option R) : List Nat → Option R
  | [] => none
  | g :: r => if x = ((g + 1 : Nat) : Int) then (match Δ g with
      | some co => co args C nb R K
      | none => none) else amongF Δ args C nb x K r

def evOp (Δ : Nat → Option CallO) {R : Type} (o : Oper) (T : Nat → AV) (C : Nat → Blk) (nb : Nat) (K : Eff → Option R) : Option R :=
  let v (a : AV) : Option R := K ⟨a, [], []⟩
  match o.op with
  | .move x | .assign x => v (ev T x)
  | .pick c a b => match ev T c with
    | .d .bool cb => match ev T a, ev T b with
      | .d .bool x, .d .bool y => v (.d .bool (if cb = true then x else y))
      | x, y => if cb = true then v x else v y
    | _ => none
  | .alloc e => match TT e with
    | some td => match arrOf TT td with
      | some (n, k) => K ⟨.pa nb, [], [.row (.int k) e (List.replicate n (0 : Int)) true]⟩
      | none => K ⟨.pt nb 0, [], [.box e td.zero]⟩
    | none => none
  | .box e x => match treeOf e with
    | some (a, b) => (match ev T x with
      | .ag cs => match nodeC C a b cs with
        | some (t, f) => K ⟨.d (.tr a b) t, f, []⟩
        | none => none
      | _ => none)
    | none => match ev T x with
      | .un => none
      | .ud => none
      | y => K ⟨.pt nb 0, [], [.box e (cellsOf y)]⟩
  | .build tt parts => match TT tt with
    | some td => match td.k with
      | .st fs => if (fs.all (fun p => (TT p.2).isSome) && parts.toList.all (fun p => (ev T p.2).df)) = true then (match fillC (placeSt TT fs) td.zero (parts.toList.map fun p => (p.1, ev T p.2)) with
        | some cs => v (.ag cs)
        | none => none) else none
      | .ar _ e => if ((TT e).isSome && parts.toList.all (fun p => (ev T p.2).df)) = true then (match fillC (fun i => some (i * sizeT TT e, sizeT TT e)) td.zero (parts.toList.map fun p => (p.1, ev T p.2)) with
        | some cs => v (.ag cs)
        | none => none) else none
      | _ => none
    | none => none
  | .buildSlice tt len parts => match TT tt with
    | some td => match td.k with
      | .sl e => match TT e with
        | some te => match te.ty with
          | some ty => match packAll C ty len 0 (parts.toList.map fun p => (p.1, ev T p.2)) with
            | some (xs, f) => if (Nat.blt 0 ty.size && Nat.ble (len * ty.size) 16777216) = true then K ⟨.rf nb, f, [.row ty e xs true]⟩ else none
            | none => none
          | none => none
        | none => none
      | _ => none
    | none => none
  | .load tt a => match loadAV TT C tt (evG T a) with
    | some x => v x
    | none => none
  | .store tt a x => match ev T a with
    | .pt b o' => match C b with
      | .box be cs => match cutRow C (ev T x) with
        | some (i, r) => if ((TT tt).isSome && Nat.beq 1 (sizeT TT tt) && Nat.ble (o' + 1) cs.length) = true then
            K ⟨.un, [(i, .dead), (b, .box be (splice cs o' [.rf nb]))], [r]⟩ else none
        | none => if ((TT tt).isSome && allOne (cellsOf (ev T x)) && Nat.beq (cellsOf (ev T x)).length (sizeT TT tt) && Nat.ble (o' + (cellsOf (ev T x)).length) cs.length) = true then
          K ⟨.un, [(b, .box be (splice cs o' (cellsOf (ev T x))))], []⟩ else none
      | _ => none
    | .pe b sz i o' => match C b with
      | .row t e xs true => if (Nat.beq sz t.size && (TT tt).isSome && allOne (cellsOf (ev T x)) && Nat.beq (cellsOf (ev T x)).length (sizeT TT tt) && Nat.ble (o' + (cellsOf (ev T x)).length) t.size) = true then
          (match pack C t (splice (unpack t (xs.getD i t.dflt)) o' (cellsOf (ev T x))) with
          | some (y, [], []) => K ⟨.un, [(b, .row t e (xs.set i y) true)], []⟩
          | _ => none) else none
      | _ => none
    | _ => none
  | .nilCheck x => match ev T x with
    | .pt b o' => v (.pt b o')
    | .pa b => v (.pa b)
    | .pe b s i o' => v (.pe b s i o')
    | .ve cs => v (.ve cs)
    | .d (.tr a b) x => if x.isNil = true then none else v (.ve (cellsT a b x))
    | .fn f cs => v (.fn f cs)
    | .fm f cs => v (.fm f cs)
    | _ => none
  | .binOp op tt x y _ => match eqIf (kindOf TT tt) op (ev T x) y with
    | some r => v (.d .bool r)
    | none => match eqNil TT tt op (ev T x) (ev T y) with
      | some r => v (.d .bool r)
      | none => bin (isBoolT TT tt) (isSlT TT tt) op (ev T x) (ev T y) v
  | .unOp op _ x => uny op (ev T x) v
  | .convert src dst x => match TT src, TT dst, ev T x with
    | some _, some td, .d (.int _) n => match td.k with
      | .int k => v (.d (.int k) (k.wrap n))
      | .str => v (.d .str (encR n))
      | _ => none
    | some ts, some td, .d .str s => match ts.k, td.k with
      | .str, .sl e => (match kindOf TT e with
        | .int .u8 => if s.length ≤ LIM then K ⟨.rf nb, [], [.row (.int .u8) e (s.map fun b => (b.toNat : Int)) false]⟩ else none
        | _ => none)
      | _, _ => none
    | some ts, some td, y => match ts.k, td.k with
      | .sl e, .str => match kindOf TT e, dat1 C (.sl (.int .u8)) y with
        | .int .u8, some (xs, _) => v (.d .str (xs.map fun n : Int => UInt8.ofNat n.toNat))
        | _, _ => none
      | _, _ => unsf TT C ts.k td.k y v
    | _, _, _ => none
  | .makeSlice tt l c => match TT tt with
    | some td => match td.k with
      | .sl e => match TT e with
        | some te => match te.ty, ev T l, ev T c with
          | some ty, .d (.int k) x, .d (.int k') y => if (ikEq k .i64 && ikEq k' .i64 && Nat.blt 0 ty.size && Nat.ble te.bytes 1024) = true then (if 0 ≤ x then (if x ≤ y then (if y ≤ (LIM : Int) then K ⟨.rf nb, [], [.row ty e (List.replicate x.toNat ty.dflt) true]⟩ else none) else none) else none) else none
          | _, _, _ => none
        | none => none
      | _ => none
    | none => none
  | .slice tt x lo hi none => match ev T x with
    | .pa b => sliceArr TT tt C b (lo.map (ev T)) (hi.map (ev T)) v
    | _ => sliceOp TT tt C (ev T x) (lo.map (ev T)) (hi.map (ev T)) v
  | .fieldAddr tt x f => match fieldOf TT tt f with
    | some (off, ft) => if Nat.blt 0 (sizeT TT ft) = true then (match fldAV off (evG T x) with
      | some y => v y
      | none => none) else none
    | none => none
  | .field tt x f => match fieldOf TT tt f with
    | some (off, ft) => match ev T x with
      | .ag cs => match loadC TT ft (cs.drop off) with
        | some y => v y
        | none => none
      | _ => none
    | none => none
  | .indexAddr tt x ix => match TT tt, ev T ix with
    | some td, .d (.int _) n => match td.k with
      | .sl e => idxAV TT C e n (ev T x) v
      | .ar m e => match evG T x with
        | .pt b o' => if (TT e).isSome = true then chain 0 b o' (sizeT TT e) n v m else none
        | .ve cs => if (TT e).isSome = true then chainV 0 (sizeT TT e) cs n v m else none
        | .pa b => arrAt TT C m e b n v
        | _ => none
      | _ => none
    | _, _ => none
  | .index tt x ix => match TT tt, ev T ix, ev T x with
    | some td, .d (.int _) n, .d .str s => match td.k with
      | .str => if 0 ≤ n then (if n < (s.length : Int) then v (.d (.int .u8) ((s.getD n.toNat 0).toNat : Int)) else none) else none
      | _ => none
    | some td, .d (.int _) n, .ag cs => match td.k with
      | .ar m e => if (TT e).isSome = true then chainA TT e (sizeT TT e) cs n v 0 m else none
      | _ => none
    | _, _, _ => none
  | .extract x i => match ev T x with
    | .tp cs => match cs[i]? with
      | some y => v y
      | none => none
    | _ => none
  | .makeFunc (.func f) first captured => if (Nat.beq first.size 0) = true then v (.fn f (captured.toList.map (ev T))) else (if (Nat.beq captured.size 0) = true then v (.fm f (first.toList.map (ev T))) else none)
  | .range tt x => match kindOf TT tt, ev T x with
    | .str, .d .str s => K ⟨.pt nb 0, [], [.it s 0]⟩
    | _, _ => none
  | .next x true => match ev T x with
    | .pt b 0 => match C b with
      | .it s pos => if pos < s.length then K ⟨.tp [.d .bool true, .d (.int .i64) (pos : Int), .d (.int .i32) ((Utf8.decode ⟨s.toArray⟩ pos).1 : Int)], [(b, .it s (pos + (Utf8.decode ⟨s.toArray⟩ pos).2))], []⟩
          else v (.tp [.d .bool false])
      | _ => none
    | _ => none
  | .call c => match c.callee with
    | .builtin .len => match c.args.toList, c.argTypes.toList with
      | [x], [tt] => match kindOf TT tt, ev T x with
        | .str, .d .str s => v (.d (.int .i64) (s.length : Int))
        | .mp _ _, .mnil => v (.d (.int .i64) 0)
        | .mp _ _, .mp b => match C b with
          | .map _ _ _ l => v (.d (.int .i64) (l.length : Int))
          | _ => none
        | .sl _, y => match lenOf C y with
          | some n => v (.d (.int .i64) n)
          | none => none
        | _, _ => none
      | _, _ => none
    | .builtin .append => match c.args.toList, c.argTypes.toList with
      | [x, y], [tt, tt'] => match TT tt with
        | some td => match td.k with
          | .sl e => match TT e with
            | some te => match te.ty with
              | some ty => if (Nat.beq tt tt' && Nat.blt 0 ty.size && Nat.ble te.bytes 1024) = true then (match elems C ty (ev T y) with
                | some (ys, f) => match ev T x with
                  | .nl => if ys.length ≤ LIM then K ⟨.rf nb, f, [.row ty e ys true]⟩ else none
                  | .rf b => match C b with
                    | .row t e' xs true => match t.eqv ty with
                      | some h => if (Nat.beq e' e && !(memN b (updIds f))) = true then (if xs.length + ys.length ≤ LIM then K ⟨.rf nb, f ++ [(b, .dead)], [.row ty e (Ty.castL h.down xs ++ ys) true]⟩ else none) else none
                      | none => none
                    | _ => none
                  | _ => none
                | none => none) else appStr TT tt' e te C nb (ev T x) (ev T y) K
              | none => none
            | none => none
          | _ => none
        | none => none
      | _, _ => none
    | .builtin .copy => match c.args.toList, c.argTypes.toList with
      | [x, y], [tt, _] => copyOp TT tt C (ev T x) (ev T y) K
      | _, _ => none
    | .builtin .max => match c.args.toList with
      | [x, y] => match ev T x, ev T y with
        | .d (.int k) a, .d (.int _) b => v (.d (.int k) (imax a b))
        | _, _ => none
      | _ => none
    | .value f => match ev T f with
      | .fn g cs => match Δ g with
        | some co => co (c.args.toList.map (ev T) ++ cs) C nb R K
        | none => none
      | .fm g cs => match Δ g with
        | some co => co (cs ++ c.args.toList.map (ev T)) C nb R K
        | none => none
      | .d .fv x => amongF Δ (c.args.toList.map (ev T)) C nb x K fnsR
      | _ => none
    | .builtin .delete => (match c.args.toList, c.argTypes.toList with
      | [x, y], [tt, _] => mapDel TT tt C (ev T x) (ev T y) K
      | _, _ => none)
    | .builtin .unsafeSliceData => (match c.args.toList with
      | [x] => sdata C (ev T x) v
      | _ => none)
    | .builtin .unsafeString => (match c.args.toList, c.argTypes.toList with
      | [x, y], [tt, _] => ustr TT tt C (ev T x) (ev T y) K
      | _, _ => none)
    | _ => none
  | .makeMap tt r => match mapTy TT tt with
    | some (kt, va, vt) => if mapRoom r T = true then K ⟨.mp nb, [], [.map kt va vt []]⟩ else none
    | none => none
  | .lookup tt x ix comma => mapLook TT tt C (ev T x) (ev T ix) comma v
  | .mapUpdate tt m k x => mapSet TT tt C (ev T m) (ev T k) (ev T x) K
  | .insert tt m k x => mapSet TT tt C (ev T m) (ev T k) (ev T x) K
  | _ => none
end

/-! ### Regions and code -/
structure LogE where
  i : Nat
  touch : List Nat
  wr : List Nat
  new : List Nat

structure St where
  tm : List (Nat × AV)
  bl : List Blk

def getT : List (Nat × AV) → Nat → AV
  | [], _ => .un
  | (d, v) :: r, t => if Nat.beq d t = true then v else getT r t

def getB : List Blk → Nat → Blk
  | [], _ => .dead
  | b :: _, 0 => b
  | _ :: r, k + 1 => getB r k

def setB : List Blk → Nat → Blk → List Blk
  | [], _, _ => []
  | _ :: r, 0, b => b :: r
  | c :: r, k + 1, b => c :: setB r k b

def updB (bl : List Blk) : List (Nat × Blk) → List Blk
  | [] => bl
  | (k, b) :: r => updB (setB bl k b) r

mutual
def AV.ids : AV → List Nat
  | .mp b => [b]
  | .rf b => [b]
  | .rs b _ _ _ => [b]
  | .pt b _ => [b]
  | .pa b => [b]
  | .pe b _ _ _ => [b]
  | .ag cs => AV.idsL cs
  | .tp cs => AV.idsL cs
  | .fn _ cs => AV.idsL cs
  | .fm _ cs => AV.idsL cs
  | _ => []
def AV.idsL : List AV → List Nat
  | [] => []
  | a :: r => a.ids ++ AV.idsL r
end
def meetN : List Nat → List Nat → Bool
  | [], _ => false
  | k :: r, l => memN k l || meetN r l

/-- What an operation waits for, by bits. -/
def predsOf (acc : List Nat) : List Edge → Nat
  | [] => 0
  | e :: r => if Region.binds .any e = true then predsOf acc r ||| 2 ^ e.on ||| acc.getD e.on 0 else predsOf acc r

def masks : List Oper → List Nat → List Nat
  | [], acc => acc
  | o :: r, acc => masks r (acc ++ [predsOf acc o.after.toList])

/-- One of two operations waits for the other. -/
def waits (B : List Nat) (i j : Nat) : Bool := (B.getD j 0).testBit i || (B.getD i 0).testBit j

def apartL (a b : LogE) : Bool := !(meetN (a.wr ++ a.new) (b.touch ++ b.new)) && !(meetN (b.wr ++ b.new) (a.touch ++ a.new))

def logOk1 (B : List Nat) (a : LogE) : List LogE → Bool
  | [] => true
  | b :: r => (apartL a b || waits B a.i b.i) && logOk1 B a r

def subN : List Nat → List Nat → Bool
  | [], _ => true
  | k :: r, l => memN k l && subN r l

def logOk (B : List Nat) : List LogE → Bool
  | [] => true
  | a :: r => subN a.wr a.touch && logOk1 B a r && logOk B r

def edgesOk (i : Nat) : List Oper → Bool
  | [] => true
  | o :: r => (o.after.toList.all fun e => !Region.binds .any e || Nat.blt e.on i) && edgesOk (i + 1) r

def tmpsOk1 (ops : Array Oper) (B : List Nat) (i : Nat) (x : Oper) (j : Nat) : List Oper → Bool
  | [] => true
  | y :: r => (waits B i j || x.apart ops y) && tmpsOk1 ops B i x (j + 1) r

def tmpsOk (ops : Array Oper) (B : List Nat) (i : Nat) : List Oper → Bool
  | [] => true
  | x :: r => tmpsOk1 ops B i x (i + 1) r && tmpsOk ops B (i + 1) r

def drawOk (ops : Array Oper) (lg : List LogE) : Bool :=
  let B := masks ops.toList []
  edgesOk 0 ops.toList && tmpsOk ops B 0 ops.toList && logOk B lg

def rangeN (k : Nat) : Nat → List Nat
  | 0 => []
  | n + 1 => k :: rangeN (k + 1) n

/-- The places that an operation names. -/
def opTmps : List Operand → List Nat
  | [] => []
  | .tmp t :: r => t :: opTmps r
  | _ :: r => opTmps r

def resT (l : List Nat) (T : Nat → AV) : Nat → AV := fun t => if memN t l = true then T t else .un
def resC (l : List Nat) (C : Nat → Blk) : Nat → Blk := fun k => if memN k l = true then C k else .dead

def tmIds (T : Nat → AV) : List Nat → List Nat
  | [] => []
  | t :: r => (T t).ids ++ tmIds T r

/-- The blocks that boxes lead to. -/
def bIds (C : Nat → Blk) : List Nat → List Nat
  | [] => []
  | k :: r => (match C k with
    | .box _ cs => AV.idsL cs
    | _ => []) ++ bIds C r

def clo (C : Nat → Blk) : Nat → List Nat → List Nat
  | 0, l => l
  | n + 1, l => l ++ clo C n (bIds C l)

def isCallV : Op → Bool
  | .call c => match c.callee with
    | .value _ => true
    | _ => false
  | _ => false

/-- The blocks that an operation may look into: a value that is moved is not looked into; a call looks into what its arguments lead to. -/
def touchOf (o : Oper) (T : Nat → AV) (C : Nat → Blk) : List Nat := match o.op with
  | .move _ => []
  | .assign _ => []
  | _ => if isCallV o.op = true then clo C 3 (tmIds T (opTmps o.op.operands.toList)) else tmIds T (opTmps o.op.operands.toList)

section
variable (TT : Tab) (Δ : Nat → Option CallO) (n : Nat → Bool)

/-- An operation, over what it names alone where the region draws its order. -/
def evOpD {R : Type} (draw : Bool) (o : Oper) (s : St) (K : Eff → Option R) : Option R :=
  if draw = true then evOp TT Δ o (resT (opTmps o.op.operands.toList) (getT s.tm)) (resC (touchOf o (getT s.tm) (getB s.bl)) (getB s.bl)) s.bl.length K
  else evOp TT Δ o (getT s.tm) (getB s.bl) s.bl.length K

def logOf (i : Nat) (o : Oper) (s : St) (e : Eff) : LogE :=
  ⟨i, touchOf o (getT s.tm) (getB s.bl), updIds e.upd, rangeN s.bl.length e.new.length⟩

def stepE (o : Oper) (s : St) (e : Eff) : St :=
  match o.dst with
  | some d => ⟨(d, e.dst) :: s.tm, updB s.bl e.upd ++ e.new⟩
  | none => ⟨s.tm, updB s.bl e.upd ++ e.new⟩

def stepS (o : Oper) (s : St) : St :=
  match o.dst with
  | some d => ⟨(d, .ud) :: s.tm, s.bl⟩
  | none => s

def dstOk (n : Nat → Bool) (o : Oper) : Bool := match o.dst with
  | some d => n d
  | none => true

def evOps {R : Type} (ops : Array Oper) (draw : Bool) : List (Nat × Oper) → St → List LogE → (St → List LogE → Option R) → Option R
  | [], s, lg, K => K s lg
  | (i, o) :: r, s, lg, K =>
    if dstOk n o = true then
      (match o.guard with
      | none => evOpD TT Δ draw o s fun e => if updLt s.bl.length e.upd = true then evOps ops draw r (stepE o s e) (logOf i o s e :: lg) K else none
      | some (j, want) => match (ops[j]?).bind (·.dst) with
        | none => none
        | some g => match getT s.tm g with
          | .d .bool b => if b = true then
                (if want = true then evOpD TT Δ draw o ⟨(g, .d .bool true) :: s.tm, s.bl⟩ fun e => if updLt s.bl.length e.upd = true then evOps ops draw r (stepE o ⟨(g, .d .bool true) :: s.tm, s.bl⟩ e) (logOf i o ⟨(g, .d .bool true) :: s.tm, s.bl⟩ e :: lg) K else none
                 else evOps ops draw r (stepS o ⟨(g, .d .bool true) :: s.tm, s.bl⟩) lg K)
              else
                (if want = true then evOps ops draw r (stepS o ⟨(g, .d .bool false) :: s.tm, s.bl⟩) lg K
                 else evOpD TT Δ draw o ⟨(g, .d .bool false) :: s.tm, s.bl⟩ fun e => if updLt s.bl.length e.upd = true then evOps ops draw r (stepE o ⟨(g, .d .bool false) :: s.tm, s.bl⟩ e) (logOf i o ⟨(g, .d .bool false) :: s.tm, s.bl⟩ e :: lg) K else none)
          | .ud => evOps ops draw r (stepS o s) lg K
          | _ => none) else none

open Classical in
/-- What two ways come to, where they come to the same. -/
noncomputable def meet {R : Type} (x y : Option R) : Option R := if x = y then x else none

theorem meet_some {R : Type} {x y : Option R} {r : R} (h : meet x y = some r) : x = some r ∧ y = some r := by
  unfold meet at h
  split at h
  · rename_i e
    exact ⟨h, e ▸ h⟩
  · cases h

inductive Ex where
  | nm
  | ex (id : Nat)
  | rt

def zipN (i : Nat) : List Oper → List (Nat × Oper)
  | [] => []
  | o :: r => (i, o) :: zipN (i + 1) r

abbrev LoopO := St → (R : Type) → (Ex → St → Option R) → Option R

def firstReg : Code → Nat
  | .region i _ _ => i
  | .seq a _ => firstReg a
  | .block _ c | .loop c | .scope c => firstReg c
  | _ => 0

noncomputable def evC (Λ : Nat → Option LoopO) {R : Type} : Code → St → (Ex → St → Option R) → Option R
  | .skip, s, K => K .nm s
  | .region _ ops draw, s, K => evOps TT Δ n ops draw (zipN 0 ops.toList) s [] fun s' lg =>
      if draw = true then (if drawOk ops lg = true then K .nm s' else none) else K .nm s'
  | .seq a b, s, K => evC Λ a s fun e s' => match e with
      | .nm => evC Λ b s' K
      | .ex j => K (.ex j) s'
      | .rt => K .rt s'
  | .cond c a b, s, K => match ev (getT s.tm) c with
      | .d .bool g => if g = true then evC Λ a s K else evC Λ b s K
      | .ub => meet (evC Λ a s K) (evC Λ b s K)
      | _ => none
  | .block id c, s, K => evC Λ c s fun e s' => match e with
      | .nm => K .nm s'
      | .ex j => if Nat.beq j id = true then K .nm s' else K (.ex j) s'
      | .rt => K .rt s'
  | .loop c, s, K => match Λ (firstReg c) with
      | some l => l s R K
      | none => none
  | .rangeFunc _ _ asg _, s, K => match Λ (firstReg asg) with
      | some l => l s R K
      | none => none
  | .exit id, s, K => K (.ex id) s
  | .scope c, s, K => evC Λ c s K
  | .label _, s, K => K .nm s
  | .ret, s, K => K .rt s
  | _, _, _ => none
end

/-- The slots of a frame that may be written. -/
def upTo (k : Nat) (d : Nat) : Bool := Nat.blt d k
end Go.Proofs.Rf
/- Rf, part b: what it means that data, values and blocks of the abstract evaluator lie in a world; how that is kept. -/
namespace Go.Proofs.Rf
open Go Go.RowKit

/-! ### Data by value -/
def RzL {α : Type} (D : α → List Value → Prop) : List α → List Value → Prop
  | [], vs => vs = []
  | x :: r, vs => ∃ us vr, vs = us ++ vr ∧ D x us ∧ RzL D r vr

/-- A pointer that stands for a tree: nodes' cells as D says, the two pointers behind the first n. -/
def RzT {A : Type} (w : World) (ok : Nat → Prop) (D : A → List Value → Prop) (n : Nat) : T2 A → Value → Prop
  | .nil, v => v = .pointer none
  | .nd x l r, v => ∃ g us vl vr, v = .pointer (some ⟨g, 0, none⟩) ∧ ok g ∧ D x us ∧ us[n]? = some vl ∧ us[n + 1]? = some vr ∧ RzT w ok D n l vl ∧ RzT w ok D n r vr ∧ ∀ j u, us[j]? = some u → w.cell? ⟨g, j, none⟩ = some u

theorem RzT_mono {A : Type} {w w' : World} {ok ok' : Nat → Prop} {D D' : A → List Value → Prop} {n : Nat} (hc : ∀ g o v, ok g → w.cell? ⟨g, o, none⟩ = some v → w'.cell? ⟨g, o, none⟩ = some v) (hok : ∀ g, ok g → ok' g) (hD : ∀ x us, D x us → D' x us) :
    ∀ (x : T2 A) (v : Value), RzT w ok D n x v → RzT w' ok' D' n x v
  | .nil, _, h => h
  | .nd _ l r, _, ⟨g, us, vl, vr, e, h1, h2, h3, h4, h5, h6, h7⟩ => ⟨g, us, vl, vr, e, hok _ h1, hD _ _ h2, h3, h4, RzT_mono hc hok hD l vl h5, RzT_mono hc hok hD r vr h6, fun j u hu => hc _ _ _ h1 (h7 j u hu)⟩

theorem RzT_ptr {A : Type} {w : World} {ok : Nat → Prop} {D : A → List Value → Prop} {n : Nat} : ∀ (x : T2 A) (v : Value), RzT w ok D n x v → ∃ p, v = .pointer p
  | .nil, _, h => ⟨none, h⟩
  | .nd _ _ _, _, ⟨_, _, _, _, e, _⟩ => ⟨_, e⟩

/-- An interface, nil or not. -/
def isIf : Bool → Value → Prop
  | true, v => v = .nilIface
  | false, v => ∃ t x, v = .iface t x

def fvV : Int → Value
  | .ofNat (n + 1) => .func (.func n) #[] #[]
  | _ => .nilFunc

/-- Data t x is what the cells vs say; what its slices lead to lies in blocks of ok. -/
def Rz (w : World) (ok : Nat → Prop) : (t : Ty) → t.den → List Value → Prop
  | .int k, n, vs => vs = [.int k n]
  | .bool, b, vs => vs = [.bool b]
  | .str, s, vs => vs = [.string ⟨s.toArray⟩]
  | .sl t, xs, vs => ∃ A c, vs = [.slice A xs.length c] ∧ xs.length ≤ c ∧
      (0 < xs.length → ∃ g o cs, A = some ⟨g, o, none⟩ ∧ ok g ∧ RzL (Rz w ok t) xs cs ∧ ∀ j u, cs[j]? = some u → w.cell? ⟨g, o + j, none⟩ = some u)
  | .pr a b, x, vs => ∃ us vr, vs = us ++ vr ∧ Rz w ok a x.1 us ∧ Rz w ok b x.2 vr
  | .un, _, vs => vs = []
  | .fk f, _, vs => vs = [.func (.func f) #[] #[]]
  | .ic, b, vs => ∃ v, vs = [v] ∧ isIf b v
  | .fv, x, vs => vs = [fvV x]
  | .tr a b, x, vs => ∃ v, vs = [v] ∧ RzT w ok (fun p us => ∃ u1 vl vr u2, us = u1 ++ vl :: vr :: u2 ∧ Rz w ok a p.1 u1 ∧ Rz w ok b p.2 u2 ∧ u1.length = a.size) a.size x v

theorem RzL_mono {α : Type} {D D' : α → List Value → Prop} (h : ∀ x us, D x us → D' x us) : ∀ {xs : List α} {vs : List Value}, RzL D xs vs → RzL D' xs vs
  | [], _, hh => hh
  | _ :: _, _, ⟨us, vr, e, hx, hr⟩ => ⟨us, vr, e, h _ _ hx, RzL_mono h hr⟩

theorem RzL_append {α : Type} {D : α → List Value → Prop} : ∀ {xs ys : List α} {us vs : List Value}, RzL D xs us → RzL D ys vs → RzL D (xs ++ ys) (us ++ vs)
  | [], _, _, _, h, k => by
    have h : _ = [] := h
    subst h
    exact k
  | _ :: _, _, _, _, ⟨u1, vr, e, hx, hr⟩, k => ⟨u1, vr ++ _, by rw [e, List.append_assoc], hx, RzL_append hr k⟩

theorem RzL_length {α : Type} {D : α → List Value → Prop} {n : Nat} (hD : ∀ x us, D x us → us.length = n) : ∀ {xs : List α} {vs : List Value}, RzL D xs vs → vs.length = xs.length * n
  | [], _, h => by
    have h : _ = [] := h
    subst h
    simp
  | _ :: r, _, ⟨us, vr, e, hx, hr⟩ => by
    rw [e, List.length_append, hD _ _ hx, RzL_length hD hr, List.length_cons, Nat.add_mul, Nat.one_mul, Nat.add_comm]

/-- Element i's cells. -/
theorem RzL_get {α : Type} {D : α → List Value → Prop} {n : Nat} (hD : ∀ x us, D x us → us.length = n) : ∀ {xs : List α} {vs : List Value} (i : Nat) (x : α), RzL D xs vs → xs[i]? = some x →
    ∃ us, D x us ∧ us.length = n ∧ ∀ j u, us[j]? = some u → vs[i * n + j]? = some u
  | [], _, i, _, _, h => by simp at h
  | y :: r, _, 0, x, ⟨us, vr, e, hx, hr⟩, h => by
    simp only [List.getElem?_cons_zero, Option.some.injEq] at h
    subst h
    refine ⟨us, hx, hD _ _ hx, fun j u hu => ?_⟩
    have hj : j < us.length := by
      rcases Nat.lt_or_ge j us.length with h1 | h1
      · exact h1
      · rw [List.getElem?_eq_none h1] at hu; cases hu
    rw [e, Nat.zero_mul, Nat.zero_add, List.getElem?_append_left hj, hu]
  | y :: r, _, i + 1, x, ⟨us, vr, e, hx, hr⟩, h => by
    obtain ⟨us', h1, h2, h3⟩ := RzL_get hD i x hr (by simpa using h)
    refine ⟨us', h1, h2, fun j u hu => ?_⟩
    have hl := hD _ _ hx
    rw [e, List.getElem?_append_right (by rw [hl, Nat.add_mul]; omega), hl]
    have : (i + 1) * n + j - n = i * n + j := by rw [Nat.add_mul]; omega
    rw [this]
    exact h3 j u hu

theorem RzL_drop {α : Type} {D : α → List Value → Prop} {n : Nat} (hD : ∀ x us, D x us → us.length = n) : ∀ {xs : List α} {vs : List Value} (k : Nat), RzL D xs vs → RzL D (xs.drop k) (vs.drop (k * n))
  | xs, vs, 0, h => by simpa using h
  | [], _, k + 1, h => by
    have h : _ = [] := h
    subst h
    simp [RzL]
  | _ :: r, _, k + 1, ⟨us, vr, e, hx, hr⟩ => by
    have hl := hD _ _ hx
    have h1 : (k + 1) * n = us.length + k * n := by rw [hl, Nat.add_mul]; omega
    rw [List.drop_succ_cons, e, h1, List.drop_length_add_append]
    exact RzL_drop hD k hr

theorem RzL_take {α : Type} {D : α → List Value → Prop} {n : Nat} (hD : ∀ x us, D x us → us.length = n) : ∀ {xs : List α} {vs : List Value} (k : Nat), RzL D xs vs → RzL D (xs.take k) (vs.take (k * n))
  | xs, vs, 0, h => by simp [RzL]
  | [], _, k + 1, h => by
    have h : _ = [] := h
    subst h
    simp [RzL]
  | _ :: r, _, k + 1, ⟨us, vr, e, hx, hr⟩ => by
    have hl := hD _ _ hx
    refine ⟨us, vr.take (k * n), ?_, hx, RzL_take hD k hr⟩
    rw [e, List.take_append, hl, List.take_of_length_le (by rw [hl, Nat.add_mul]; omega)]
    congr 2
    rw [Nat.add_mul]; omega

theorem RzL_replicate {α : Type} {D : α → List Value → Prop} {x : α} {us : List Value} (h : D x us) : ∀ n, RzL D (List.replicate n x) (List.replicate n us).flatten
  | 0 => rfl
  | n + 1 => ⟨us, _, by rw [List.replicate_succ, List.flatten_cons], h, RzL_replicate h n⟩

theorem Rz_length {w : World} {ok : Nat → Prop} : ∀ (t : Ty) (x : t.den) (us : List Value), Rz w ok t x us → us.length = t.size
  | .int _, _, _, h => by rw [show _ = _ from h]; rfl
  | .bool, _, _, h => by rw [show _ = _ from h]; rfl
  | .str, _, _, h => by rw [show _ = _ from h]; rfl
  | .sl _, _, _, ⟨A, c, e, _⟩ => by rw [e]; rfl
  | .pr a b, _, _, ⟨us, vr, e, h1, h2⟩ => by rw [e, List.length_append, Rz_length a _ _ h1, Rz_length b _ _ h2]; rfl
  | .un, _, _, h => by rw [show _ = _ from h]; rfl
  | .fk _, _, _, h => by rw [show _ = _ from h]; rfl
  | .ic, _, _, ⟨v, e, _⟩ => by rw [e]; rfl
  | .fv, _, _, h => by rw [show _ = _ from h]; rfl
  | .tr _ _, _, _, ⟨v, e, _⟩ => by rw [e]; rfl

theorem Rz_mono {w w' : World} {ok ok' : Nat → Prop} (hc : ∀ g o v, ok g → w.cell? ⟨g, o, none⟩ = some v → w'.cell? ⟨g, o, none⟩ = some v) (hok : ∀ g, ok g → ok' g) :
    ∀ (t : Ty) (x : t.den) (us : List Value), Rz w ok t x us → Rz w' ok' t x us
  | .int _, _, _, h => h
  | .bool, _, _, h => h
  | .str, _, _, h => h
  | .sl t, _, _, ⟨A, c, e, hl, h⟩ => ⟨A, c, e, hl, fun hp => by
      obtain ⟨g, o, cs, e1, e2, e3, e4⟩ := h hp
      exact ⟨g, o, cs, e1, hok _ e2, RzL_mono (Rz_mono hc hok t) e3, fun j u hu => hc _ _ _ e2 (e4 j u hu)⟩⟩
  | .pr a b, _, _, ⟨us, vr, e, h1, h2⟩ => ⟨us, vr, e, Rz_mono hc hok a _ _ h1, Rz_mono hc hok b _ _ h2⟩
  | .un, _, _, h => h
  | .fk _, _, _, h => h
  | .ic, _, _, h => h
  | .fv, _, _, h => h
  | .tr a b, _, _, ⟨v, e, h⟩ => ⟨v, e, RzT_mono hc hok (fun x us ⟨u1, vl, vr, u2, e1, h1, h2, h3⟩ => ⟨u1, vl, vr, u2, e1, Rz_mono hc hok a _ _ h1, Rz_mono hc hok b _ _ h2, h3⟩) _ _ h⟩

/-- Every cell of data is one cell. -/
theorem Rz_one {w : World} {ok : Nat → Prop} : ∀ (t : Ty) (x : t.den) (us : List Value), Rz w ok t x us → ∀ u ∈ us, u.oneCell' = true
  | .int _, _, _, h => by rw [show _ = _ from h]; simp [Value.oneCell']
  | .bool, _, _, h => by rw [show _ = _ from h]; simp [Value.oneCell']
  | .str, _, _, h => by rw [show _ = _ from h]; simp [Value.oneCell']
  | .sl _, _, _, ⟨A, c, e, _⟩ => by rw [e]; simp [Value.oneCell']
  | .pr a b, _, _, ⟨us, vr, e, h1, h2⟩ => by
    rw [e]
    intro u hu
    rcases List.mem_append.1 hu with h | h
    · exact Rz_one a _ _ h1 u h
    · exact Rz_one b _ _ h2 u h
  | .un, _, _, h => by rw [show _ = _ from h]; simp
  | .fk _, _, _, h => by rw [show _ = _ from h]; simp [Value.oneCell']
  | .fv, x, _, h => by
    have h : _ = [fvV x] := h
    rw [h]
    have h2 : ∀ n : Int, (fvV n).oneCell' = true := fun n => by
      unfold fvV
      split <;> rfl
    intro u hu
    rw [List.mem_singleton.1 hu]
    exact h2 x
  | .ic, b, _, ⟨v, e, h⟩ => by
    rw [e]
    cases b with
    | true =>
      have h : v = .nilIface := h
      simp [h, Value.oneCell']
    | false =>
      obtain ⟨t, x, h⟩ := (show ∃ t x, v = .iface t x from h)
      simp [h, Value.oneCell']
  | .tr _ _, _, _, ⟨v, e, h⟩ => by
    obtain ⟨p, q⟩ := RzT_ptr _ _ h
    rw [e, q]
    simp [Value.oneCell']

theorem RzL_one {w : World} {ok : Nat → Prop} {t : Ty} : ∀ {xs : List t.den} {us : List Value}, RzL (Rz w ok t) xs us → ∀ u ∈ us, u.oneCell' = true
  | [], _, h => by
    have h : _ = [] := h
    subst h
    simp
  | _ :: _, _, ⟨us, vr, e, h1, h2⟩ => by
    rw [e]
    intro u hu
    rcases List.mem_append.1 hu with h | h
    · exact Rz_one t _ _ h1 u h
    · exact RzL_one h2 u h

/-! ### Values -/
mutual
def RelV (w : World) (ok : Nat → Prop) (ι : Nat → Option Value) : AV → Value → Prop
  | .d t x, v => Rz w ok t x [v]
  | .un, _ => True
  | .ud, v => v = undef
  | .nl, v => v = .slice none 0 0
  | .ub, v => ∃ b, v = .bool b
  | .np, v => v = .pointer none
  | .rf b, v => ι b = some v ∧ ∃ A n c, v = .slice A n c
  | .rs b sz off len, v => ∃ A n c A' c', ι b = some (.slice A n c) ∧ off + len ≤ n ∧ v = .slice A' len c' ∧ len ≤ c' ∧ (0 < len → ∃ g, A = some ⟨g, 0, none⟩ ∧ A' = some ⟨g, off * sz, none⟩) ∧ (off = 0 → A' = A ∧ c' = c)
  | .pt b o, v => ∃ g, ι b = some (.pointer (some ⟨g, 0, none⟩)) ∧ v = .pointer (some ⟨g, o, none⟩)
  | .pe b sz i o, v => ∃ g n c, ι b = some (.slice (some ⟨g, 0, none⟩) n c) ∧ i < n ∧ v = .pointer (some ⟨g, i * sz + o, none⟩)
  | .ve cs, v => ∃ g o us, v = .pointer (some ⟨g, o, none⟩) ∧ ok g ∧ RelL w ok ι cs us ∧ ∀ j u, us[j]? = some u → w.cell? ⟨g, o + j, none⟩ = some u
  | .ag cs, v => ∃ us : List Value, v = .agg us.toArray ∧ RelL w ok ι cs us
  | .tp cs, v => ∃ us : List Value, v = .tuple us.toArray ∧ RelL w ok ι cs us
  | .fn f cs, v => ∃ us : List Value, v = .func (.func f) #[] us.toArray ∧ RelL w ok ι cs us
  | .fm f cs, v => ∃ us : List Value, v = .func (.func f) us.toArray #[] ∧ RelL w ok ι cs us
  | .mp b, v => ∃ g, ι b = some (.map (some g)) ∧ v = .map (some g)
  | .mnil, v => v = .map none
  | .pa b, v => ∃ g n, ι b = some (.slice (some ⟨g, 0, none⟩) n n) ∧ v = .pointer (some ⟨g, 0, none⟩)
def RelL (w : World) (ok : Nat → Prop) (ι : Nat → Option Value) : List AV → List Value → Prop
  | [], vs => vs = []
  | a :: r, vs => ∃ v vr, vs = v :: vr ∧ RelV w ok ι a v ∧ RelL w ok ι r vr
end

section
variable {w w' : World} {ok ok' : Nat → Prop} {ι ι' : Nat → Option Value}

mutual
theorem RelV_mono (hc : ∀ g o v, ok g → w.cell? ⟨g, o, none⟩ = some v → w'.cell? ⟨g, o, none⟩ = some v) (hok : ∀ g, ok g → ok' g) (hι : ∀ k v, ι k = some v → ι' k = some v) :
    ∀ (a : AV) (v : Value), RelV w ok ι a v → RelV w' ok' ι' a v
  | .d t x, v, h => by
    simp only [RelV] at h ⊢
    exact Rz_mono hc hok t x _ h
  | .un, v, h => by simp only [RelV]
  | .ud, v, h => by simpa only [RelV] using h
  | .nl, v, h => by simpa only [RelV] using h
  | .ub, v, h => by simpa only [RelV] using h
  | .np, v, h => by simpa only [RelV] using h
  | .rf b, v, h => by
    simp only [RelV] at h ⊢
    exact ⟨hι _ _ h.1, h.2⟩
  | .rs b sz off len, v, h => by
    simp only [RelV] at h ⊢
    obtain ⟨A, n, c, A', c', h1, h2⟩ := h
    exact ⟨A, n, c, A', c', hι _ _ h1, h2⟩
  | .pt b o, v, h => by
    simp only [RelV] at h ⊢
    obtain ⟨g, h1, h2⟩ := h
    exact ⟨g, hι _ _ h1, h2⟩
  | .pe b sz i o, v, h => by
    simp only [RelV] at h ⊢
    obtain ⟨g, n, c, h1, h2⟩ := h
    exact ⟨g, n, c, hι _ _ h1, h2⟩
  | .ve cs, v, h => by
    simp only [RelV] at h ⊢
    obtain ⟨g, o, us, h1, h2, h3, h4⟩ := h
    exact ⟨g, o, us, h1, hok _ h2, RelL_mono hc hok hι cs us h3, fun j u hu => hc _ _ _ h2 (h4 j u hu)⟩
  | .ag cs, v, h => by
    simp only [RelV] at h ⊢
    obtain ⟨us, h1, h2⟩ := h
    exact ⟨us, h1, RelL_mono hc hok hι cs us h2⟩
  | .tp cs, v, h => by
    simp only [RelV] at h ⊢
    obtain ⟨us, h1, h2⟩ := h
    exact ⟨us, h1, RelL_mono hc hok hι cs us h2⟩
  | .fn f cs, v, h => by
    simp only [RelV] at h ⊢
    obtain ⟨us, h1, h2⟩ := h
    exact ⟨us, h1, RelL_mono hc hok hι cs us h2⟩
  | .fm f cs, v, h => by
    simp only [RelV] at h ⊢
    obtain ⟨us, h1, h2⟩ := h
    exact ⟨us, h1, RelL_mono hc hok hι cs us h2⟩
  | .mp b, v, h => by
    simp only [RelV] at h ⊢
    obtain ⟨g, h1, h2⟩ := h
    exact ⟨g, hι _ _ h1, h2⟩
  | .mnil, v, h => by simpa only [RelV] using h
  | .pa b, v, h => by
    simp only [RelV] at h ⊢
    obtain ⟨g, n, h1, h2⟩ := h
    exact ⟨g, n, hι _ _ h1, h2⟩
theorem RelL_mono (hc : ∀ g o v, ok g → w.cell? ⟨g, o, none⟩ = some v → w'.cell? ⟨g, o, none⟩ = some v) (hok : ∀ g, ok g → ok' g) (hι : ∀ k v, ι k = some v → ι' k = some v) :
    ∀ (cs : List AV) (us : List Value), RelL w ok ι cs us → RelL w' ok' ι' cs us
  | [], us, h => by simpa only [RelL] using h
  | a :: r, us, h => by
    simp only [RelL] at h ⊢
    obtain ⟨v, vr, h1, h2, h3⟩ := h
    exact ⟨v, vr, h1, RelV_mono hc hok hι a v h2, RelL_mono hc hok hι r vr h3⟩
end

theorem RelL_nil {us : List Value} : RelL w ok ι [] us ↔ us = [] := by simp only [RelL]
theorem RelL_cons {a : AV} {r : List AV} {us : List Value} : RelL w ok ι (a :: r) us ↔ ∃ v vr, us = v :: vr ∧ RelV w ok ι a v ∧ RelL w ok ι r vr := by simp only [RelL]

theorem RelL_length : ∀ {cs : List AV} {us : List Value}, RelL w ok ι cs us → us.length = cs.length
  | [], _, h => by rw [RelL_nil.1 h]; rfl
  | _ :: r, _, h => by
    obtain ⟨v, vr, e, _, h2⟩ := RelL_cons.1 h
    rw [e, List.length_cons, List.length_cons, RelL_length h2]

theorem RelL_append : ∀ {cs ds : List AV} {us vs : List Value}, RelL w ok ι cs us → RelL w ok ι ds vs → RelL w ok ι (cs ++ ds) (us ++ vs)
  | [], _, _, _, h, k => by rw [RelL_nil.1 h]; exact k
  | _ :: r, _, _, _, h, k => by
    obtain ⟨v, vr, e, h1, h2⟩ := RelL_cons.1 h
    exact RelL_cons.2 ⟨v, vr ++ _, by rw [e]; rfl, h1, RelL_append h2 k⟩

theorem RelL_split : ∀ {cs ds : List AV} {us : List Value}, RelL w ok ι (cs ++ ds) us → ∃ u1 u2, us = u1 ++ u2 ∧ RelL w ok ι cs u1 ∧ RelL w ok ι ds u2
  | [], _, us, h => ⟨[], us, rfl, RelL_nil.2 rfl, h⟩
  | _ :: r, _, us, h => by
    obtain ⟨v, vr, e, h1, h2⟩ := RelL_cons.1 h
    obtain ⟨u1, u2, e2, h3, h4⟩ := RelL_split h2
    exact ⟨v :: u1, u2, by rw [e, e2]; rfl, RelL_cons.2 ⟨v, u1, rfl, h1, h3⟩, h4⟩

theorem RelL_get : ∀ {cs : List AV} {us : List Value} (i : Nat) (a : AV), RelL w ok ι cs us → cs[i]? = some a → ∃ v, us[i]? = some v ∧ RelV w ok ι a v
  | [], _, i, _, _, h => by simp at h
  | c :: r, _, 0, a, h, hi => by
    obtain ⟨v, vr, e, h1, h2⟩ := RelL_cons.1 h
    simp only [List.getElem?_cons_zero, Option.some.injEq] at hi
    subst hi
    exact ⟨v, by rw [e]; rfl, h1⟩
  | c :: r, _, i + 1, a, h, hi => by
    obtain ⟨v, vr, e, h1, h2⟩ := RelL_cons.1 h
    obtain ⟨v', h3, h4⟩ := RelL_get i a h2 (by simpa using hi)
    exact ⟨v', by rw [e]; simpa using h3, h4⟩

theorem RelL_take {cs : List AV} {us : List Value} (h : RelL w ok ι cs us) (k : Nat) : RelL w ok ι (cs.take k) (us.take k) := by
  have h0 : RelL w ok ι (cs.take k ++ cs.drop k) us := by rw [List.take_append_drop]; exact h
  obtain ⟨u1, u2, e, h1, h2⟩ := RelL_split h0
  have hl := RelL_length h
  have hl1 := RelL_length h1
  have : us.take k = u1 := by
    rw [e]
    rcases Nat.le_total k cs.length with hk | hk
    · rw [List.take_left' (by rw [hl1, List.length_take]; omega)]
    · have h3 : u2 = [] := by
        have := RelL_length h2
        rw [List.length_drop] at this
        exact List.eq_nil_of_length_eq_zero (by omega)
      rw [h3, List.append_nil, List.take_of_length_le (by rw [hl1, List.length_take]; omega)]
  rw [this]
  exact h1

theorem RelL_drop {cs : List AV} {us : List Value} (h : RelL w ok ι cs us) (k : Nat) : RelL w ok ι (cs.drop k) (us.drop k) := by
  have h0 : RelL w ok ι (cs.take k ++ cs.drop k) us := by rw [List.take_append_drop]; exact h
  obtain ⟨u1, u2, e, h1, h2⟩ := RelL_split h0
  have hl1 := RelL_length h1
  have : us.drop k = u2 := by
    rw [e]
    rcases Nat.le_total k cs.length with hk | hk
    · rw [List.drop_left' (by rw [hl1, List.length_take]; omega)]
    · have h3 : u2 = [] := by
        have := RelL_length h2
        rw [List.length_drop] at this
        exact List.eq_nil_of_length_eq_zero (by omega)
      rw [h3, List.append_nil, List.drop_of_length_le (by rw [hl1, List.length_take]; omega)]
  rw [this]
  exact h2

/-- Data's cells are its cells as values. -/
theorem RelL_unpack : ∀ (t : Ty) (x : t.den) (us : List Value), Rz w ok t x us → RelL w ok ι (unpack t x) us
  | .int k, x, us, h => by
    have e : us = [.int k x] := h
    subst e
    exact RelL_cons.2 ⟨_, [], rfl, by simp only [RelV]; exact h, RelL_nil.2 rfl⟩
  | .bool, x, us, h => by
    have e : us = [.bool x] := h
    subst e
    exact RelL_cons.2 ⟨_, [], rfl, by simp only [RelV]; exact h, RelL_nil.2 rfl⟩
  | .str, x, us, h => by
    have e : us = [.string ⟨x.toArray⟩] := h
    subst e
    exact RelL_cons.2 ⟨_, [], rfl, by simp only [RelV]; exact h, RelL_nil.2 rfl⟩
  | .sl t, x, us, h => by
    obtain ⟨A, c, e, h1, h2⟩ := h
    subst e
    exact RelL_cons.2 ⟨_, [], rfl, by simp only [RelV]; exact ⟨A, c, rfl, h1, h2⟩, RelL_nil.2 rfl⟩
  | .pr a b, x, us, ⟨u1, u2, e, h1, h2⟩ => by
    subst e
    exact RelL_append (RelL_unpack a x.1 u1 h1) (RelL_unpack b x.2 u2 h2)
  | .un, x, us, h => by
    have e : us = [] := h
    subst e
    exact RelL_nil.2 rfl
  | .ic, x, us, h => by
    obtain ⟨v, e, h1⟩ := h
    subst e
    exact RelL_cons.2 ⟨_, [], rfl, by simp only [RelV]; exact ⟨v, rfl, h1⟩, RelL_nil.2 rfl⟩
  | .fv, x, us, h => by
    have e : us = [fvV x] := h
    subst e
    exact RelL_cons.2 ⟨_, [], rfl, by simp only [RelV]; rfl, RelL_nil.2 rfl⟩
  | .fk f, x, us, h => by
    have e : us = [.func (.func f) #[] #[]] := h
    subst e
    exact RelL_cons.2 ⟨_, [], rfl, by simp only [RelV]; exact ⟨[], rfl, RelL_nil.2 rfl⟩, RelL_nil.2 rfl⟩
  | .tr a b, x, us, h => by
    obtain ⟨v, e, h1⟩ := h
    subst e
    exact RelL_cons.2 ⟨_, [], rfl, by simp only [RelV]; exact ⟨v, rfl, h1⟩, RelL_nil.2 rfl⟩
end
/-! ### Blocks -/
/-- A slice that begins at its block's head. -/
def zo : Value → Prop
  | .slice (some a) _ _ => a.off = 0 ∧ a.spot = none
  | _ => True

/-- A map's entries that stand for pairs. -/
def RzM (w : World) (ok : Nat → Prop) (ι : Nat → Option Value) (kt : Ty) (va : Bool) (vt : Ty) : List (kt.den × vt.den) → List MapEntry → Prop
  | [], es => es = []
  | p :: r, es => ∃ e er, es = e :: er ∧ RelV w ok ι (avD false kt p.1) e.key ∧ RelV w ok ι (avD va vt p.2) e.val ∧ RzM w ok ι kt va vt r er

theorem RzM_mono {w w' : World} {ok ok' : Nat → Prop} {ι ι' : Nat → Option Value} {kt : Ty} {va : Bool} {vt : Ty} (h : ∀ a v, RelV w ok ι a v → RelV w' ok' ι' a v) : ∀ (l : List (kt.den × vt.den)) (es : List MapEntry), RzM w ok ι kt va vt l es → RzM w' ok' ι' kt va vt l es
  | [], _, hh => hh
  | _ :: r, _, ⟨e, er, q1, q2, q3, q4⟩ => ⟨e, er, q1, h _ _ q2, h _ _ q3, RzM_mono h r er q4⟩

def RelB (w : World) (ok : Nat → Prop) (ι : Nat → Option Value) (k : Nat) : Blk → Prop
  | .row t e xs true => ∃ v cs, ι k = some v ∧ w.ownsRow 0 e t.size v xs.length cs ∧ RzL (Rz w ok t) xs cs
  | .row t _ xs false => ∃ v, ι k = some v ∧ zo v ∧ Rz w ok (.sl t) xs [v]
  | .box e cs => ∃ g us, ι k = some (.pointer (some ⟨g, 0, none⟩)) ∧ w.heap[g]? = some (.cells (List.toArray us) e (0, 0)) ∧ RelL w ok ι cs us
  | .it s pos => ∃ g, ι k = some (.pointer (some ⟨g, 0, none⟩)) ∧ w.heap[g]? = some (.stringIter ⟨s.toArray⟩ pos)
  | .map kt va vt l => ∃ g es ck l', ι k = some (.map (some g)) ∧ w.heap[g]? = some (.map es ck) ∧ l'.Perm l ∧ (l.map fun p => p.1).Nodup ∧ kt.key = true ∧ RzM w ok ι kt va vt l' es.toList
  | .dead => True

/-- The block of the world that block k owns alone. -/
def bk (ι : Nat → Option Value) (C : Nat → Blk) (k : Nat) : Option Nat :=
  match C k, ι k with
  | .row _ _ _ true, some v => v.ownBlock
  | .box _ _, some (.pointer (some a)) => some a.block
  | .it _ _, some (.pointer (some a)) => some a.block
  | .map _ _ _ _, some (.map (some r)) => some r
  | _, _ => none

def owned (ι : Nat → Option Value) (C : Nat → Blk) (b : Nat) : Prop := ∃ k, bk ι C k = some b

/-- Blocks that data may lie in: no one's own, and not foreign (X). -/
def okb (X : Nat → Prop) (w : World) (ι : Nat → Option Value) (C : Nat → Blk) (b : Nat) : Prop := b < w.heap.size ∧ ¬ owned ι C b ∧ ¬ X b

/-- What of the world has been kept since w0. -/
structure Kept (keep : Nat → Prop) (w0 w : World) : Prop where
  os : w.os = w0.os
  tape : w.tape = w0.tape
  output : w.output = w0.output
  size : w0.heap.size ≤ w.heap.size
  block : ∀ b, keep b → b < w0.heap.size → w.heap[b]? = w0.heap[b]?

theorem Kept.refl (keep : Nat → Prop) (w : World) : Kept keep w w := ⟨rfl, rfl, rfl, Nat.le_refl _, fun _ _ _ => rfl⟩
theorem Kept.trans {keep : Nat → Prop} {a b c : World} (h : Kept keep a b) (k : Kept keep b c) : Kept keep a c :=
  ⟨k.os.trans h.os, k.tape.trans h.tape, k.output.trans h.output, Nat.le_trans h.size k.size, fun i hi hl => (k.block i hi (Nat.lt_of_lt_of_le hl h.size)).trans (h.block i hi hl)⟩
theorem Kept.weak {keep keep' : Nat → Prop} {a b : World} (h : Kept keep a b) (hk : ∀ i, keep' i → keep i) : Kept keep' a b :=
  ⟨h.os, h.tape, h.output, h.size, fun i hi hl => h.block i (hk i hi) hl⟩

/-- The package-level variables that are known of hold what is known. -/
def GlOK (w : World) (ok : Nat → Prop) : Prop := ∀ g us, glob g = some us → ok g ∧ 0 < us.length ∧ ∃ e fz, w.heap[g]? = some (.cells (List.toArray us) e fz)

theorem GlOK.mono {w w' : World} {ok ok' : Nat → Prop} (h : GlOK w ok) (k : ∀ g, ok g → ok' g ∧ w'.heap[g]? = w.heap[g]?) : GlOK w' ok' := fun g us hg => by
  obtain ⟨h1, h0, e, fz, h2⟩ := h g us hg
  obtain ⟨h3, h4⟩ := k g h1
  exact ⟨h3, h0, e, fz, h4.trans h2⟩

structure HRel (X keep : Nat → Prop) (w0 : World) (ι : Nat → Option Value) (C : Nat → Blk) (w : World) : Prop where
  bl : ∀ k, RelB w (okb X w ι C) ι k (C k)
  inj : ∀ k k' b, bk ι C k = some b → bk ι C k' = some b → k = k'
  fr : Kept keep w0 w
  own : ∀ b, owned ι C b → ¬ keep b
  kl : ∀ b, keep b → b < w0.heap.size
  ox : ∀ b, owned ι C b → ¬ X b
  xl : ∀ b, X b → b < w0.heap.size
  gl : GlOK w (okb X w ι C)

/-- From one state to a later one: what was told of values stays. -/
structure Ext (X : Nat → Prop) (ι : Nat → Option Value) (C : Nat → Blk) (w : World) (ι' : Nat → Option Value) (C' : Nat → Blk) (w' : World) : Prop where
  io : ∀ k v, ι k = some v → ι' k = some v
  ok : ∀ b, okb X w ι C b → okb X w' ι' C' b
  ce : ∀ b, okb X w ι C b → w'.heap[b]? = w.heap[b]?

theorem Ext.refl (X : Nat → Prop) (ι : Nat → Option Value) (C : Nat → Blk) (w : World) : Ext X ι C w ι C w := ⟨fun _ _ h => h, fun _ h => h, fun _ _ => rfl⟩
theorem Ext.trans {X : Nat → Prop} {ι ι' ι'' : Nat → Option Value} {C C' C'' : Nat → Blk} {w w' w'' : World} (h : Ext X ι C w ι' C' w') (k : Ext X ι' C' w' ι'' C'' w'') : Ext X ι C w ι'' C'' w'' :=
  ⟨fun j v e => k.io j v (h.io j v e), fun b e => k.ok b (h.ok b e), fun b e => (k.ce b (h.ok b e)).trans (h.ce b e)⟩

theorem GlOK.ext {X : Nat → Prop} {ι ι' : Nat → Option Value} {C C' : Nat → Blk} {w w' : World} (h : GlOK w (okb X w ι C)) (k : Ext X ι C w ι' C' w') : GlOK w' (okb X w' ι' C') :=
  h.mono fun g hg => ⟨k.ok g hg, k.ce g hg⟩

theorem Ext.cell {X : Nat → Prop} {ι ι' : Nat → Option Value} {C C' : Nat → Blk} {w w' : World} (h : Ext X ι C w ι' C' w') (g o : Nat) (v : Value) (hg : okb X w ι C g) (hc : w.cell? ⟨g, o, none⟩ = some v) : w'.cell? ⟨g, o, none⟩ = some v := by
  rw [← hc]
  exact World.cell?_of_block (h.ce g hg)

theorem Ext.val {X : Nat → Prop} {ι ι' : Nat → Option Value} {C C' : Nat → Blk} {w w' : World} (h : Ext X ι C w ι' C' w') {a : AV} {v : Value} (hv : RelV w (okb X w ι C) ι a v) : RelV w' (okb X w' ι' C') ι' a v :=
  RelV_mono h.cell h.ok h.io a v hv

theorem Ext.vals {X : Nat → Prop} {ι ι' : Nat → Option Value} {C C' : Nat → Blk} {w w' : World} (h : Ext X ι C w ι' C' w') {cs : List AV} {us : List Value} (hv : RelL w (okb X w ι C) ι cs us) : RelL w' (okb X w' ι' C') ι' cs us :=
  RelL_mono h.cell h.ok h.io cs us hv

theorem Ext.data {X : Nat → Prop} {ι ι' : Nat → Option Value} {C C' : Nat → Blk} {w w' : World} (h : Ext X ι C w ι' C' w') {t : Ty} {x : t.den} {us : List Value} (hv : Rz w (okb X w ι C) t x us) : Rz w' (okb X w' ι' C') t x us :=
  Rz_mono h.cell h.ok t x us hv

/-- A block keeps its reading where its own block of the world is as it was. -/
theorem RelB_keep {X : Nat → Prop} {ι ι' : Nat → Option Value} {C C' : Nat → Blk} {w w' : World} (h : Ext X ι C w ι' C' w') (k : Nat) (hB : RelB w (okb X w ι C) ι k (C k)) (hC : C' k = C k)
    (hw : ∀ b, bk ι C k = some b → w'.heap[b]? = w.heap[b]?) : RelB w' (okb X w' ι' C') ι' k (C' k) := by
  rw [hC]
  unfold bk at hw
  cases hk : C k with
  | row t e xs rw =>
    rw [hk] at hB hw
    cases rw with
    | true =>
      obtain ⟨v, cs, h1, h2, h3⟩ := hB
      refine ⟨v, cs, h.io _ _ h1, ⟨h2.1, ?_⟩, RzL_mono (Rz_mono h.cell h.ok t) h3⟩
      rcases h2.2 with h4 | ⟨g, cap, cur, hv, h5, h6, h7⟩
      · exact .inl h4
      · exact .inr ⟨g, cap, cur, hv, h5, by rw [hw g (by rw [h1, hv]; rfl)]; exact h6, h7⟩
    | false =>
      obtain ⟨v, h1, h0, h2⟩ := hB
      exact ⟨v, h.io _ _ h1, h0, h.data h2⟩
  | box e cs =>
    rw [hk] at hB hw
    obtain ⟨g, us, h1, h2, h3⟩ := hB
    exact ⟨g, us, h.io _ _ h1, by rw [hw g (by rw [h1])]; exact h2, h.vals h3⟩
  | it s pos =>
    rw [hk] at hB hw
    obtain ⟨g, h1, h2⟩ := hB
    exact ⟨g, h.io _ _ h1, by rw [hw g (by rw [h1])]; exact h2⟩
  | map kt va vt l =>
    rw [hk] at hB hw
    obtain ⟨g, es, ck, l', h1, h2, h3, h4, h5, h6⟩ := hB
    exact ⟨g, es, ck, l', h.io _ _ h1, by rw [hw g (by rw [h1])]; exact h2, h3, h4, h5, RzM_mono (fun a v hv => h.val hv) _ _ h6⟩
  | dead => trivial

/-- A block of one's own lies in the world. -/
theorem HRel.lt {X keep : Nat → Prop} {w0 w : World} {ι : Nat → Option Value} {C : Nat → Blk} (h : HRel X keep w0 ι C w) {b : Nat} (hb : owned ι C b) : b < w.heap.size := by
  obtain ⟨k, hk⟩ := hb
  have hB := h.bl k
  unfold bk at hk
  cases hC : C k with
  | row t e xs rw =>
    rw [hC] at hB hk
    cases rw with
    | true =>
      obtain ⟨v, cs, h1, h2, h3⟩ := hB
      rw [h1] at hk
      exact (h2.lt b hk).2
    | false => cases hι : ι k <;> rw [hι] at hk <;> cases hk
  | box e cs =>
    rw [hC] at hB hk
    obtain ⟨g, us, h1, h2, h3⟩ := hB
    rw [h1] at hk
    injection hk with hk
    have hk : g = b := hk
    subst hk
    exact (Array.getElem?_eq_some_iff.1 h2).1
  | it s pos =>
    rw [hC] at hB hk
    obtain ⟨g, h1, h2⟩ := hB
    rw [h1] at hk
    injection hk with hk
    have hk : g = b := hk
    subst hk
    exact (Array.getElem?_eq_some_iff.1 h2).1
  | map kt va vt l =>
    rw [hC] at hB hk
    obtain ⟨g, es, ck, l', h1, h2, _⟩ := hB
    rw [h1] at hk
    injection hk with hk
    have hk : g = b := hk
    subst hk
    exact (Array.getElem?_eq_some_iff.1 h2).1
  | dead => rw [hC] at hk; cases hι : ι k <;> rw [hι] at hk <;> cases hk

end Go.Proofs.Rf
/- Rf, part c: a change of some blocks; freezing; packing; what the table of types says of the program. -/
namespace Go.Proofs.Rf
open Go Go.RowKit

def setC (C : Nat → Blk) (k : Nat) (b : Blk) : Nat → Blk := fun j => if j = k then b else C j
def updC (C : Nat → Blk) : List (Nat × Blk) → Nat → Blk
  | [] => C
  | (k, b) :: r => updC (setC C k b) r
def addC (C : Nat → Blk) (nb : Nat) : List Blk → Nat → Blk
  | [] => C
  | b :: r => addC (setC C nb b) (nb + 1) r
def effC (C : Nat → Blk) (nb : Nat) (e : Eff) : Nat → Blk := addC (updC C e.upd) nb e.new
def setI (ι : Nat → Option Value) (k : Nat) (v : Value) : Nat → Option Value := fun j => if j = k then some v else ι j

theorem setC_self (C : Nat → Blk) (k : Nat) (b : Blk) : setC C k b k = b := by simp [setC]
theorem setC_ne {C : Nat → Blk} {k j : Nat} {b : Blk} (h : j ≠ k) : setC C k b j = C j := by simp [setC, h]
theorem setI_self (ι : Nat → Option Value) (k : Nat) (v : Value) : setI ι k v k = some v := by simp [setI]
theorem setI_ne {ι : Nat → Option Value} {k j : Nat} {v : Value} (h : j ≠ k) : setI ι k v j = ι j := by simp [setI, h]

theorem updC_append (C : Nat → Blk) (f g : List (Nat × Blk)) : updC C (f ++ g) = updC (updC C f) g := by
  induction f generalizing C with
  | nil => rfl
  | cons p r ih => exact ih _

theorem bk_congr {ι ι' : Nat → Option Value} {C C' : Nat → Blk} {k : Nat} (h : C' k = C k) (hi : ι' k = ι k) : bk ι' C' k = bk ι C k := by simp only [bk, h, hi]

section
variable {X keep : Nat → Prop} {w0 w : World} {ι : Nat → Option Value} {C : Nat → Blk}

/-- Some blocks (S) change; the others stay. -/
theorem HRel.step (h : HRel X keep w0 ι C w) {C' : Nat → Blk} {ι' : Nat → Option Value} {w' : World} (S : Nat → Prop)
    (hos : w'.os = w.os) (htape : w'.tape = w.tape) (hout : w'.output = w.output) (hsz : w.heap.size ≤ w'.heap.size)
    (hC : ∀ k, ¬ S k → C' k = C k) (hι : ∀ k v, ι k = some v → ι' k = some v) (hι2 : ∀ k, ¬ S k → ι' k = ι k)
    (hown : ∀ k b, S k → bk ι' C' k = some b → w.heap.size ≤ b ∨ ∃ k0, S k0 ∧ bk ι C k0 = some b)
    (hinj : ∀ k k' b, S k → S k' → bk ι' C' k = some b → bk ι' C' k' = some b → k = k')
    (hbl : ∀ b, b < w.heap.size → (∀ k, S k → bk ι C k ≠ some b) → w'.heap[b]? = w.heap[b]?)
    (hS : Ext X ι C w ι' C' w' → ∀ k, S k → RelB w' (okb X w' ι' C') ι' k (C' k)) : HRel X keep w0 ι' C' w' ∧ Ext X ι C w ι' C' w' := by
  have hkeep : ∀ k, ¬ S k → bk ι' C' k = bk ι C k := fun k hk => bk_congr (hC k hk) (hι2 k hk)
  have hold : ∀ b, owned ι' C' b → w.heap.size ≤ b ∨ owned ι C b := by
    rintro b ⟨k, hk⟩
    by_cases hs : S k
    · rcases hown k b hs hk with h1 | ⟨k0, _, h2⟩
      · exact .inl h1
      · exact .inr ⟨k0, h2⟩
    · exact .inr ⟨k, by rw [← hkeep k hs]; exact hk⟩
  have hext : Ext X ι C w ι' C' w' := by
    refine ⟨hι, fun b hb => ⟨Nat.lt_of_lt_of_le hb.1 hsz, fun ho => ?_, hb.2.2⟩, fun b hb => hbl b hb.1 fun k _ hk => hb.2.1 ⟨k, hk⟩⟩
    rcases hold b ho with h1 | h1
    · exact absurd hb.1 (by omega)
    · exact hb.2.1 h1
  refine ⟨⟨fun k => ?_, fun k k' b h1 h2 => ?_, ?_, fun b hb hk => ?_, h.kl, fun b hb hx => ?_, h.xl, h.gl.ext hext⟩, hext⟩
  · by_cases hs : S k
    · exact hS hext k hs
    · refine RelB_keep hext k (h.bl k) (hC k hs) fun b hb => hbl b (h.lt ⟨k, hb⟩) fun k0 h0 h1 => ?_
      exact hs (h.inj k0 k b h1 hb ▸ h0)
  · have cross : ∀ k k', S k → ¬ S k' → bk ι' C' k = some b → bk ι' C' k' = some b → False := by
      intro k k' hs hs' h1 h2
      rw [hkeep k' hs'] at h2
      rcases hown k b hs h1 with h3 | ⟨k0, h4, h5⟩
      · exact absurd (h.lt ⟨k', h2⟩) (by omega)
      · exact hs' (h.inj k0 k' b h5 h2 ▸ h4)
    by_cases hs : S k <;> by_cases hs' : S k'
    · exact hinj k k' b hs hs' h1 h2
    · exact (cross k k' hs hs' h1 h2).elim
    · exact (cross k' k hs' hs h2 h1).elim
    · exact h.inj k k' b (by rw [← hkeep k hs]; exact h1) (by rw [← hkeep k' hs']; exact h2)
  · exact h.fr.trans ⟨hos, htape, hout, hsz, fun b hb hl => hbl b hl fun k _ hk => h.own b ⟨k, hk⟩ hb⟩
  · rcases hold b hb with h1 | h1
    · exact absurd (h.kl b hk) (by have := h.fr.size; omega)
    · exact h.own b h1 hk
  · rcases hold b hb with h1 | h1
    · exact absurd (h.xl b hx) (by have := h.fr.size; omega)
    · exact h.ox b h1 hx

/-- Rows that are read as data alone from here on. -/
theorem HRel.freeze (h : HRel X keep w0 ι C w) {k : Nat} {t : Ty} {e : Nat} {xs : List t.den} (hk : C k = .row t e xs true) :
    HRel X keep w0 ι (setC C k (.row t e xs false)) w ∧ Ext X ι C w ι (setC C k (.row t e xs false)) w := by
  have hnone : bk ι (setC C k (.row t e xs false)) k = none := by
    unfold bk; rw [setC_self]
  refine h.step (fun j => j = k) rfl rfl rfl (Nat.le_refl _) (fun j hj => setC_ne hj) (fun _ _ e => e) (fun _ _ => rfl) ?_ ?_ (fun _ _ _ => rfl) ?_
  · rintro j b rfl hb
    rw [hnone] at hb; cases hb
  · exact fun j j' b h1 h2 _ _ => h1.trans h2.symm
  · rintro hext j rfl
    rw [setC_self]
    have hB := h.bl j
    rw [hk] at hB
    obtain ⟨v, cs, h1, h2, h3⟩ := hB
    refine ⟨v, h1, ?_, ?_⟩
    · rcases h2.2 with ⟨h4, h5⟩ | ⟨g, cap, cur, hv, _⟩
      · rw [h4]; trivial
      · rw [hv]; exact ⟨rfl, rfl⟩
    have h3' := RzL_mono (fun x us hx => hext.data hx) h3
    rcases h2.2 with ⟨h4, h5⟩ | ⟨g, cap, cur, hv, _, h6, h7, h8, h9, h10⟩
    · exact ⟨none, 0, by rw [h4, h5], by omega, fun hp => by omega⟩
    · refine ⟨some ⟨g, 0, none⟩, cap, by rw [hv], h7, fun hp => ⟨g, 0, cs, rfl, ⟨(Array.getElem?_eq_some_iff.1 h6).1, ?_, h.ox g ⟨j, by unfold bk; rw [hk, h1, hv]; rfl⟩⟩, h3', fun i u hu => ?_⟩⟩
      · rintro ⟨k', hk'⟩
        have hkk : k' ≠ j := by rintro rfl; rw [hnone] at hk'; cases hk'
        rw [bk_congr (setC_ne hkk) rfl] at hk'
        exact hkk (h.inj k' j g hk' (by unfold bk; rw [hk, h1, hv]; rfl))
      · have hcl := h2.cells (g := g) (by rw [hv]; rfl) i u hu
        rw [Nat.zero_add]
        rwa [show (⟨g, 0, none⟩ : Addr).add i = ⟨g, i, none⟩ from by unfold Addr.add; split <;> simp_all] at hcl
end

/-- C0 is C, some rows being frozen. -/
def FrozenOf (C C0 : Nat → Blk) : Prop := ∀ k, C0 k = C k ∨ ∃ t e xs, C k = .row t e xs true ∧ C0 k = .row t e xs false

theorem FrozenOf.refl (C : Nat → Blk) : FrozenOf C C := fun _ => .inl rfl

section
variable {X keep : Nat → Prop} {w0 w : World} {ι : Nat → Option Value} {C C0 : Nat → Blk}

/-- What freezing gives: the later state, and the data. -/
def Frz (X keep : Nat → Prop) (w0 : World) (ι : Nat → Option Value) (C C0 : Nat → Blk) (w : World) (f : List (Nat × Blk)) : Prop :=
  HRel X keep w0 ι (updC C0 f) w ∧ FrozenOf C (updC C0 f) ∧ Ext X ι C0 w ι (updC C0 f) w

theorem Frz.nil (h : HRel X keep w0 ι C0 w) (hf : FrozenOf C C0) : Frz X keep w0 ι C C0 w [] := ⟨h, hf, Ext.refl _ _ _ _⟩

/-- A row that is met while packing: read as data, frozen from here on. -/
theorem frz_row (h : HRel X keep w0 ι C0 w) (hf : FrozenOf C C0) {b : Nat} {t : Ty} {e : Nat} {xs : List t.den} {rw : Bool} (hb : C b = .row t e xs rw) :
    Frz X keep w0 ι C C0 w (if rw = true then [(b, .row t e xs false)] else []) ∧
    ∃ v, ι b = some v ∧ Rz w (okb X w ι (updC C0 (if rw = true then [(b, .row t e xs false)] else []))) (.sl t) xs [v] := by
  cases rw with
  | false =>
    have h0 : C0 b = .row t e xs false := by
      rcases hf b with h1 | ⟨t', e', xs', h1, h2⟩
      · rw [h1, hb]
      · rw [hb] at h1; cases h1
    have hB := h.bl b
    rw [h0] at hB
    obtain ⟨v, h1, _, h2⟩ := hB
    exact ⟨Frz.nil h hf, v, h1, h2⟩
  | true =>
    rcases hf b with h1 | ⟨t', e', xs', h1, h2⟩
    · rw [hb] at h1
      obtain ⟨h3, h4⟩ := h.freeze h1
      refine ⟨⟨h3, fun k => ?_, h4⟩, ?_⟩
      · by_cases hk : k = b
        · subst hk
          exact .inr ⟨t, e, xs, hb, setC_self _ _ _⟩
        · have := hf k
          rw [show updC C0 (if true = true then [(b, Blk.row t e xs false)] else []) k = C0 k from setC_ne hk]
          exact this
      · have hB := h3.bl b
        rw [setC_self] at hB
        obtain ⟨v, h1, _, h2⟩ := hB
        exact ⟨v, h1, h2⟩
    · rw [hb] at h1
      injection h1 with q1 q2 q3 q4
      subst q1
      subst q2
      have q3 := eq_of_heq q3
      subst q3
      have hsame : setC C0 b (.row t e xs false) = C0 := by
        funext k
        by_cases hk : k = b
        · subst hk; rw [setC_self, h2]
        · rw [setC_ne hk]
      have hu : updC C0 (if true = true then [(b, Blk.row t e xs false)] else []) = C0 := hsame
      rw [show (Frz X keep w0 ι C C0 w (if true = true then [(b, Blk.row t e xs false)] else [])) = (HRel X keep w0 ι (updC C0 (if true = true then [(b, Blk.row t e xs false)] else [])) w ∧ FrozenOf C (updC C0 (if true = true then [(b, Blk.row t e xs false)] else [])) ∧ Ext X ι C0 w ι (updC C0 (if true = true then [(b, Blk.row t e xs false)] else [])) w) from rfl, hu]
      refine ⟨⟨h, hf, Ext.refl _ _ _ _⟩, ?_⟩
      have hB := h.bl b
      rw [h2] at hB
      obtain ⟨v, h1, _, h2⟩ := hB
      exact ⟨v, h1, h2⟩

theorem dat1_sound (h : HRel X keep w0 ι C0 w) (hf : FrozenOf C C0) {t : Ty} {a : AV} {v : Value} (hv : RelV w (okb X w ι C0) ι a v) {x : t.den} {f : List (Nat × Blk)}
    (hd : dat1 C t a = some (x, f)) : Frz X keep w0 ι C C0 w f ∧ Rz w (okb X w ι (updC C0 f)) t x [v] := by
  unfold dat1 at hd
  split at hd
  · split at hd
    · rename_i k k' n hk
      injection hd with hd
      injection hd with h1 h2
      subst h1; subst h2
      rw [← ikEq_eq hk] at hv
      simp only [RelV] at hv
      exact ⟨Frz.nil h hf, hv⟩
    · cases hd
  · injection hd with hd
    injection hd with h1 h2
    subst h1; subst h2
    simp only [RelV] at hv
    exact ⟨Frz.nil h hf, hv⟩
  · injection hd with hd
    injection hd with h1 h2
    subst h1; subst h2
    simp only [RelV] at hv
    exact ⟨Frz.nil h hf, hv⟩
  · injection hd with hd
    injection hd with h1 h2
    subst h1; subst h2
    simp only [RelV] at hv
    exact ⟨Frz.nil h hf, hv⟩
  · injection hd with hd
    injection hd with h1 h2
    subst h1; subst h2
    simp only [RelV] at hv
    exact ⟨Frz.nil h hf, hv⟩
  · injection hd with hd
    injection hd with h1 h2
    subst h1; subst h2
    simp only [RelV] at hv
    obtain ⟨us, e, h3⟩ := hv
    rw [RelL_nil.1 h3] at e
    subst e
    exact ⟨Frz.nil h hf, rfl⟩
  · rename_i t t' xs
    split at hd
    · rename_i hq _
      obtain ⟨hq⟩ := hq
      subst hq
      injection hd with hd
      injection hd with h1 h2
      subst h1; subst h2
      simp only [RelV] at hv
      exact ⟨Frz.nil h hf, hv⟩
    · cases hd
  · injection hd with hd
    injection hd with h1 h2
    subst h1; subst h2
    simp only [RelV] at hv
    subst hv
    exact ⟨Frz.nil h hf, none, 0, rfl, Nat.le_refl _, fun hp => absurd hp (by simp)⟩
  · rename_i t b
    split at hd
    · rename_i t' e xs rw hb
      split at hd
      · rename_i hq _
        obtain ⟨hq⟩ := hq
        subst hq
        injection hd with hd
        injection hd with h1 h2
        subst h1; subst h2
        obtain ⟨h3, v', h4, h5⟩ := frz_row h hf hb
        simp only [RelV] at hv
        rw [hv.1] at h4
        injection h4 with h4
        subst h4
        exact ⟨h3, h5⟩
      · cases hd
    · cases hd
  · rename_i t b sz off len
    split at hd
    · rename_i t' e xs rw hb
      split at hd
      · rename_i hq _
        obtain ⟨hq⟩ := hq
        subst hq
        split at hd
        · rename_i hsz
          have hsz := Nat.eq_of_beq_eq_true hsz
          subst hsz
          injection hd with hd
          injection hd with h1 h2
          subst h1; subst h2
          obtain ⟨h3, v', h4, h5⟩ := frz_row h hf hb
          simp only [RelV] at hv
          obtain ⟨A, n, c, A', c', e1, e2, e3, e4, e5⟩ := hv
          rw [e1] at h4
          injection h4 with h4
          subst h4
          obtain ⟨A2, c2, q1, q2, q3⟩ := h5
          injection q1 with q1 _
          injection q1 with q11 q12 q13
          subst q11; subst q12; subst q13
          refine ⟨h3, A', c', ?_, ?_, fun hp => ?_⟩
          · rw [e3, Ty.castL_rfl, List.length_take, List.length_drop, Nat.min_eq_left (by omega)]
          · rw [Ty.castL_rfl, List.length_take, List.length_drop]; omega
          · rw [Ty.castL_rfl, List.length_take, List.length_drop] at hp
            obtain ⟨g, o, cs, p1, p2, p3, p4⟩ := q3 (by omega)
            obtain ⟨g', p5, p6⟩ := e5.1 (by omega)
            rw [p1] at p5
            injection p5 with p5
            injection p5 with p5 p7 _
            subst p5; subst p7
            refine ⟨g, off * t'.size, (cs.drop (off * t'.size)).take (len * t'.size), p6, p2, ?_, fun j u hu => ?_⟩
            · rw [Ty.castL_rfl]
              exact RzL_take (Rz_length t') len (RzL_drop (Rz_length t') off p3)
            · have hu2 : cs[off * t'.size + j]? = some u := by
                rw [List.getElem?_take] at hu
                split at hu
                · rwa [List.getElem?_drop] at hu
                · cases hu
              have := p4 _ u hu2
              rwa [Nat.zero_add] at this
        · cases hd
      · cases hd
    · cases hd
  · split at hd
    · rename_i f' g hg
      injection hd with hd
      injection hd with h1 h2
      subst h1; subst h2
      have := Nat.eq_of_beq_eq_true hg
      subst this
      simp only [RelV] at hv
      obtain ⟨us, h1, h2⟩ := hv
      rw [RelL_nil.1 h2] at h1
      exact ⟨Frz.nil h hf, by rw [h1]; rfl⟩
    · cases hd
  · split at hd
    · rename_i h1 h2 _ _
      obtain ⟨h1⟩ := h1
      obtain ⟨h2⟩ := h2
      subst h1; subst h2
      injection hd with hd
      injection hd with q1 q2
      subst q1; subst q2
      simp only [RelV] at hv
      exact ⟨Frz.nil h hf, hv⟩
    · cases hd
  · injection hd with hd
    injection hd with q1 q2
    subst q1; subst q2
    simp only [RelV] at hv
    exact ⟨Frz.nil h hf, v, rfl, hv⟩
  · cases hd

theorem pack_sound : ∀ (t : Ty) (C0 : Nat → Blk) (cs : List AV) (us : List Value), HRel X keep w0 ι C0 w → FrozenOf C C0 → RelL w (okb X w ι C0) ι cs us → ∀ (x : t.den) (r : List AV) (f : List (Nat × Blk)),
    pack C t cs = some (x, r, f) → Frz X keep w0 ι C C0 w f ∧ ∃ u1 u2, us = u1 ++ u2 ∧ Rz w (okb X w ι (updC C0 f)) t x u1 ∧ RelL w (okb X w ι (updC C0 f)) ι r u2
  | .pr a b, C0, cs, us, h, hf, hr, x, r, f, hp => by
    simp only [pack] at hp
    split at hp
    · rename_i x1 r1 f1 h1
      split at hp
      · rename_i y r2 f2 h2
        injection hp with hp
        injection hp with q1 q2
        injection q2 with q2 q3
        subst q1; subst q2; subst q3
        obtain ⟨⟨g1, g2, g3⟩, u1, u2, e1, e2, e3⟩ := pack_sound a C0 cs us h hf hr x1 r1 f1 h1
        obtain ⟨⟨k1, k2, k3⟩, v1, v2, e4, e5, e6⟩ := pack_sound b _ r1 u2 g1 g2 e3 y r2 f2 h2
        rw [show Frz X keep w0 ι C C0 w (f1 ++ f2) = (HRel X keep w0 ι (updC C0 (f1 ++ f2)) w ∧ FrozenOf C (updC C0 (f1 ++ f2)) ∧ Ext X ι C0 w ι (updC C0 (f1 ++ f2)) w) from rfl, updC_append]
        exact ⟨⟨k1, k2, g3.trans k3⟩, u1 ++ v1, v2, by rw [e1, e4, List.append_assoc], ⟨u1, v1, rfl, k3.data e2, e5⟩, e6⟩
      · cases hp
    · cases hp
  | .un, C0, cs, us, h, hf, hr, x, r, f, hp => by
    simp only [pack] at hp
    injection hp with hp
    injection hp with q1 q2
    injection q2 with q2 q3
    subst q1; subst q2; subst q3
    exact ⟨Frz.nil h hf, [], us, rfl, rfl, hr⟩
  | .int k, C0, [], us, h, hf, hr, x, r, f, hp => by simp [pack] at hp
  | .bool, C0, [], us, h, hf, hr, x, r, f, hp => by simp [pack] at hp
  | .str, C0, [], us, h, hf, hr, x, r, f, hp => by simp [pack] at hp
  | .sl t, C0, [], us, h, hf, hr, x, r, f, hp => by simp [pack] at hp
  | .fk g, C0, [], us, h, hf, hr, x, r, f, hp => by simp [pack] at hp
  | .ic, C0, [], us, h, hf, hr, x, r, f, hp => by simp [pack] at hp
  | .fv, C0, [], us, h, hf, hr, x, r, f, hp => by simp [pack] at hp
  | .tr a b, C0, [], us, h, hf, hr, x, r, f, hp => by simp [pack] at hp
  | .int k, C0, c :: cr, us, h, hf, hr, x, r, f, hp => by
    simp only [pack] at hp
    split at hp
    · rename_i x1 f1 h1
      injection hp with hp
      injection hp with q1 q2
      injection q2 with q2 q3
      subst q1; subst q2; subst q3
      obtain ⟨v, vr, e, e1, e2⟩ := RelL_cons.1 hr
      obtain ⟨g1, g2⟩ := dat1_sound h hf e1 h1
      exact ⟨g1, [v], vr, e, g2, g1.2.2.vals e2⟩
    · cases hp
  | .bool, C0, c :: cr, us, h, hf, hr, x, r, f, hp => by
    simp only [pack] at hp
    split at hp
    · rename_i x1 f1 h1
      injection hp with hp
      injection hp with q1 q2
      injection q2 with q2 q3
      subst q1; subst q2; subst q3
      obtain ⟨v, vr, e, e1, e2⟩ := RelL_cons.1 hr
      obtain ⟨g1, g2⟩ := dat1_sound h hf e1 h1
      exact ⟨g1, [v], vr, e, g2, g1.2.2.vals e2⟩
    · cases hp
  | .str, C0, c :: cr, us, h, hf, hr, x, r, f, hp => by
    simp only [pack] at hp
    split at hp
    · rename_i x1 f1 h1
      injection hp with hp
      injection hp with q1 q2
      injection q2 with q2 q3
      subst q1; subst q2; subst q3
      obtain ⟨v, vr, e, e1, e2⟩ := RelL_cons.1 hr
      obtain ⟨g1, g2⟩ := dat1_sound h hf e1 h1
      exact ⟨g1, [v], vr, e, g2, g1.2.2.vals e2⟩
    · cases hp
  | .sl t, C0, c :: cr, us, h, hf, hr, x, r, f, hp => by
    simp only [pack] at hp
    split at hp
    · rename_i x1 f1 h1
      injection hp with hp
      injection hp with q1 q2
      injection q2 with q2 q3
      subst q1; subst q2; subst q3
      obtain ⟨v, vr, e, e1, e2⟩ := RelL_cons.1 hr
      obtain ⟨g1, g2⟩ := dat1_sound h hf e1 h1
      exact ⟨g1, [v], vr, e, g2, g1.2.2.vals e2⟩
    · cases hp
  | .ic, C0, c :: cr, us, h, hf, hr, x, r, f, hp => by
    simp only [pack] at hp
    split at hp
    · rename_i x1 f1 h1
      injection hp with hp
      injection hp with q1 q2
      injection q2 with q2 q3
      subst q1; subst q2; subst q3
      obtain ⟨v, vr, e, e1, e2⟩ := RelL_cons.1 hr
      obtain ⟨g1, g2⟩ := dat1_sound h hf e1 h1
      exact ⟨g1, [v], vr, e, g2, g1.2.2.vals e2⟩
    · cases hp
  | .fv, C0, c :: cr, us, h, hf, hr, x, r, f, hp => by
    simp only [pack] at hp
    split at hp
    · rename_i x1 f1 h1
      injection hp with hp
      injection hp with q1 q2
      injection q2 with q2 q3
      subst q1; subst q2; subst q3
      obtain ⟨v, vr, e, e1, e2⟩ := RelL_cons.1 hr
      obtain ⟨g1, g2⟩ := dat1_sound h hf e1 h1
      exact ⟨g1, [v], vr, e, g2, g1.2.2.vals e2⟩
    · cases hp
  | .fk g, C0, c :: cr, us, h, hf, hr, x, r, f, hp => by
    simp only [pack] at hp
    split at hp
    · rename_i x1 f1 h1
      injection hp with hp
      injection hp with q1 q2
      injection q2 with q2 q3
      subst q1; subst q2; subst q3
      obtain ⟨v, vr, e, e1, e2⟩ := RelL_cons.1 hr
      obtain ⟨g1, g2⟩ := dat1_sound h hf e1 h1
      exact ⟨g1, [v], vr, e, g2, g1.2.2.vals e2⟩
    · cases hp
  | .tr _ _, C0, c :: cr, us, h, hf, hr, x, r, f, hp => by
    simp only [pack] at hp
    split at hp
    · rename_i x1 f1 h1
      injection hp with hp
      injection hp with q1 q2
      injection q2 with q2 q3
      subst q1; subst q2; subst q3
      obtain ⟨v, vr, e, e1, e2⟩ := RelL_cons.1 hr
      obtain ⟨g1, g2⟩ := dat1_sound h hf e1 h1
      exact ⟨g1, [v], vr, e, g2, g1.2.2.vals e2⟩
    · cases hp

/-- The cells of a value. -/
theorem RelV_cells {ok : Nat → Prop} {a : AV} {v : Value} (h : RelV w ok ι a v) (hun : a ≠ .un) (hud : a ≠ .ud) : RelL w ok ι (cellsOf a) v.cells.toList := by
  cases a with
  | ag cs =>
    simp only [RelV] at h
    obtain ⟨us, e, h1⟩ := h
    rw [e]
    exact h1
  | un => exact absurd rfl hun
  | ud => exact absurd rfl hud
  | d t x =>
    have hc : v.cells.toList = [v] := by
      simp only [RelV] at h
      have := Rz_one t x _ h v (by simp)
      cases v <;> first | rfl | (simp [Value.oneCell'] at this)
    rw [hc]
    exact RelL_cons.2 ⟨v, [], rfl, h, RelL_nil.2 rfl⟩
  | nl => 
    have h' := h
    simp only [RelV] at h'
    subst h'
    exact RelL_cons.2 ⟨_, [], rfl, h, RelL_nil.2 rfl⟩
  | ub =>
    have h' := h
    simp only [RelV] at h'
    obtain ⟨b, e⟩ := h'
    subst e
    exact RelL_cons.2 ⟨_, [], rfl, h, RelL_nil.2 rfl⟩
  | np =>
    have h' := h
    simp only [RelV] at h'
    subst h'
    exact RelL_cons.2 ⟨_, [], rfl, h, RelL_nil.2 rfl⟩
  | rf b =>
    have h' := h
    simp only [RelV] at h'
    obtain ⟨_, A, n, c, e⟩ := h'
    subst e
    exact RelL_cons.2 ⟨_, [], rfl, h, RelL_nil.2 rfl⟩
  | rs b sz off len =>
    have h' := h
    simp only [RelV] at h'
    obtain ⟨A, n, c, A', c', _, _, e, _⟩ := h'
    subst e
    exact RelL_cons.2 ⟨_, [], rfl, h, RelL_nil.2 rfl⟩
  | pt b o =>
    have h' := h
    simp only [RelV] at h'
    obtain ⟨g, _, e⟩ := h'
    subst e
    exact RelL_cons.2 ⟨_, [], rfl, h, RelL_nil.2 rfl⟩
  | pe b sz i o =>
    have h' := h
    simp only [RelV] at h'
    obtain ⟨g, n, c, _, _, e⟩ := h'
    subst e
    exact RelL_cons.2 ⟨_, [], rfl, h, RelL_nil.2 rfl⟩
  | ve cs =>
    have h' := h
    simp only [RelV] at h'
    obtain ⟨g, o, us, e, _⟩ := h'
    subst e
    exact RelL_cons.2 ⟨_, [], rfl, h, RelL_nil.2 rfl⟩
  | tp cs =>
    have h' := h
    simp only [RelV] at h'
    obtain ⟨us, e, _⟩ := h'
    subst e
    exact RelL_cons.2 ⟨_, [], rfl, h, RelL_nil.2 rfl⟩
  | fn f cs =>
    have h' := h
    simp only [RelV] at h'
    obtain ⟨us, e, _⟩ := h'
    subst e
    exact RelL_cons.2 ⟨_, [], rfl, h, RelL_nil.2 rfl⟩
  | fm f cs =>
    have h' := h
    simp only [RelV] at h'
    obtain ⟨us, e, _⟩ := h'
    subst e
    exact RelL_cons.2 ⟨_, [], rfl, h, RelL_nil.2 rfl⟩
  | mp b =>
    have h' := h
    simp only [RelV] at h'
    obtain ⟨g, _, e⟩ := h'
    subst e
    exact RelL_cons.2 ⟨_, [], rfl, h, RelL_nil.2 rfl⟩
  | pa b =>
    have h' := h
    simp only [RelV] at h'
    obtain ⟨g, n, _, e⟩ := h'
    subst e
    exact RelL_cons.2 ⟨_, [], rfl, h, RelL_nil.2 rfl⟩
  | mnil =>
    have h' := h
    simp only [RelV] at h'
    subst h'
    exact RelL_cons.2 ⟨_, [], rfl, h, RelL_nil.2 rfl⟩

theorem dat_sound (h : HRel X keep w0 ι C0 w) (hf : FrozenOf C C0) {t : Ty} {a : AV} {v : Value} (hv : RelV w (okb X w ι C0) ι a v) {x : t.den} {f : List (Nat × Blk)}
    (hd : dat C t a = some (x, f)) : Frz X keep w0 ι C C0 w f ∧ Rz w (okb X w ι (updC C0 f)) t x v.cells.toList := by
  unfold dat at hd
  split at hd
  · cases hd
  · cases hd
  · rename_i hun hud
    split at hd
    · rename_i x1 f1 h1
      injection hd with hd
      injection hd with q1 q2
      subst q1; subst q2
      obtain ⟨g1, u1, u2, e1, e2, e3⟩ := pack_sound t C0 _ _ h hf (RelV_cells hv hun hud) _ _ _ h1
      rw [RelL_nil.1 e3, List.append_nil] at e1
      rw [e1]
      exact ⟨g1, e2⟩
    · cases hd
end
end Go.Proofs.Rf
/- Rf, part d: what an operation of the abstract evaluator says of the model's operation: operations that make no memory. -/
namespace Go.Proofs.Rf
open Go Go.RowKit

/-- What the table says of the program. -/
def UndOK (P : Program) (t : Nat) : TK → Prop
  | .int k => P.underlying t = some (.int k)
  | .bool => P.underlying t = some .bool
  | .str => P.underlying t = some .string
  | .sl e => P.underlying t = some (.slice e)
  | .ar n e => P.underlying t = some (.array n e)
  | .st fs => ∃ fields : Array Field, P.underlying t = some (.struct fields) ∧ fields.toList.map (fun f => (f.offset, f.type)) = fs
  | .pt e => P.underlying t = some (.pointer e)
  | .mp k e => P.underlying t = some (.map k e)
  | .up => P.underlying t = some .unsafePointer
  | .ifc => ∃ ms, P.underlying t = some (.interface ms)
  | .oth => ∃ d, P.underlying t = some d ∧ (match d with | .struct _ | .array _ _ => true | _ => false) = false

/-- An aggregate. -/
def isAgV : Value → Bool
  | .agg _ => true
  | _ => false

structure InfoOK (P : Program) (t : Nat) (td : TD) : Prop where
  ex : ∃ i z, P.info? t = some i ∧ i.size = td.size ∧ i.bytes = td.bytes ∧ i.zero = some z ∧ (∀ w ok ι, RelL w ok ι td.zero z.cells.toList) ∧ (∀ u ∈ z.cells.toList, u.oneCell' = true) ∧
    ∀ ty, td.ty = some ty → ty.size = td.size ∧ ∀ w ok, Rz w ok ty ty.dflt z.cells.toList
  und : UndOK P t td.k
  zs : td.zero.length = td.size
  za : ∀ i z, P.info? t = some i → i.zero = some z → isAgV z = td.k.agg
  cm : td.cmp = true → (∀ fields : Array Field, P.underlying t = some (.struct fields) → (fields.toList.all fun f => f.name != "_") = true ∧ P.stoodInHeld t = false) ∧ P.eqGuardType P.depth t = false

def TabOK (P : Program) (TT : Tab) : Prop := ∀ t td, TT t = some td → InfoOK P t td

section
variable {P : Program} {TT : Tab} {w : World}

theorem run_und {t : Nat} {d : TypeDesc} (h : P.underlying t = some d) : (underlying t).run P w = .ok d w := by simp [underlying, h]

theorem run_agg (hP : TabOK P TT) {t : Nat} {td : TD} (h : TT t = some td) : (isAgg t).run P w = .ok td.k.agg w := by
  have hu := (hP t td h).und
  unfold isAgg
  cases hk : td.k <;> rw [hk] at hu
  · rw [show UndOK P t (.int _) = _ from rfl] at hu; simp [run_und hu, TK.agg]
  · rw [show UndOK P t .bool = _ from rfl] at hu; simp [run_und hu, TK.agg]
  · rw [show UndOK P t .str = _ from rfl] at hu; simp [run_und hu, TK.agg]
  · rw [show UndOK P t (.sl _) = _ from rfl] at hu; simp [run_und hu, TK.agg]
  · rw [show UndOK P t (.ar _ _) = _ from rfl] at hu; simp [run_und hu, TK.agg]
  · obtain ⟨fields, hu, _⟩ := hu; simp [run_und hu, TK.agg]
  · rw [show UndOK P t (.pt _) = _ from rfl] at hu; simp [run_und hu, TK.agg]
  · rw [show UndOK P t (.mp _ _) = _ from rfl] at hu; simp [run_und hu, TK.agg]
  · rw [show UndOK P t .up = _ from rfl] at hu; simp [run_und hu, TK.agg]
  · obtain ⟨ms, hu⟩ := hu; simp [run_und hu, TK.agg]
  · obtain ⟨d, hu, hd⟩ := hu
    cases d <;> first | (simp at hd; done) | simp [run_und hu, TK.agg]

theorem run_size (hP : TabOK P TT) {t : Nat} {td : TD} (h : TT t = some td) : (sizeOf t).run P w = .ok td.size w := by
  obtain ⟨i, z, h1, h2, _⟩ := (hP t td h).ex
  simp [sizeOf, typeInfo, h1, h2]

theorem addr_add (g o j : Nat) : (⟨g, o, none⟩ : Addr).add j = ⟨g, o + j, none⟩ := by unfold Addr.add; split <;> simp_all

theorem load_sound (hP : TabOK P TT) {ok : Nat → Prop} {ι : Nat → Option Value} {tt g o : Nat} {cs : List AV} {us : List Value} {x : AV} (hc : ∀ j u, us[j]? = some u → w.cell? ⟨g, o + j, none⟩ = some u)
    (hr : RelL w ok ι cs us) (hl : loadC TT tt cs = some x) : ∃ v, (loadVar tt ⟨g, o, none⟩).run P w = .ok v w ∧ RelV w ok ι x v := by
  unfold loadC at hl
  split at hl
  · rename_i td htd
    split at hl
    · rename_i hagg
      split at hl
      · rename_i hsz
        injection hl with hl
        subst hl
        have hlen := RelL_length hr
        refine ⟨.agg (us.take td.size).toArray, ?_, by simp only [RelV]; exact ⟨_, rfl, RelL_take hr _⟩⟩
        have h1 := run_loadCells_list (P := P) (w := w) ⟨g, o, none⟩ (us.take td.size) (fun j v hj => by
          rw [addr_add]
          refine hc j v ?_
          rw [List.getElem?_take] at hj
          split at hj
          · exact hj
          · cases hj)
        rw [List.length_take, Nat.min_eq_left (by omega)] at h1
        simp [loadVar, run_agg hP htd, hagg, run_size hP htd, h1]
      · cases hl
    · rename_i hagg
      have hagg : td.k.agg = false := by simpa using hagg
      split at hl
      · rename_i a r
        injection hl with hl
        subst hl
        obtain ⟨v, vr, e, h1, h2⟩ := RelL_cons.1 hr
        refine ⟨v, ?_, h1⟩
        have h3 := hc 0 v (by rw [e]; rfl)
        rw [Nat.add_zero] at h3
        simp [loadVar, run_agg hP htd, hagg, h3]
      · cases hl
  · cases hl

/-- The model's operation comes to a value (or to nothing) and a world. -/
def Runs (P : Program) (s : Sem Next) (w : World) (Post : Value → World → Prop) : Prop :=
  ∃ v w', (s.run P w = .ok (.value v) w' ∨ (s.run P w = .ok .skip w' ∧ v = undef)) ∧ Post v w'

theorem Runs.wp {o : Oper} {a : Act} {K : Act → World → Prop} {Q : Exit → Act → World → Prop} {Post : Value → World → Prop} (h : Runs P (execOp a.eval o) w Post)
    (hK : ∀ v w', Post v w' → K (a.put o.dst v) w') : o.wp P a w K Q := by
  obtain ⟨v, w', h1 | ⟨h1, h2⟩, h3⟩ := h
  · unfold Oper.wp
    rw [h1]
    exact hK _ _ h3
  · unfold Oper.wp
    rw [h1]
    subst h2
    exact hK _ _ h3
end

section
variable {X keep : Nat → Prop} {w0 w : World} {ι : Nat → Option Value} {C : Nat → Blk}

/-- What an operation's effect says of the world behind it. -/
def Out (X keep : Nat → Prop) (w0 : World) (ι : Nat → Option Value) (C : Nat → Blk) (w : World) (nb : Nat) (e : Eff) (v : Value) (w' : World) : Prop :=
  ∃ ι', HRel X keep w0 ι' (effC C nb e) w' ∧ Ext X ι C w ι' (effC C nb e) w' ∧ RelV w' (okb X w' ι' (effC C nb e)) ι' e.dst v ∧ ∀ k, ¬ (nb ≤ k ∧ k < nb + e.new.length) → ι' k = ι k

theorem Out.pure (h : HRel X keep w0 ι C w) {nb : Nat} {a : AV} {v : Value} (hv : RelV w (okb X w ι C) ι a v) : Out X keep w0 ι C w nb ⟨a, [], []⟩ v w :=
  ⟨ι, h, Ext.refl _ _ _ _, hv, fun _ _ => rfl⟩

/-- Where the effect is a value alone. -/
theorem Out.of_some (h : HRel X keep w0 ι C w) {nb : Nat} {a : AV} {e : Eff} (he : (some (⟨a, [], []⟩ : Eff)) = some e) {v : Value} (hv : RelV w (okb X w ι C) ι a v) : Out X keep w0 ι C w nb e v w := by
  injection he with he
  subst he
  exact Out.pure h hv

variable {ok : Nat → Prop}

theorem avc_rel (v : Value) : RelV w ok ι (avc v) v := by
  unfold avc
  split <;> try simp only [RelV]
  · rfl
  · rfl
  · show [Value.string _] = _
    simp
  · exact ⟨_, rfl, rfl⟩
  · rfl
  · split
    · rename_i h
      rw [Bool.and_eq_true] at h
      obtain ⟨h1, h2⟩ := h
      simp only [RelV]
      refine ⟨[], ?_, RelL_nil.2 rfl⟩
      rw [Array.eq_empty_of_size_eq_zero (Nat.eq_of_beq_eq_true h1), Array.eq_empty_of_size_eq_zero (Nat.eq_of_beq_eq_true h2)]
    · simp only [RelV]

theorem avcs_rel : ∀ us : List Value, RelL w ok ι (us.map avc) us
  | [] => RelL_nil.2 rfl
  | u :: r => RelL_cons.2 ⟨_, _, rfl, avc_rel u, avcs_rel r⟩

theorem evG_rel (hg : GlOK w ok) {T : Nat → AV} {a : Act} (hT : ∀ t, RelV w ok ι (T t) (a.tmps.getD t undef)) (x : Operand) : RelV w ok ι (evG T x) (a.eval x) := by
  cases x with
  | tmp t => exact hT t
  | const v => exact avc_rel v
  | func f => simp only [evG, ev, RelV]; exact ⟨[], rfl, RelL_nil.2 rfl⟩
  | global g =>
    simp only [evG]
    split
    · rename_i us hu
      obtain ⟨h1, _, e, fz, h2⟩ := hg g us hu
      simp only [RelV]
      refine ⟨g, 0, us, rfl, h1, avcs_rel us, fun j u hj => ?_⟩
      simp only [World.cell?, h2, Nat.zero_add]
      simpa using hj
    · simp only [RelV]

theorem ev_rel {T : Nat → AV} {a : Act} (hT : ∀ t, RelV w ok ι (T t) (a.tmps.getD t undef)) (x : Operand) : RelV w ok ι (ev T x) (a.eval x) := by
  cases x with
  | tmp t => exact hT t
  | const v => exact avc_rel v
  | global g => simp only [ev, RelV]
  | func f => simp only [ev, RelV]; exact ⟨[], rfl, RelL_nil.2 rfl⟩

/-! ### Arithmetic -/
variable {P : Program}

theorem rel_int {k : IntKind} {n : Int} {v : Value} : RelV w ok ι (.d (.int k) n) v ↔ v = .int k n := by
  simp only [RelV]
  show [v] = _ ↔ _
  simp
theorem rel_bool {b : Bool} {v : Value} : RelV w ok ι (.d .bool b) v ↔ v = .bool b := by
  simp only [RelV]
  show [v] = _ ↔ _
  simp
theorem rel_str {s : List UInt8} {v : Value} : RelV w ok ι (.d .str s) v ↔ v = .string ⟨s.toArray⟩ := by
  simp only [RelV]
  show [v] = _ ↔ _
  simp

theorem toList_mk (s : List UInt8) : (⟨s.toArray⟩ : ByteArray).toList = s := by rw [ByteArray.toList_eq]
theorem size_mk (s : List UInt8) : (⟨s.toArray⟩ : ByteArray).size = s.length := by simp [ByteArray.size]
theorem append_mk (x y : List UInt8) : (⟨x.toArray⟩ : ByteArray) ++ ⟨y.toArray⟩ = ⟨(x ++ y).toArray⟩ := by
  apply ByteArray.ext
  simp

theorem eqGuard_int {op : BinOp} {t : TypeId} {x y : Operand} {k k' : IntKind} {a b : Int} : (eqGuard op t x y (.int k a) (.int k' b)).run P w = .ok () w := by
  unfold eqGuard
  split <;> simp
theorem eqGuard_bool {op : BinOp} {t : TypeId} {x y : Operand} {a b : Bool} : (eqGuard op t x y (.bool a) (.bool b)).run P w = .ok () w := by
  unfold eqGuard
  split <;> simp
theorem eqGuard_str {op : BinOp} {t : TypeId} {x y : Operand} {a b : ByteArray} : (eqGuard op t x y (.string a) (.string b)).run P w = .ok () w := by
  unfold eqGuard
  split <;> simp

theorem equalIn_bool {n : Nat} {t : TypeId} (hP : P.underlying t = some .bool) (a b : Bool) : (Op.equalIn (n + 1) t (.bool a) (.bool b)).run P w = .ok (a == b) w := by
  unfold Op.equalIn
  simp only [Sem.run_bind, run_und hP, Result.andThen_ok, Sem.run_pure]
theorem equal_bool {t : TypeId} (hP : P.underlying t = some .bool) (a b : Bool) : (Op.equal t (.bool a) (.bool b)).run P w = .ok (a == b) w := equalIn_bool (n := 9999) hP a b

/-- What a binary operation of the abstract evaluator says. -/
theorem eqGuard_slice {op : BinOp} {t : TypeId} {x y : Operand} {A B : Option Addr} {n m c d : Nat} : (eqGuard op t x y (.slice A n c) (.slice B m d)).run P w = .ok () w := by
  unfold eqGuard
  split <;> simp

theorem equalIn_nil {n t : Nat} {e : Nat} (h : P.underlying t = some (.slice e)) {A : Option Addr} {m c : Nat} : (Op.equalIn (n + 1) t (.slice A m c) (.slice none 0 0)).run P w = .ok A.isNone w := by
  simp only [Op.equalIn, Sem.run_bind, run_und h, Result.andThen_ok]
  cases A <;> rfl

theorem equal_nil {t : TypeId} {e : Nat} (h : P.underlying t = some (.slice e)) {A : Option Addr} {n c : Nat} : (Op.equal t (.slice A n c) (.slice none 0 0)).run P w = .ok A.isNone w := equalIn_nil (n := 9999) h

theorem bin_sound {bt st : Bool} {t : TypeId} (hP : bt = true → P.underlying t = some .bool) (hS : st = true → ∃ e, P.underlying t = some (.slice e)) {op : BinOp} {a b : AV} {va vb : Value} {x y : Operand} (ha : RelV w ok ι a va) (hb : RelV w ok ι b vb) {r : AV} (h : bin bt st op a b some = some r) :
    ∃ v, (do eqGuard op t x y va vb; binOp op t va vb : Sem Value).run P w = .ok v w ∧ RelV w ok ι r v := by
  unfold bin at h
  split at h
  · rename_i k xv k' yv
    rw [rel_int] at ha hb
    subst ha; subst hb
    simp only [Sem.run_bind, eqGuard_int, Result.andThen_ok]
    split at h
    · split at h
      · cases h
      · rename_i hy
        injection h with h; subst h
        exact ⟨_, by simp [binOp, Op.shift, hy], rel_int.2 rfl⟩
    · split at h
      · cases h
      · rename_i hy
        injection h with h; subst h
        exact ⟨_, by simp [binOp, Op.shift, hy], rel_int.2 rfl⟩
    all_goals
      split at h
      · rename_i hk
        obtain rfl := ikEq_eq hk
        first
          | (injection h with h; subst h
             first
               | (refine ⟨_, ?_, rel_int.2 rfl⟩; simp [binOp, Op.intArith]; done)
               | (refine ⟨_, ?_, rel_int.2 rfl⟩; simp [binOp, Op.intBits, bitop]; done)
               | (refine ⟨_, ?_, rel_bool.2 rfl⟩; simp [binOp, Op.intCmp]; done))
          | (split at h
             · cases h
             · rename_i hy
               injection h with h; subst h
               exact ⟨_, by simp [binOp, Op.intDiv, hy], rel_int.2 rfl⟩)
      · cases h
  · rename_i xv yv
    rw [rel_bool] at ha hb
    subst ha; subst hb
    simp only [Sem.run_bind, eqGuard_bool, Result.andThen_ok]
    split at h
    · split at h
      · rename_i hbt
        injection h with h; subst h
        refine ⟨_, ?_, rel_bool.2 rfl⟩
        simp only [binOp, Sem.run_bind, equal_bool (hP hbt), Result.andThen_ok, Sem.run_pure]
      · cases h
    · split at h
      · rename_i hbt
        injection h with h; subst h
        refine ⟨_, ?_, rel_bool.2 rfl⟩
        simp only [binOp, Sem.run_bind, equal_bool (hP hbt), Result.andThen_ok, Sem.run_pure]
      · cases h
    · cases h
  · rename_i ty xv
    simp only [RelV] at ha hb
    obtain ⟨A, c, e1, e2, e3⟩ := ha
    have e1 : va = .slice A xv.length c := by injection e1
    subst e1; subst hb
    simp only [Sem.run_bind, eqGuard_slice, Result.andThen_ok]
    split at h
    · split at h
      · rename_i hst
        obtain ⟨e, he⟩ := hS hst
        split at h
        · rename_i hl
          injection h with h; subst h
          obtain ⟨g, o, cs, q, _⟩ := e3 hl
          subst q
          exact ⟨_, by simp only [binOp, Sem.run_bind, equal_nil he, Result.andThen_ok, Sem.run_pure]; rfl, rel_bool.2 rfl⟩
        · injection h with h; subst h
          refine ⟨.bool A.isNone, ?_, by simp only [RelV]; exact ⟨_, rfl⟩⟩
          simp only [binOp, Sem.run_bind, equal_nil he, Result.andThen_ok, Sem.run_pure]
      · cases h
    · split at h
      · rename_i hst
        obtain ⟨e, he⟩ := hS hst
        split at h
        · rename_i hl
          injection h with h; subst h
          obtain ⟨g, o, cs, q, _⟩ := e3 hl
          subst q
          exact ⟨_, by simp only [binOp, Sem.run_bind, equal_nil he, Result.andThen_ok, Sem.run_pure]; rfl, rel_bool.2 rfl⟩
        · injection h with h; subst h
          refine ⟨.bool (!A.isNone), ?_, by simp only [RelV]; exact ⟨_, rfl⟩⟩
          simp only [binOp, Sem.run_bind, equal_nil he, Result.andThen_ok, Sem.run_pure]
      · cases h
    · cases h
  · simp only [RelV] at ha hb
    subst ha; subst hb
    simp only [Sem.run_bind, eqGuard_slice, Result.andThen_ok]
    split at h
    · split at h
      · rename_i hst
        obtain ⟨e, he⟩ := hS hst
        injection h with h; subst h
        exact ⟨_, by simp only [binOp, Sem.run_bind, equal_nil he, Result.andThen_ok, Sem.run_pure]; rfl, rel_bool.2 rfl⟩
      · cases h
    · split at h
      · rename_i hst
        obtain ⟨e, he⟩ := hS hst
        injection h with h; subst h
        exact ⟨_, by simp only [binOp, Sem.run_bind, equal_nil he, Result.andThen_ok, Sem.run_pure]; rfl, rel_bool.2 rfl⟩
      · cases h
    · cases h
  · rename_i xv yv
    rw [rel_str] at ha hb
    subst ha; subst hb
    simp only [Sem.run_bind, eqGuard_str, Result.andThen_ok]
    split at h
    case h_7 =>
      split at h
      · rename_i hl
        injection h with h; subst h
        refine ⟨_, ?_, rel_str.2 rfl⟩
        have h1 : ¬ (((⟨xv.toArray⟩ : ByteArray).size + (⟨yv.toArray⟩ : ByteArray).size : Nat) : Int) > IntKind.i64.max := by
          rw [size_mk, size_mk]
          have hm : IntKind.i64.max = 9223372036854775807 := by decide
          have hL : LIM = 4294967296 := rfl
          rw [hm]
          omega
        simp only [binOp, Op.stringOp, if_neg h1, Sem.run_pure, append_mk]
      · cases h
    all_goals first
      | (cases h
         refine ⟨_, ?_, rel_bool.2 rfl⟩
         simp only [binOp, Op.stringOp, toList_mk, Sem.run_pure]; done)
      | (cases h; done)
  · cases h

theorem uny_sound {op : UnOp} {a : AV} {va : Value} (ha : RelV w ok ι a va) {r : AV} (h : uny op a some = some r) :
    ∃ v, (Op.unary op va).run P w = .ok v w ∧ RelV w ok ι r v := by
  unfold uny at h
  split at h
  · rw [rel_int] at ha
    subst ha
    split at h
    · injection h with h; subst h
      exact ⟨_, by simp [Op.unary, Op.intArith], rel_int.2 rfl⟩
    · injection h with h; subst h
      refine ⟨_, ?_, rel_int.2 rfl⟩
      simp [Op.unary, Op.intBits, bitop]
    · cases h
  · rw [rel_bool] at ha
    subst ha
    split at h
    · injection h with h; subst h
      exact ⟨_, by simp [Op.unary], rel_bool.2 rfl⟩
    · cases h
  · cases h

end
end Go.Proofs.Rf
/- Rf, part e: what the operations of the abstract evaluator that read, write and make memory say of the model's. -/
namespace Go.Proofs.Rf
open Go Go.RowKit

section
variable {X keep : Nat → Prop} {w0 w : World} {ι : Nat → Option Value} {C : Nat → Blk} {P : Program} {TT : Tab}

theorem allOne_sound {ok : Nat → Prop} : ∀ {cs : List AV} {us : List Value}, allOne cs = true → RelL w ok ι cs us → ∀ u ∈ us, u.oneCell' = true
  | [], us, _, h => by rw [RelL_nil.1 h]; simp
  | a :: r, us, ha, h => by
    obtain ⟨v, vr, e, h1, h2⟩ := RelL_cons.1 h
    simp only [allOne, Bool.and_eq_true] at ha
    rw [e]
    intro u hu
    rcases List.mem_cons.1 hu with rfl | hu
    · cases a with
      | d t x =>
        simp only [RelV] at h1
        exact Rz_one t x _ h1 u (by simp)
      | un => exact absurd ha.1 (by simp [AV.one])
      | ud => exact absurd ha.1 (by simp [AV.one])
      | ag cs => exact absurd ha.1 (by simp [AV.one])
      | tp cs => exact absurd ha.1 (by simp [AV.one])
      | nl => simp only [RelV] at h1; subst h1; rfl
      | ub => simp only [RelV] at h1; obtain ⟨b, rfl⟩ := h1; rfl
      | np => simp only [RelV] at h1; subst h1; rfl
      | mp b => simp only [RelV] at h1; obtain ⟨g, _, rfl⟩ := h1; rfl
      | mnil => simp only [RelV] at h1; subst h1; rfl
      | pa b => simp only [RelV] at h1; obtain ⟨g, n, _, rfl⟩ := h1; rfl
      | rf b => simp only [RelV] at h1; obtain ⟨_, A, n, c, rfl⟩ := h1; rfl
      | rs b sz off len => simp only [RelV] at h1; obtain ⟨A, n, c, A', c', _, _, rfl, _⟩ := h1; rfl
      | pt b o => simp only [RelV] at h1; obtain ⟨g, _, rfl⟩ := h1; rfl
      | pe b sz i o => simp only [RelV] at h1; obtain ⟨g, n, c, _, _, rfl⟩ := h1; rfl
      | ve cs => simp only [RelV] at h1; obtain ⟨g, o, us, rfl, _⟩ := h1; rfl
      | fn f cs => simp only [RelV] at h1; obtain ⟨us, rfl, _⟩ := h1; rfl
      | fm f cs => simp only [RelV] at h1; obtain ⟨us, rfl, _⟩ := h1; rfl
    · exact allOne_sound ha.2 h2 u hu

/-! ### Reading -/
theorem box_cells (h : HRel X keep w0 ι C w) {b : Nat} {e : Nat} {cs : List AV} (hb : C b = .box e cs) : ∃ g us, ι b = some (.pointer (some ⟨g, 0, none⟩)) ∧ w.heap[g]? = some (.cells (List.toArray us) e (0, 0)) ∧ RelL w (okb X w ι C) ι cs us := by
  have := h.bl b
  rw [hb] at this
  exact this

theorem cell_heap {g : Nat} {us : List Value} {e : Nat} {fr : Nat × Nat} (h : w.heap[g]? = some (.cells us.toArray e fr)) (j : Nat) : w.cell? ⟨g, j, none⟩ = us[j]? := by
  simp [World.cell?, h]

/-- Row b lies in the world, whether it is still the call's own or read alone. -/
theorem row_cells (h : HRel X keep w0 ι C w) {b : Nat} {t : Ty} {e : Nat} {xs : List t.den} {rw : Bool} (hb : C b = .row t e xs rw) :
    ∃ A c, ι b = some (.slice A xs.length c) ∧ xs.length ≤ c ∧ (0 < xs.length → ∃ g o cs, A = some ⟨g, o, none⟩ ∧ RzL (Rz w (okb X w ι C) t) xs cs ∧ ∀ j u, cs[j]? = some u → w.cell? ⟨g, o + j, none⟩ = some u) := by
  have hB := h.bl b
  rw [hb] at hB
  cases rw with
  | false =>
    obtain ⟨v, h1, _, A, c, e, h2, h3⟩ := hB
    injection e with e _
    subst e
    exact ⟨A, c, h1, h2, fun hp => by
      obtain ⟨g, o, cs, q1, _, q3, q4⟩ := h3 hp
      exact ⟨g, o, cs, q1, q3, q4⟩⟩
  | true =>
    obtain ⟨v, cs, h1, h2, h3⟩ := hB
    rcases h2.2 with ⟨h4, h5⟩ | ⟨g, cap, cur, hv, _, h6, h7, h8, h9, h10⟩
    · exact ⟨none, 0, by rw [h1, h4, h5], by omega, fun hp => by omega⟩
    · refine ⟨some ⟨g, 0, none⟩, cap, by rw [h1, hv], h7, fun _ => ⟨g, 0, cs, rfl, h3, fun j u hu => ?_⟩⟩
      have hcl := h2.cells (g := g) (by rw [hv]; rfl) j u hu
      rw [addr_add] at hcl
      exact hcl

theorem elem_cells (h : HRel X keep w0 ι C w) {b sz i o : Nat} {t : Ty} {e : Nat} {xs : List t.den} {rw : Bool} (hb : C b = .row t e xs rw) {v : Value} (hv : RelV w (okb X w ι C) ι (.pe b sz i o) v) (hsz : sz = t.size) :
    ∃ g us, v = .pointer (some ⟨g, i * t.size + o, none⟩) ∧ ι b = some (.slice (some ⟨g, 0, none⟩) xs.length (match ι b with | some (.slice _ _ c) => c | _ => 0)) ∧ i < xs.length ∧ Rz w (okb X w ι C) t (xs.getD i t.dflt) us ∧ us.length = t.size ∧
      ∀ j u, us[j]? = some u → w.cell? ⟨g, i * t.size + j, none⟩ = some u := by
  subst hsz
  simp only [RelV] at hv
  obtain ⟨g, n, c, h1, h2, h3⟩ := hv
  obtain ⟨A, c', h4, h5, h6⟩ := row_cells h hb
  rw [h1] at h4
  injection h4 with h4
  injection h4 with q1 q2 q3
  subst q1; subst q2; subst q3
  obtain ⟨g', o', cs, q4, q5, q6⟩ := h6 (by omega)
  injection q4 with q4
  injection q4 with q4 q7 _
  subst q4; subst q7
  have hx : xs[i]? = some (xs.getD i t.dflt) := by
    rw [List.getD_eq_getElem?_getD, List.getElem?_eq_getElem h2]; rfl
  obtain ⟨us, r1, r2, r3⟩ := RzL_get (Rz_length t) i _ q5 hx
  refine ⟨g, us, h3, by rw [h1], h2, r1, r2, fun j u hu => ?_⟩
  have := q6 _ _ (r3 j u hu)
  rwa [Nat.zero_add] at this

theorem run_loadAt {tt : Nat} {a : Addr} : (Instr.loadAt tt (.pointer (some a))).run P w = (loadVar tt a).run P w := by
  simp [Instr.loadAt, Instr.sureAddr]

theorem load_op (hP : TabOK P TT) (h : HRel X keep w0 ι C w) {tt : Nat} {a x : AV} {va : Value} (ha : RelV w (okb X w ι C) ι a va)
    (hl : loadAV TT C tt a = some x) : ∃ v, (Instr.loadAt tt va).run P w = .ok v w ∧ RelV w (okb X w ι C) ι x v := by
  unfold loadAV at hl
  cases a
  case pt b o' =>
    simp only at hl
    split at hl
    · rename_i cs hb
      obtain ⟨g, us, h1, h2, h3⟩ := box_cells h hb
      simp only [RelV] at ha
      obtain ⟨g', h4, h5⟩ := ha
      rw [h1] at h4
      injection h4 with h4
      injection h4 with h4
      injection h4 with h4
      injection h4 with h4
      subst h4
      subst h5
      rw [run_loadAt]
      refine load_sound hP (us := us.drop o') (fun j u hj => ?_) (RelL_drop h3 o') hl
      rw [cell_heap h2]
      rwa [List.getElem?_drop] at hj
    · cases hl
  case pe b sz i o' =>
    simp only at hl
    split at hl
    · rename_i t e xs rw hb
      split at hl
      · rename_i hsz
        obtain ⟨g, us, h1, h2, h3, h4, h5, h6⟩ := elem_cells h hb ha (Nat.eq_of_beq_eq_true hsz)
        subst h1
        rw [run_loadAt]
        refine load_sound hP (us := us.drop o') (fun j u hj => ?_) (RelL_drop (RelL_unpack t _ us h4) o') hl
        rw [Nat.add_assoc]
        rw [List.getElem?_drop] at hj
        exact h6 _ _ hj
      · cases hl
    · cases hl
  case ve cs =>
    simp only at hl
    simp only [RelV] at ha
    obtain ⟨g, o, us, h1, h2, h3, h4⟩ := ha
    subst h1
    rw [run_loadAt]
    exact load_sound hP h4 h3 hl
  all_goals cases hl

end
end Go.Proofs.Rf
/- Rf, part f: stores and new memory. -/
namespace Go.Proofs.Rf
open Go Go.RowKit

theorem RzL_at {α : Type} {D : α → List Value → Prop} {n : Nat} (hD : ∀ x us, D x us → us.length = n) : ∀ {xs : List α} {cs : List Value} (i : Nat), RzL D xs cs → (hi : i < xs.length) →
    ∃ A us B, cs = A ++ us ++ B ∧ A.length = i * n ∧ D xs[i] us ∧ ∀ y us', D y us' → RzL D (xs.set i y) (A ++ us' ++ B)
  | [], _, i, _, hi => by simp at hi
  | x :: r, _, 0, ⟨us, vr, e, hx, hr⟩, hi => ⟨[], us, vr, by rw [e]; rfl, by simp, hx, fun y us' hy => ⟨us', vr, by rfl, hy, hr⟩⟩
  | x :: r, _, i + 1, ⟨us, vr, e, hx, hr⟩, hi => by
    obtain ⟨A, us1, B, h1, h2, h3, h4⟩ := RzL_at hD i hr (by simpa using hi)
    refine ⟨us ++ A, us1, B, by rw [e, h1]; simp [List.append_assoc], by rw [List.length_append, hD _ _ hx, h2, Nat.add_mul]; omega, h3, fun y us' hy => ?_⟩
    exact ⟨us, A ++ us' ++ B, by simp [List.append_assoc], hx, h4 y us' hy⟩

section
variable {X keep : Nat → Prop} {w0 w : World} {ι : Nat → Option Value} {C : Nat → Blk} {P : Program} {TT : Tab}

theorem one_ne {a : AV} (h : allOne (cellsOf a) = true) : a ≠ .un ∧ a ≠ .ud := by
  constructor <;> rintro rfl <;> simp [cellsOf, allOne, AV.one] at h

theorem run_storeAt {tt : Nat} {td : TD} (hP : TabOK P TT) (htt : TT tt = some td) {g o : Nat} {v : Value} {cur : Array Value} {e : Nat} (hs : v.cells.size = td.size) (hg : w.heap[g]? = some (.cells cur e (0, 0)))
    (ho : o + v.cells.size ≤ cur.size) (h1 : ∀ u ∈ v.cells.toList, u.oneCell' = true) :
    (Instr.storeAt tt (.pointer (some ⟨g, o, none⟩)) v).run P w = .ok () (w.setRow g (cur.toList.take o ++ v.cells.toList ++ cur.toList.drop (o + v.cells.toList.length)).toArray) := by
  have h2 := run_storeCells_at (P := P) g o e v.cells.toList 0 cur w hg (by simpa using ho) h1
  simp only [Nat.add_zero] at h2
  simp only [Instr.storeAt, Instr.sureAddr, storeVar, Sem.run_bind, Sem.run_pure, run_size hP htt, Result.andThen_ok, ne_eq, hs, not_true, if_false, h2]

theorem RelL_splice {ok : Nat → Prop} {cs ds : List AV} {us vs : List Value} (h : RelL w ok ι cs us) (k : RelL w ok ι ds vs) (o : Nat) : RelL w ok ι (splice cs o ds) (us.take o ++ vs ++ us.drop (o + vs.length)) := by
  unfold splice
  rw [← RelL_length k]
  exact RelL_append (RelL_append (RelL_take h o) k) (RelL_drop h _)

/-- A box is written. -/
theorem store_box (hP : TabOK P TT) (h : HRel X keep w0 ι C w) {tt : Nat} {b o' nb : Nat} {x : AV} {va vx : Value} (ha : RelV w (okb X w ι C) ι (.pt b o') va) (hx : RelV w (okb X w ι C) ι x vx) {cs : List AV} {be : Nat} (hb : C b = .box be cs)
    (hc : ((TT tt).isSome && allOne (cellsOf x) && Nat.beq (cellsOf x).length (sizeT TT tt) && Nat.ble (o' + (cellsOf x).length) cs.length) = true) :
    ∃ w', (Instr.storeAt tt va vx).run P w = .ok () w' ∧ Out X keep w0 ι C w nb ⟨.un, [(b, .box be (splice cs o' (cellsOf x)))], []⟩ undef w' := by
  simp only [Bool.and_eq_true] at hc
  obtain ⟨⟨⟨c1, c2⟩, c3⟩, c4⟩ := hc
  have c3 := Nat.eq_of_beq_eq_true c3
  have c4 := Nat.le_of_ble_eq_true c4
  obtain ⟨td, htd⟩ := Option.isSome_iff_exists.1 c1
  rw [show sizeT TT tt = td.size by simp [sizeT, htd]] at c3
  obtain ⟨n1, n2⟩ := one_ne c2
  have hcl := RelV_cells hx n1 n2
  have hlen := RelL_length hcl
  simp only [Array.length_toList] at hlen
  obtain ⟨g, us, h1, h2, h3⟩ := box_cells h hb
  have hul := RelL_length h3
  simp only [RelV] at ha
  obtain ⟨g', h4, h5⟩ := ha
  rw [h1] at h4
  injection h4 with h4
  injection h4 with h4
  injection h4 with h4
  injection h4 with h4
  subst h4
  subst h5
  refine ⟨_, run_storeAt hP htd (by omega) h2 (by simp; omega) (allOne_sound c2 hcl), ι, ?_⟩
  have hbk : bk ι C b = some g := by unfold bk; rw [hb, h1]
  have hbk' : bk ι (setC C b (.box be (splice cs o' (cellsOf x)))) b = some g := by unfold bk; rw [setC_self, h1]
  have := h.step (C' := setC C b (.box be (splice cs o' (cellsOf x)))) (ι' := ι) (w' := w.setRow g (us.toArray.toList.take o' ++ vx.cells.toList ++ us.toArray.toList.drop (o' + vx.cells.toList.length)).toArray) (fun j => j = b) rfl rfl rfl (by simp)
    (fun j hj => setC_ne hj) (fun _ _ q => q) (fun _ _ => rfl) (fun k b' hk q => by
      subst hk
      rw [hbk'] at q
      injection q with q
      subst q
      exact .inr ⟨_, rfl, hbk⟩) (fun k k' b' hk hk' _ _ => hk.trans hk'.symm) (fun b' hb' hk => setRow_other _ _ _ _ (by rintro rfl; exact hk b rfl hbk)) (fun hext k hk => by
      subst hk
      rw [setC_self]
      refine ⟨g, us.take o' ++ vx.cells.toList ++ us.drop (o' + vx.cells.toList.length), h1, setRow_heap _ _ _ _ _ _ h2, ?_⟩
      exact RelL_splice (hext.vals h3) (hext.vals hcl) o')
  exact ⟨this.1, this.2, by simp only [RelV], fun _ _ => rfl⟩

/-- An element of a row of the call's own is written. -/
theorem store_row (hP : TabOK P TT) (h : HRel X keep w0 ι C w) {tt : Nat} {b sz i o' nb : Nat} {x : AV} {va vx : Value} (ha : RelV w (okb X w ι C) ι (.pe b sz i o') va) (hx : RelV w (okb X w ι C) ι x vx) {t : Ty} {e : Nat} {xs : List t.den} (hb : C b = .row t e xs true)
    (hc : (Nat.beq sz t.size && (TT tt).isSome && allOne (cellsOf x) && Nat.beq (cellsOf x).length (sizeT TT tt) && Nat.ble (o' + (cellsOf x).length) t.size) = true) {y : t.den} (hp : pack C t (splice (unpack t (xs.getD i t.dflt)) o' (cellsOf x)) = some (y, [], [])) :
    ∃ w', (Instr.storeAt tt va vx).run P w = .ok () w' ∧ Out X keep w0 ι C w nb ⟨.un, [(b, .row t e (xs.set i y) true)], []⟩ undef w' := by
  simp only [Bool.and_eq_true] at hc
  obtain ⟨⟨⟨⟨c0, c1⟩, c2⟩, c3⟩, c4⟩ := hc
  have c0 := Nat.eq_of_beq_eq_true c0
  subst c0
  have c3 := Nat.eq_of_beq_eq_true c3
  have c4 := Nat.le_of_ble_eq_true c4
  obtain ⟨td, htd⟩ := Option.isSome_iff_exists.1 c1
  rw [show sizeT TT tt = td.size by simp [sizeT, htd]] at c3
  obtain ⟨n1, n2⟩ := one_ne c2
  have hcl := RelV_cells hx n1 n2
  have hlen := RelL_length hcl
  simp only [Array.length_toList] at hlen
  have hB := h.bl b
  rw [hb] at hB
  obtain ⟨v, cs, h1, h2, h3⟩ := hB
  simp only [RelV] at ha
  obtain ⟨g, n, c, h4, h5, h6⟩ := ha
  subst h6
  rw [h1] at h4
  injection h4 with h4
  subst h4
  rcases h2.2 with ⟨h7, _⟩ | ⟨g', cap, cur, hv, _, q2, q3, q4, q5, q6⟩
  · cases h7
  injection hv with p1 p2 p3
  injection p1 with p1
  injection p1 with p1 _ _
  subst p1; subst p2; subst p3
  obtain ⟨A, us, B, r1, r2, r3, r4⟩ := RzL_at (Rz_length t) i h3 h5
  have hx0 : xs.getD i t.dflt = xs[i] := by rw [List.getD_eq_getElem?_getD, List.getElem?_eq_getElem h5]; rfl
  rw [hx0] at hp
  have hul := Rz_length t _ _ r3
  have hcur : cur.toList = A ++ us ++ B ++ cur.toList.drop (xs.length * t.size) := by
    conv => lhs; rw [← List.take_append_drop (xs.length * t.size) cur.toList]
    rw [q6, r1]
  have hcl2 : RelL w (okb X w ι C) ι (splice (unpack t xs[i]) o' (cellsOf x)) (us.take o' ++ vx.cells.toList ++ us.drop (o' + vx.cells.toList.length)) := RelL_splice (RelL_unpack t _ us r3) hcl o'
  obtain ⟨_, u1, u2, z1, z2, z3⟩ := pack_sound (C := C) t C _ _ h (FrozenOf.refl C) hcl2 _ _ _ hp
  rw [RelL_nil.1 z3, List.append_nil] at z1
  rw [← z1] at z2
  have z2 : Rz w (okb X w ι C) t y (us.take o' ++ vx.cells.toList ++ us.drop (o' + vx.cells.toList.length)) := z2
  have hvl : vx.cells.toList.length = vx.cells.size := Array.length_toList
  have hcl3 := congrArg List.length hcur
  have hdl : i * t.size + o' + vx.cells.size ≤ cur.size := by
    simp only [List.length_append, Array.length_toList] at hcl3
    omega
  have hnew : (cur.toList.take (i * t.size + o') ++ vx.cells.toList ++ cur.toList.drop (i * t.size + o' + vx.cells.toList.length)) =
      A ++ (us.take o' ++ vx.cells.toList ++ us.drop (o' + vx.cells.toList.length)) ++ B ++ cur.toList.drop (xs.length * t.size) := by
    generalize cur.toList.drop (xs.length * t.size) = D at hcur
    rw [hcur, ← r2]
    have e1 : (A ++ us ++ B ++ D).take (A.length + o') = A ++ us.take o' := by
      rw [List.append_assoc, List.append_assoc, List.take_length_add_append, List.take_append_of_le_length (by omega)]
    have e2 : (A ++ us ++ B ++ D).drop (A.length + o' + vx.cells.toList.length) = us.drop (o' + vx.cells.toList.length) ++ B ++ D := by
      rw [Nat.add_assoc, List.append_assoc, List.append_assoc, List.drop_length_add_append, List.drop_append_of_le_length (by omega), List.append_assoc]
    rw [e1, e2]
    simp only [List.append_assoc]
  refine ⟨_, run_storeAt hP htd (by omega) q2 hdl (allOne_sound c2 hcl), ι, ?_⟩
  have hbk : bk ι C b = some g := by unfold bk; rw [hb, h1]; rfl
  have hbk' : bk ι (setC C b (.row t e (xs.set i y) true)) b = some g := by unfold bk; rw [setC_self, h1]; rfl
  have := h.step (C' := setC C b (.row t e (xs.set i y) true)) (ι' := ι) (w' := w.setRow g (cur.toList.take (i * t.size + o') ++ vx.cells.toList ++ cur.toList.drop (i * t.size + o' + vx.cells.toList.length)).toArray) (fun j => j = b) rfl rfl rfl (by simp)
    (fun j hj => setC_ne hj) (fun _ _ q => q) (fun _ _ => rfl) (fun k b' hk q => by
      subst hk
      rw [hbk'] at q
      injection q with q
      subst q
      exact .inr ⟨_, rfl, hbk⟩) (fun k k' b' hk hk' _ _ => hk.trans hk'.symm) (fun b' hb' hk => setRow_other _ _ _ _ (by rintro rfl; exact hk b rfl hbk)) (fun hext k hk => by
      subst hk
      rw [setC_self]
      have hR := RzL_mono (fun x us hx => hext.data hx) (r4 y _ z2)
      refine ⟨.slice (some ⟨g, 0, none⟩) xs.length c, A ++ (us.take o' ++ vx.cells.toList ++ us.drop (o' + vx.cells.toList.length)) ++ B, h1, ?_, hR⟩
      have hlen2 := RzL_length (Rz_length t) hR
      rw [List.length_set] at hlen2 ⊢
      refine ⟨hlen2, .inr ⟨g, c, _, rfl, Nat.zero_le _, setRow_heap _ _ _ _ _ _ q2, q3, q4, ?_, ?_⟩⟩
      · have hL := congrArg List.length hnew
        have hL2 := congrArg List.length hcur
        simp only [List.length_append, List.length_take, List.length_drop, Array.length_toList] at hL hL2 ⊢
        simp only [List.size_toArray, List.length_append, List.length_take, List.length_drop, Array.length_toList]
        omega
      · rw [hnew]
        simp only []
        rw [List.take_left' hlen2])
  exact ⟨this.1, this.2, by simp only [RelV], fun _ _ => rfl⟩

end
end Go.Proofs.Rf
/- Rf, part g: operations that make memory; slices; indexes. -/
namespace Go.Proofs.Rf
open Go Go.RowKit

theorem heap_new (w : World) (o : Obj) : (w.alloc o).heap[w.heap.size]? = some o := by
  show (w.heap.push o)[w.heap.size]? = _
  simp

theorem madeCells_toList (z : Array Value) (hz : 0 < z.size) : ∀ n, (madeCells z (n * z.size)).toList = (List.replicate n z.toList).flatten
  | 0 => by simp [madeCells]
  | n + 1 => by
    have ih := madeCells_toList z hz n
    rw [List.replicate_succ, List.flatten_cons, ← ih]
    unfold madeCells
    rw [Nat.add_mul, Nat.one_mul, Nat.add_comm]
    simp only [Array.toList_map, Array.toList_range, List.range_add, List.map_append, List.map_map]
    congr 1
    · apply List.ext_getElem?
      intro k
      simp only [List.getElem?_map]
      by_cases hk : k < z.size
      · rw [List.getElem?_range hk]
        simp [hk, Nat.mod_eq_of_lt hk]
      · rw [List.getElem?_eq_none (by simpa using hk), List.getElem?_eq_none (by simpa using hk)]
        rfl
    · apply List.map_congr_left
      intro k _
      simp

section
variable {X keep : Nat → Prop} {w0 w : World} {ι : Nat → Option Value} {C : Nat → Blk} {P : Program} {TT : Tab}

/-- A new block. -/
theorem HRel.new (h : HRel X keep w0 ι C w) {nb : Nat} (hn : ι nb = none) {w' : World} (hg : w.grownBy w' none) {v : Value} {b : Blk}
    (hown : ∀ g, bk (setI ι nb v) (setC C nb b) nb = some g → w.heap.size ≤ g)
    (hB : Ext X ι C w (setI ι nb v) (setC C nb b) w' → RelB w' (okb X w' (setI ι nb v) (setC C nb b)) (setI ι nb v) nb b) :
    HRel X keep w0 (setI ι nb v) (setC C nb b) w' ∧ Ext X ι C w (setI ι nb v) (setC C nb b) w' :=
  h.step (fun k => k = nb) hg.os hg.tape hg.output hg.size (fun k hk => setC_ne hk)
    (fun k u hk => by
      by_cases e : k = nb
      · subst e; rw [hn] at hk; cases hk
      · rw [setI_ne e]; exact hk) (fun k hk => setI_ne hk) (fun k g hk q => by subst hk; exact .inl (hown g q)) (fun k k' b hk hk' _ _ => hk.trans hk'.symm)
    (fun b hb _ => hg.block b hb (by simp)) (fun hext k hk => by subst hk; rw [setC_self]; exact hB hext)

theorem Out.new {nb : Nat} {v : Value} {b : Blk} {w' : World} (h : HRel X keep w0 (setI ι nb v) (setC C nb b) w' ∧ Ext X ι C w (setI ι nb v) (setC C nb b) w') {a : AV} {r : Value} (hr : RelV w' (okb X w' (setI ι nb v) (setC C nb b)) (setI ι nb v) a r) :
    Out X keep w0 ι C w nb ⟨a, [], [b]⟩ r w' :=
  ⟨setI ι nb v, h.1, h.2, hr, fun k hk => setI_ne (by rintro rfl; exact hk ⟨Nat.le_refl _, by simp⟩)⟩

theorem new_cells (h : HRel X keep w0 ι C w) {nb : Nat} (hn : ι nb = none) {cs : List AV} {us : List Value} (hr : RelL w (okb X w ι C) ι cs us) (e : Nat) :
    Out X keep w0 ι C w nb ⟨.pt nb 0, [], [.box e cs]⟩ (.pointer (some ⟨w.heap.size, 0, none⟩)) (w.alloc (.cells us.toArray e)) := by
  refine Out.new (v := .pointer (some ⟨w.heap.size, 0, none⟩)) (h.new hn (World.grownBy_alloc _ _ _) ?_ ?_) ?_
  · intro g q
    unfold bk at q
    rw [setC_self, setI_self] at q
    injection q with q
    have q : w.heap.size = g := q
    omega
  · intro hext
    exact ⟨w.heap.size, us, setI_self _ _ _, heap_new _ _, hext.vals hr⟩
  · simp only [RelV]
    exact ⟨w.heap.size, setI_self _ _ _, rfl⟩

theorem alloc_op (hP : TabOK P TT) (h : HRel X keep w0 ι C w) {nb : Nat} (hn : ι nb = none) {e : Nat} {td : TD} (he : TT e = some td) :
    ∃ v w', (Instr.alloc e true (.tuple #[])).run P w = .ok v w' ∧ Out X keep w0 ι C w nb ⟨.pt nb 0, [], [.box e td.zero]⟩ v w' := by
  obtain ⟨i, z, h1, h2, h3, h4, h5, h6, _⟩ := (hP e td he).ex
  refine ⟨_, _, ?_, new_cells h hn (h5 _ _ _) e⟩
  simp [Instr.alloc, zeroValue, typeInfo, h1, h4, newVar, newRow]

theorem box_op (h : HRel X keep w0 ι C w) {nb : Nat} (hn : ι nb = none) {e : Nat} {x : AV} {vx : Value} (hx : RelV w (okb X w ι C) ι x vx) (h1 : x ≠ .un) (h2 : x ≠ .ud) :
    ∃ v w', (Instr.box e vx).run P w = .ok v w' ∧ Out X keep w0 ι C w nb ⟨.pt nb 0, [], [.box e (cellsOf x)]⟩ v w' := by
  refine ⟨_, _, ?_, new_cells h hn (RelV_cells hx h1 h2) e⟩
  simp [Instr.box, newVar, newRow]

theorem range_op {tt : Nat} (hu : P.underlying tt = some .string) (h : HRel X keep w0 ι C w) {nb : Nat} (hn : ι nb = none) {s : List UInt8} :
    ∃ v w', (Instr.range tt (.string ⟨s.toArray⟩)).run P w = .ok v w' ∧ Out X keep w0 ι C w nb ⟨.pt nb 0, [], [.it s 0]⟩ v w' := by
  refine ⟨.pointer (some ⟨w.heap.size, 0, none⟩), w.alloc (.stringIter ⟨s.toArray⟩ 0), ?_, ?_⟩
  · simp [Instr.range, run_und hu]
  · refine Out.new (v := .pointer (some ⟨w.heap.size, 0, none⟩)) (h.new hn (World.grownBy_alloc _ _ _) ?_ ?_) ?_
    · intro g q
      unfold bk at q
      rw [setC_self, setI_self] at q
      injection q with q
      have q : w.heap.size = g := q
      omega
    · intro hext
      exact ⟨w.heap.size, setI_self _ _ _, heap_new _ _⟩
    · simp only [RelV]
      exact ⟨w.heap.size, setI_self _ _ _, rfl⟩

/-- A new row of the call's own. -/
theorem Out.row (h : HRel X keep w0 ι C w) {nb : Nat} (hn : ι nb = none) {w' : World} (hg : w.grownBy w' none) {t : Ty} {e : Nat} {xs : List t.den} {v : Value} {cs : List Value}
    (ho : w'.ownsRow 0 e t.size v xs.length cs) (hv : ∀ g, v.ownBlock = some g → w.heap.size ≤ g) (hr : RzL (Rz w (okb X w ι C) t) xs cs) :
    Out X keep w0 ι C w nb ⟨.rf nb, [], [.row t e xs true]⟩ v w' := by
  refine Out.new (v := v) (h.new hn hg ?_ ?_) ?_
  · intro g q
    unfold bk at q
    rw [setC_self, setI_self] at q
    exact hv g q
  · intro hext
    exact ⟨v, cs, setI_self _ _ _, ho, RzL_mono (fun x us hx => hext.data hx) hr⟩
  · simp only [RelV]
    refine ⟨setI_self _ _ _, ?_⟩
    rcases ho.2 with ⟨h1, h2⟩ | ⟨g, cap, cur, h1, _⟩
    · exact ⟨none, 0, 0, by rw [h1]⟩
    · exact ⟨_, _, _, h1⟩

/-- An effect behind another: blocks changed first (ι being as it was), then the rest. -/
theorem Out.after {f : List (Nat × Blk)} {C1 : Nat → Blk} (hC : C1 = updC C f) (hext : Ext X ι C w ι C1 w) {nb : Nat} {a : AV} {new : List Blk} {u : List (Nat × Blk)} {v : Value} {w' : World} (h : Out X keep w0 ι C1 w nb ⟨a, u, new⟩ v w') :
    Out X keep w0 ι C w nb ⟨a, f ++ u, new⟩ v w' := by
  obtain ⟨ι', h1, h2, h3, h4⟩ := h
  subst hC
  have he : effC C nb ⟨a, f ++ u, new⟩ = effC (updC C f) nb ⟨a, u, new⟩ := by unfold effC; rw [updC_append]
  refine ⟨ι', ?_, ?_, ?_, h4⟩
  · rw [he]; exact h1
  · rw [he]; exact hext.trans h2
  · rw [he]; exact h3

theorem Out.after0 {f : List (Nat × Blk)} {C1 : Nat → Blk} (hC : C1 = updC C f) (hext : Ext X ι C w ι C1 w) {nb : Nat} {a : AV} {new : List Blk} {v : Value} {w' : World} (h : Out X keep w0 ι C1 w nb ⟨a, [], new⟩ v w') :
    Out X keep w0 ι C w nb ⟨a, f, new⟩ v w' := by
  have := Out.after hC hext h
  rwa [List.append_nil] at this

theorem make_op (hP : TabOK P TT) (h : HRel X keep w0 ι C w) {nb : Nat} (hn : ι nb = none) {tt e : Nat} {td te : TD} (ht : TT tt = some td) (hk : td.k = .sl e) (he : TT e = some te) {ty : Ty} (hty : te.ty = some ty)
    {x y : Int} (hsz : 0 < ty.size) (hb : te.bytes ≤ 1024) (h0 : 0 ≤ x) (h1 : x ≤ y) (h2 : y ≤ (LIM : Int)) :
    ∃ v w', (Instr.makeSlice tt (.int .i64 x) (.int .i64 y)).run P w = .ok v w' ∧ Out X keep w0 ι C w nb ⟨.rf nb, [], [.row ty e (List.replicate x.toNat ty.dflt) true]⟩ v w' := by
  obtain ⟨i, z, i1, i2, i3, i4, i5, i6, i7⟩ := (hP e te he).ex
  obtain ⟨j1, j2⟩ := i7 ty hty
  have hu := (hP tt td ht).und
  rw [hk] at hu
  have hu : P.underlying tt = some (.slice e) := hu
  have hL : LIM = 4294967296 := rfl
  rw [hL] at h2
  have hzl := Rz_length ty _ _ (j2 w (okb X w ι C))
  have hby : (i.bytes : Int) * y ≤ 281474976710656 := by
    have e1 : (i.bytes : Int) ≤ 1024 := by omega
    have e2 : (i.bytes : Int) * y ≤ 1024 * y := Int.mul_le_mul_of_nonneg_right e1 (by omega)
    omega
  have hr := run_make (P := P) w tt e i z hu i1 i4 .i64 .i64 x y h0 h1 hby (by omega)
  refine ⟨_, _, hr, ?_⟩
  have hms : (madeCells z.cells (y.toNat * i.size)).size = y.toNat * i.size := size_madeCells _ _
  refine Out.row (cs := (List.replicate x.toNat z.cells.toList).flatten) h hn (World.grownBy_alloc _ _ _) ?_ (fun g q => by injection q with q; have q : w.heap.size = g := q; omega) (RzL_replicate (j2 w _) _)
  rw [List.length_replicate]
  have hzs : z.cells.size = ty.size := by rw [← Array.length_toList]; exact hzl
  refine ⟨?_, .inr ⟨w.heap.size, y.toNat, _, rfl, Nat.zero_le _, heap_new _ _, by omega, by simp only [maxLen]; omega, by rw [hms, i2, j1], ?_⟩⟩
  · have := RzL_length (Rz_length ty) (RzL_replicate (j2 w (okb X w ι C)) x.toNat)
    rwa [List.length_replicate] at this
  · rw [i2, ← j1, ← hzs, madeCells_toList _ (by omega)]
    have e1 : y.toNat = x.toNat + (y.toNat - x.toNat) := by omega
    rw [e1, List.replicate_append_replicate.symm, List.flatten_append, List.take_left']
    rw [hzs]
    have := RzL_length (Rz_length ty) (RzL_replicate (j2 w (okb X w ι C)) x.toNat)
    rwa [List.length_replicate] at this
end
end Go.Proofs.Rf
/- Rf, part h: literals of slices; append. -/
namespace Go.Proofs.Rf
open Go Go.RowKit

section
variable {X keep : Nat → Prop} {w0 w : World} {ι : Nat → Option Value} {C C0 : Nat → Blk} {P : Program} {TT : Tab}

theorem packAll_sound {T : Nat → AV} {a : Act} {t : Ty} : ∀ (ps : List (Nat × Operand)) (n i : Nat) (C0 : Nat → Blk) (xs : List t.den) (f : List (Nat × Blk)),
    HRel X keep w0 ι C0 w → FrozenOf C C0 → (∀ t, RelV w (okb X w ι C0) ι (T t) (a.tmps.getD t undef)) → packAll C t n i (ps.map fun p => (p.1, ev T p.2)) = some (xs, f) →
    Frz X keep w0 ι C C0 w f ∧ (ps.map fun p => (p.1, a.eval p.2)) = ((ps.map fun p => a.eval p.2).zipIdx i).map (fun x => (x.2, x.1)) ∧ xs.length = n ∧ ps.length = n ∧
      RzL (Rz w (okb X w ι (updC C0 f)) t) xs ((ps.map fun p => a.eval p.2).flatMap fun v => v.cells.toList) ∧ ∀ v ∈ ps.map (fun p => a.eval p.2), v.cells.size = t.size
  | [], 0, i, C0, xs, f, h, hf, hT, hp => by
    simp only [List.map_nil, packAll, Option.some.injEq, Prod.mk.injEq] at hp
    obtain ⟨rfl, rfl⟩ := hp
    exact ⟨Frz.nil h hf, rfl, rfl, rfl, rfl, by simp⟩
  | [], n + 1, i, C0, xs, f, h, hf, hT, hp => by simp [packAll] at hp
  | p :: r, 0, i, C0, xs, f, h, hf, hT, hp => by simp [packAll] at hp
  | (j, x) :: r, n + 1, i, C0, xs, f, h, hf, hT, hp => by
    simp only [List.map_cons, packAll] at hp
    split at hp
    · rename_i hij
      have hij := Nat.eq_of_beq_eq_true hij
      subst hij
      split at hp
      · rename_i y f1 h1
        split at hp
        · rename_i ys f2 h2
          injection hp with hp
          injection hp with q1 q2
          subst q1; subst q2
          obtain ⟨⟨g1, g2, g3⟩, g4⟩ := dat_sound h hf (ev_rel hT x) h1
          obtain ⟨⟨k1, k2, k3⟩, k4, k5, k6, k7, k8⟩ := packAll_sound r n (i + 1) _ ys f2 g1 g2 (fun t => g3.val (hT t)) h2
          refine ⟨⟨?_, ?_, ?_⟩, ?_, by simp [k5], by simp [k6], ?_, ?_⟩
          · rw [updC_append]; exact k1
          · rw [updC_append]; exact k2
          · rw [updC_append]; exact g3.trans k3
          · simp only [List.map_cons, List.zipIdx_cons, k4]
          · rw [updC_append]
            simp only [List.map_cons, List.flatMap_cons]
            exact ⟨_, _, rfl, k3.data g4, k7⟩
          · intro v hv
            rcases List.mem_cons.1 hv with rfl | hv
            · have := Rz_length t _ _ g4
              rwa [Array.length_toList] at this
            · exact k8 v hv
        · cases hp
      · cases hp
    · cases hp

theorem buildSlice_op (hP : TabOK P TT) (h : HRel X keep w0 ι C w) {nb : Nat} (hn : ι nb = none) {tt e len : Nat} {td te : TD} (ht : TT tt = some td) (hk : td.k = .sl e) (he : TT e = some te) {ty : Ty} (hty : te.ty = some ty)
    {T : Nat → AV} {a : Act} (hT : ∀ t, RelV w (okb X w ι C) ι (T t) (a.tmps.getD t undef)) {parts : Array (Nat × Operand)} {xs : List ty.den} {f : List (Nat × Blk)}
    (hp : packAll C ty len 0 (parts.toList.map fun p => (p.1, ev T p.2)) = some (xs, f)) (hc : (Nat.blt 0 ty.size && Nat.ble (len * ty.size) 16777216) = true) :
    ∃ v w', (Instr.buildSlice tt len (parts.map fun (i, x) => (i, a.eval x))).run P w = .ok v w' ∧ Out X keep w0 ι C w nb ⟨.rf nb, f, [.row ty e xs true]⟩ v w' := by
  simp only [Bool.and_eq_true] at hc
  obtain ⟨c1, c2⟩ := hc
  have c1 : 0 < ty.size := Nat.le_of_ble_eq_true c1
  have c2 := Nat.le_of_ble_eq_true c2
  obtain ⟨i, z, i1, i2, i3, i4, i5, i6, i7⟩ := (hP e te he).ex
  obtain ⟨j1, j2⟩ := i7 ty hty
  have hu := (hP tt td ht).und
  rw [hk] at hu
  have hu : P.underlying tt = some (.slice e) := hu
  obtain ⟨⟨g1, g2, g3⟩, g4, g5, g6, g7, g8⟩ := packAll_sound parts.toList len 0 C xs f h (FrozenOf.refl C) hT hp
  have hzl := Rz_length ty _ _ (j2 w (okb X w ι C))
  rw [Array.length_toList] at hzl
  have hparts : (parts.map fun (i, x) => (i, a.eval x)).toList = ((parts.toList.map fun p => a.eval p.2).zipIdx 0).map (fun x => (x.2, x.1)) := by
    rw [← g4, Array.toList_map]
  have hlen : (parts.toList.map fun p => a.eval p.2).length = len := by simpa using g6
  have hrun : (Instr.buildSlice tt len (parts.map fun (i, x) => (i, a.eval x))).run P w =
      .ok (.slice (some ⟨w.heap.size, 0, none⟩) len len) (w.alloc (.cells (((parts.toList.map fun p => a.eval p.2).flatMap fun v => v.cells.toList).toArray) e)) := by
    by_cases h0 : len = 0
    · have hnil : parts.toList = [] := List.eq_nil_of_length_eq_zero (by omega)
      have hnil' : parts = #[] := by simpa using hnil
      subst h0
      subst hnil'
      simp [Instr.buildSlice, run_und hu, sizeOf, typeInfo, i1, Instr.fill, newRow, Array.range_zero']
    · refine run_buildSlice w tt e len _ _ i z hu i1 i4 (by rw [i2, ← j1]; omega) ?_ ?_
      · rw [i2, ← j1]
        have := Nat.mul_pos (Nat.pos_of_ne_zero h0) c1
        omega
      · rw [hparts, i2, ← j1]
        exact Great.fill_whole c1 _ _ g8 (by rw [hlen]; simp)
  refine ⟨_, _, hrun, ?_⟩
  refine Out.after0 rfl g3 (Out.row (cs := (parts.toList.map fun p => a.eval p.2).flatMap fun v => v.cells.toList) g1 hn (World.grownBy_alloc _ _ _) ?_ (fun g q => by injection q with q; have q : w.heap.size = g := q; omega) g7)
  have hl := RzL_length (Rz_length ty) g7
  refine ⟨hl, .inr ⟨w.heap.size, len, _, by rw [g5], Nat.zero_le _, heap_new _ _, by omega, ?_, ?_, ?_⟩⟩
  · have : len * 1 ≤ len * ty.size := Nat.mul_le_mul_left _ c1
    simp only [maxLen]; omega
  · rw [List.size_toArray, hl, g5]
  · simp only []
    rw [List.take_of_length_le (by rw [hl]; exact Nat.le_refl _)]

theorem run_append_of_nil (base : Nat) (t ty e : TypeId) (i : TypeInfo) (size : Nat) (ht : P.underlying t = some (.slice e)) (hi : P.info? e = some i)
    (v : Value) (n : Nat) (xs : List Value) (hown : w.ownsRow base e size v n xs) (c : Nat) : (Builtin.append_ #[t, t] ty #[v, .slice none 0 c]).run P w = .ok v w := by
  rcases hown.2 with ⟨rfl, rfl⟩ | ⟨g, cap, cur, rfl, _, _, hnc, _⟩
  · simp [Builtin.append_, run_und ht, sizeOf, typeInfo, hi, Builtin.lenOf, Builtin.firstCells]
  · simp [Builtin.append_, run_und ht, sizeOf, typeInfo, hi, Builtin.lenOf, Builtin.firstCells, hnc, storeCells]

/-- append onto a row of the call's own, of whatever data. -/
theorem run_append_data (hP : TabOK P TT) {tt e : Nat} {td te : TD} (ht : TT tt = some td) (hk : td.k = .sl e) (he : TT e = some te) {ty : Ty} (hty : te.ty = some ty) (rt : TypeId)
    (hsz : 0 < ty.size) (hb : te.bytes ≤ 1024) {ok : Nat → Prop} {v : Value} {n : Nat} {xs : List Value} (hown : w.ownsRow 0 e ty.size v n xs) {ys : List ty.den} {vy : Value} (hy : Rz w ok (.sl ty) ys [vy]) (hl : n + ys.length ≤ LIM) :
    ∃ v' w' cs, (Builtin.append_ #[tt, tt] rt #[v, vy]).run P w = .ok v' w' ∧ RzL (Rz w ok ty) ys cs ∧ w'.ownsRow 0 e ty.size v' (n + ys.length) (xs ++ cs) ∧ w.grownBy w' v.ownBlock ∧ (v'.ownBlock = v.ownBlock ∨ v'.ownBlock = some w.heap.size) := by
  obtain ⟨i, z, i1, i2, i3, i4, i5, i6, i7⟩ := (hP e te he).ex
  obtain ⟨j1, j2⟩ := i7 ty hty
  have hu := (hP tt td ht).und
  rw [hk] at hu
  have hu : P.underlying tt = some (.slice e) := hu
  have hzl := Rz_length ty _ _ (j2 w ok)
  rw [Array.length_toList] at hzl
  have hL : LIM = 4294967296 := rfl
  rw [hL] at hl
  have hby : (n + ys.length) * te.bytes ≤ 140737488355328 := by
    have := Nat.mul_le_mul hl hb
    omega
  obtain ⟨A, c, e1, h2, h3⟩ := hy
  injection e1 with e1 _
  subst e1
  rcases A with _ | ad
  · have h0 : ys.length = 0 := by
      rcases Nat.eq_zero_or_pos ys.length with h0 | h0
      · exact h0
      · obtain ⟨g, o, cs, q, _⟩ := h3 h0
        cases q
    have hnil := List.eq_nil_of_length_eq_zero h0
    subst hnil
    exact ⟨v, w, [], run_append_of_nil 0 tt rt e i ty.size hu i1 v n xs hown c, rfl, by simpa using hown, ⟨rfl, rfl, rfl, Nat.le_refl _, fun _ _ _ => rfl⟩, .inl rfl⟩
  · have hcells : ∃ cs, RzL (Rz w ok ty) ys cs ∧ ∀ j u, cs[j]? = some u → w.cell? (ad.add j) = some u := by
      rcases Nat.eq_zero_or_pos ys.length with h0 | h0
      · have hnil := List.eq_nil_of_length_eq_zero h0
        subst hnil
        exact ⟨[], rfl, by simp⟩
      · obtain ⟨g, o, cs, q, _, q3, q4⟩ := h3 h0
        injection q with q
        subst q
        exact ⟨cs, q3, fun j u hu => by rw [addr_add]; exact q4 j u hu⟩
    obtain ⟨cs, c1, c2⟩ := hcells
    obtain ⟨v', w', r1, r2, r3, _, r5⟩ := run_append_own_at (P := P) w 0 tt rt e i z ty.size te.bytes hu i1 i4 (by omega) i3 hzl hsz v n xs hown ad ys.length c cs (RzL_length (Rz_length ty) c1) c2
      (RzL_one c1) (by simp only [maxLen]; omega) hby (Nat.zero_le _)
    exact ⟨v', w', cs, r1, c1, r2, r3, r5⟩

theorem append_nil_op (hP : TabOK P TT) (h : HRel X keep w0 ι C w) {nb : Nat} (hn : ι nb = none) {tt e : Nat} {td te : TD} (ht : TT tt = some td) (hk : td.k = .sl e) (he : TT e = some te) {ty : Ty} (hty : te.ty = some ty) (rt : TypeId)
    (hsz : 0 < ty.size) (hb : te.bytes ≤ 1024) {y : AV} {vy : Value} (hy : RelV w (okb X w ι C) ι y vy) {ys : List ty.den} {f : List (Nat × Blk)} (hd : elems C ty y = some (ys, f)) (hl : ys.length ≤ LIM) :
    ∃ v w', (Builtin.append_ #[tt, tt] rt #[.slice none 0 0, vy]).run P w = .ok v w' ∧ Out X keep w0 ι C w nb ⟨.rf nb, f, [.row ty e ys true]⟩ v w' := by
  obtain ⟨⟨g1, g2, g3⟩, g4⟩ := dat1_sound h (FrozenOf.refl C) hy hd
  obtain ⟨v', w', cs, r1, r2, r3, r4, r5⟩ := run_append_data hP ht hk he hty rt hsz hb (World.ownsRow_nil w 0 e ty.size) g4 (by rwa [Nat.zero_add])
  rw [Nat.zero_add, List.nil_append] at r3
  refine ⟨v', w', r1, Out.after0 rfl g3 (Out.row g1 hn r4 r3 (fun g q => ?_) r2)⟩
  rcases r5 with r5 | r5
  · rw [r5] at q; cases q
  · rw [r5] at q; injection q with q; omega

theorem append_row_op (hP : TabOK P TT) (h : HRel X keep w0 ι C w) {nb : Nat} (hn : ι nb = none) {tt e : Nat} {td te : TD} (ht : TT tt = some td) (hk : td.k = .sl e) (he : TT e = some te) {ty : Ty} (hty : te.ty = some ty) (rt : TypeId)
    (hsz : 0 < ty.size) (hb : te.bytes ≤ 1024) {b : Nat} {vx : Value} (hx : RelV w (okb X w ι C) ι (.rf b) vx) {xs : List ty.den} (hC : C b = .row ty e xs true) {y : AV} {vy : Value} (hy : RelV w (okb X w ι C) ι y vy) {ys : List ty.den} {f : List (Nat × Blk)} (hd : elems C ty y = some (ys, f))
    (hm : memN b (updIds f) = false) (hl : xs.length + ys.length ≤ LIM) :
    ∃ v w', (Builtin.append_ #[tt, tt] rt #[vx, vy]).run P w = .ok v w' ∧ Out X keep w0 ι C w nb ⟨.rf nb, f ++ [(b, .dead)], [.row ty e (xs ++ ys) true]⟩ v w' := by
  obtain ⟨⟨g1, g2, g3⟩, g4⟩ := dat1_sound h (FrozenOf.refl C) hy hd
  have hupd : ∀ (f : List (Nat × Blk)) (C : Nat → Blk), memN b (updIds f) = false → updC C f b = C b := by
    intro f
    induction f with
    | nil => intro C _; rfl
    | cons p r ih =>
      intro C hm
      obtain ⟨k, u⟩ := p
      simp only [updIds, memN, Bool.or_eq_false_iff] at hm
      show updC (setC C k u) r b = C b
      rw [ih _ hm.2, setC_ne (fun hbk => by have := hm.1; simp [hbk] at this)]
  have hC1 : updC C f b = .row ty e xs true := by rw [hupd f C hm, hC]
  have hB := g1.bl b
  rw [hC1] at hB
  obtain ⟨v0, cs0, b1, b2, b3⟩ := hB
  simp only [RelV] at hx
  rw [hx.1] at b1
  injection b1 with b1
  subst b1
  obtain ⟨v', w', cs, r1, r2, r3, r4, r5⟩ := run_append_data hP ht hk he hty rt hsz hb b2 g4 hl
  refine ⟨v', w', r1, ?_⟩
  refine Out.after (u := [(b, .dead)]) rfl g3 ?_
  generalize updC C f = C1 at *
  have hbn : b ≠ nb := by rintro rfl; rw [hn] at hx; cases hx.1
  have hbk : bk ι C1 b = vx.ownBlock := by unfold bk; rw [hC1, hx.1]
  have hdead : ∀ ι', bk ι' (setC (setC C1 b .dead) nb (.row ty e (xs ++ ys) true)) b = none := by
    intro ι'
    unfold bk; rw [setC_ne hbn, setC_self]
  have hnew : bk (setI ι nb v') (setC (setC C1 b .dead) nb (.row ty e (xs ++ ys) true)) nb = v'.ownBlock := by
    unfold bk; rw [setC_self, setI_self]
  have := g1.step (C' := setC (setC C1 b .dead) nb (.row ty e (xs ++ ys) true)) (ι' := setI ι nb v') (w' := w') (fun k => k = b ∨ k = nb) r4.os r4.tape r4.output r4.size
    (fun k hk => by rw [setC_ne (fun q => hk (.inr q)), setC_ne (fun q => hk (.inl q))])
    (fun k u hk => by
      by_cases q : k = nb
      · subst q; rw [hn] at hk; cases hk
      · rw [setI_ne q]; exact hk) (fun k hk => setI_ne (fun q => hk (.inr q)))
    (fun k g hk q => by
      rcases hk with rfl | rfl
      · rw [hdead] at q; cases q
      · rw [hnew] at q
        rcases r5 with r5 | r5
        · exact .inr ⟨b, .inl rfl, by rw [hbk, ← r5, q]⟩
        · rw [r5] at q; injection q with q; exact .inl (by omega))
    (fun k k' g hk hk' q q' => by
      rcases hk with rfl | rfl
      · rw [hdead] at q; cases q
      · rcases hk' with rfl | rfl
        · rw [hdead] at q'; cases q'
        · rfl)
    (fun g hg hk => r4.block g hg (fun q => hk b (.inl rfl) (by rw [hbk, ← q])))
    (fun hext k hk => by
      by_cases q : k = nb
      · subst q
        rw [setC_self]
        refine ⟨v', _, setI_self _ _ _, ?_, RzL_append (RzL_mono (fun x us hx => hext.data hx) b3) (RzL_mono (fun x us hx => hext.data hx) r2)⟩
        rw [List.length_append]
        exact r3
      · have q2 : k = b := hk.resolve_right q
        subst q2
        rw [setC_ne q, setC_self]
        trivial)
  refine ⟨setI ι nb v', this.1, this.2, ?_, fun k hk => setI_ne (by rintro rfl; exact hk ⟨Nat.le_refl _, by simp⟩)⟩
  simp only [RelV]
  refine ⟨setI_self _ _ _, ?_⟩
  rcases r3.2 with ⟨h1, h2⟩ | ⟨g, cap, cur, h1, _⟩
  · exact ⟨none, 0, 0, by rw [h1]⟩
  · exact ⟨_, _, _, h1⟩
end
end Go.Proofs.Rf
/- Rf, part i: slices, places, and what else there is. -/
namespace Go.Proofs.Rf
open Go Go.RowKit

section
variable {X keep : Nat → Prop} {w0 w : World} {ι : Nat → Option Value} {C : Nat → Blk} {P : Program} {TT : Tab}

theorem run_sliceBound {k : IntKind} {i : Int} {y : Nat} {code : BoundsCode} (h0 : 0 ≤ i) (h1 : i ≤ y) : (Instr.sliceBound (.int k i) y code).run P w = .ok i.toNat w := by
  simp [Instr.sliceBound, asIntOf, h0, h1]

/-- The bounds of a slice expression. -/
theorem sliceAt_sound {ok : Nat → Prop} {N cap : Nat} (hN : N ≤ cap) {bs : Bool} {lo hi : Option AV} {vlo vhi : Option Value} (hlo : ∀ x, lo = some x → ∃ v, vlo = some v ∧ RelV w ok ι x v) (hlo' : lo = none → vlo = none)
    (hhi : ∀ x, hi = some x → ∃ v, vhi = some v ∧ RelV w ok ι x v) (hhi' : hi = none → vhi = none) {cut : Int → Int → AV} {full : Int → AV} {all r : AV} (h : sliceAt (N : Int) lo hi cut full all some = some r) :
    ∃ l u : Nat, l ≤ u ∧ u ≤ N ∧ (Instr.sliceBounds bs N cap vlo vhi none).run P w = .ok (l, u, cap) w ∧
      ((r = all ∧ l = 0 ∧ u = N) ∨ (∃ l' : Int, r = full l' ∧ l = l'.toNat ∧ u = N) ∨ (∃ l' u' : Int, r = cut l' u' ∧ l = l'.toNat ∧ u = u'.toNat)) := by
  unfold sliceAt at h
  split at h
  · injection h with h
    rw [hlo' rfl, hhi' rfl]
    exact ⟨0, N, Nat.zero_le _, Nat.le_refl _, by simp [Instr.sliceBounds], .inl ⟨h.symm, rfl, rfl⟩⟩
  · rename_i k l
    obtain ⟨v, e, hv⟩ := hlo _ rfl
    rw [rel_int] at hv
    subst hv
    rw [e, hhi' rfl]
    unfold sliceGo at h
    split at h
    · rename_i c1
      split at h
      · rename_i c2
        split at h
        · injection h with h
          refine ⟨Int.toNat l, N, Int.toNat_le.2 c2, Nat.le_refl _, ?_, .inr (.inl ⟨l, h.symm, rfl, rfl⟩)⟩
          simp [Instr.sliceBounds, run_sliceBound c1 c2]
        · cases h
      · cases h
    · cases h
  · rename_i k u
    obtain ⟨v, e, hv⟩ := hhi _ rfl
    rw [rel_int] at hv
    subst hv
    rw [e, hlo' rfl]
    unfold sliceGo at h
    split at h
    · split at h
      · rename_i c1 c2
        split at h
        · rename_i c3
          injection h with h
          have c4 : @LE.le Int _ u (cap : Int) := Int.le_trans c3 (Int.ofNat_le.2 hN)
          have c5 : Int.toNat u ≤ N := Int.toNat_le.2 c3
          refine ⟨0, Int.toNat u, Nat.zero_le _, c5, ?_, .inr (.inr ⟨0, u, h.symm, rfl, rfl⟩)⟩
          simp [Instr.sliceBounds, run_sliceBound c2 c4]
        · cases h
      · cases h
    · cases h
  · rename_i k l k' u
    obtain ⟨v, e, hv⟩ := hlo _ rfl
    rw [rel_int] at hv
    subst hv
    obtain ⟨v, e', hv⟩ := hhi _ rfl
    rw [rel_int] at hv
    subst hv
    rw [e, e']
    unfold sliceGo at h
    split at h
    · rename_i c1
      split at h
      · rename_i c2
        split at h
        · rename_i c3
          injection h with h
          have c0 : @LE.le Int _ 0 u := Int.le_trans c1 c2
          have c4 : @LE.le Int _ u (cap : Int) := Int.le_trans c3 (Int.ofNat_le.2 hN)
          have c5 : Int.toNat u ≤ N := Int.toNat_le.2 c3
          have c6 : Int.toNat l ≤ Int.toNat u := Int.toNat_le_toNat c2
          have c7 : @LE.le Int _ l (Int.toNat u : Int) := by rw [Int.toNat_of_nonneg c0]; exact c2
          refine ⟨Int.toNat l, Int.toNat u, c6, c5, ?_, .inr (.inr ⟨l, u, h.symm, rfl, rfl⟩)⟩
          simp [Instr.sliceBounds, run_sliceBound c0 c4, run_sliceBound c1 c7]
        · cases h
      · cases h
    · cases h
  · cases h

theorem slice_at {A : Option Addr} {l cap size : Nat} {g o : Nat} (hA : A = some ⟨g, o, none⟩) (hne : l < cap) : (if cap = l then A else A.map (·.add (l * size))) = some ⟨g, o + l * size, none⟩ := by
  rw [if_neg (by omega), hA]
  simp only [Option.map_some, addr_add]

theorem run_sliceAt_sl (hP : TabOK P TT) {tt e : Nat} {td : TD} (ht : TT tt = some td) (hk : td.k = .sl e) {A : Option Addr} {N cap l u : Nat} {vlo vhi : Option Value} (hs : (TT e).isSome = true)
    (hb : (Instr.sliceBounds true N cap vlo vhi none).run P w = .ok (l, u, cap) w) :
    (Instr.sliceAt tt (.slice A N cap) vlo vhi none).run P w = .ok (.slice (if cap = l then A else A.map (·.add (l * sizeT TT e))) (u - l) (cap - l)) w := by
  obtain ⟨te, he⟩ := Option.isSome_iff_exists.1 hs
  have hu := (hP tt td ht).und
  rw [hk] at hu
  have hu : P.underlying tt = some (.slice e) := hu
  simp [Instr.sliceAt, run_und hu, Instr.slice, hb, run_size hP he, sizeT, he]

theorem run_sliceAt_str {tt : Nat} (hu : P.underlying tt = some .string) {s : ByteArray} {l u m : Nat} {vlo vhi : Option Value} (hb : (Instr.sliceBounds false s.size s.size vlo vhi none).run P w = .ok (l, u, m) w) :
    (Instr.sliceAt tt (.string s) vlo vhi none).run P w = .ok (.string (s.extract l u)) w := by
  simp [Instr.sliceAt, run_und hu, Instr.slice, hb]

theorem extract_mk (s : List UInt8) (l u : Nat) : (⟨s.toArray⟩ : ByteArray).extract l u = ⟨((s.take u).drop l).toArray⟩ := by
  apply ByteArray.ext
  rw [ByteArray.data_extract]
  simp [List.drop_take]

theorem sl_cut {ok : Nat → Prop} {t : Ty} {xs : List t.den} {A : Option Addr} {c l u : Nat} (h : Rz w ok (.sl t) xs [.slice A xs.length c]) (hlu : l ≤ u) (hu : u ≤ xs.length) :
    Rz w ok (.sl t) ((xs.take u).drop l) [.slice (if c = l then A else A.map (·.add (l * t.size))) (u - l) (c - l)] := by
  obtain ⟨A', c', e, h1, h2⟩ := h
  injection e with e _
  injection e with e1 _ e3
  subst e1; subst e3
  have hlen : ((xs.take u).drop l).length = u - l := by rw [List.length_drop, List.length_take, Nat.min_eq_left hu]
  refine ⟨_, _, by rw [hlen], by rw [hlen]; omega, fun hp => ?_⟩
  rw [hlen] at hp
  obtain ⟨g, o, cs, q1, q2, q3, q4⟩ := h2 (by omega)
  refine ⟨g, o + l * t.size, (cs.take (u * t.size)).drop (l * t.size), slice_at q1 (by omega), q2, RzL_drop (Rz_length t) l (RzL_take (Rz_length t) u q3), fun j v hv => ?_⟩
  rw [List.getElem?_drop, List.getElem?_take] at hv
  split at hv
  · rw [Nat.add_assoc]
    exact q4 _ v hv
  · cases hv

theorem sl_drop {ok : Nat → Prop} {t : Ty} {xs : List t.den} {A : Option Addr} {c l : Nat} (h : Rz w ok (.sl t) xs [.slice A xs.length c]) (hl : l ≤ xs.length) :
    Rz w ok (.sl t) (xs.drop l) [.slice (if c = l then A else A.map (·.add (l * t.size))) (xs.length - l) (c - l)] := by
  have := sl_cut h hl (Nat.le_refl _)
  rwa [List.take_length] at this

theorem row_zero (h : HRel X keep w0 ι C w) {b : Nat} {t : Ty} {e : Nat} {xs : List t.den} {rw : Bool} (hb : C b = .row t e xs rw) {A : Option Addr} {n c g o : Nat} (e1 : ι b = some (.slice A n c)) (p1 : A = some ⟨g, o, none⟩) : o = 0 := by
  have hB := h.bl b
  rw [hb] at hB
  subst p1
  cases rw with
  | false =>
    obtain ⟨v, h1, h2, _⟩ := hB
    rw [e1] at h1
    injection h1 with h1
    subst h1
    exact h2.1
  | true =>
    obtain ⟨v, cs, h1, h2, _⟩ := hB
    rw [e1] at h1
    injection h1 with h1
    subst h1
    rcases h2.2 with ⟨h4, _⟩ | ⟨g', cap, cur, hv, _⟩
    · cases h4
    · injection hv with hv
      injection hv with hv
      injection hv

theorem slice_op (hP : TabOK P TT) (h : HRel X keep w0 ι C w) {tt : Nat} {x : AV} {vx : Value} (hx : RelV w (okb X w ι C) ι x vx) {lo hi : Option AV} {vlo vhi : Option Value}
    (hlo : ∀ x, lo = some x → ∃ v, vlo = some v ∧ RelV w (okb X w ι C) ι x v) (hlo' : lo = none → vlo = none) (hhi : ∀ x, hi = some x → ∃ v, vhi = some v ∧ RelV w (okb X w ι C) ι x v) (hhi' : hi = none → vhi = none)
    {r : AV} (hs : sliceOp TT tt C x lo hi some = some r) : ∃ v, (Instr.sliceAt tt vx vlo vhi none).run P w = .ok v w ∧ RelV w (okb X w ι C) ι r v := by
  unfold sliceOp at hs
  split at hs
  · rename_i td htd
    split at hs
    · rename_i s hk
      have hu := (hP tt td htd).und
      rw [hk] at hu
      rw [rel_str] at hx
      subst hx
      obtain ⟨l, u, q1, q2, q3, q4⟩ := sliceAt_sound (P := P) (bs := false) (cap := s.length) (Nat.le_refl _) hlo hlo' hhi hhi' hs
      have q3' : (Instr.sliceBounds false (⟨s.toArray⟩ : ByteArray).size (⟨s.toArray⟩ : ByteArray).size vlo vhi none).run P w = .ok (l, u, s.length) w := by rw [size_mk]; exact q3
      refine ⟨_, run_sliceAt_str hu q3', ?_⟩
      rw [extract_mk]
      rcases q4 with ⟨e, rfl, rfl⟩ | ⟨l', e, rfl, rfl⟩ | ⟨l', u', e, rfl, rfl⟩
      · subst e
        rw [rel_str]
        simp
      · subst e
        rw [rel_str]
        simp
      · subst e
        rw [rel_str]
    · rename_i e t xs hk
      split at hs
      · rename_i hsz
        rw [Bool.and_eq_true] at hsz
        obtain ⟨hes, hsz⟩ := hsz
        have hsz := Nat.eq_of_beq_eq_true hsz
        simp only [RelV] at hx
        obtain ⟨A, c, e1, e2, e3⟩ := hx
        have e0 := e1
        injection e1 with e1 _
        subst e1
        obtain ⟨l, u, q1, q2, q3, q4⟩ := sliceAt_sound (P := P) (bs := true) (cap := c) e2 hlo hlo' hhi hhi' hs
        refine ⟨_, run_sliceAt_sl hP htd hk hes q3, ?_⟩
        rw [← hsz]
        have hR : Rz w (okb X w ι C) (.sl t) xs [.slice A xs.length c] := ⟨A, c, rfl, e2, e3⟩
        rcases q4 with ⟨e, rfl, rfl⟩ | ⟨l', e, rfl, rfl⟩ | ⟨l', u', e, rfl, rfl⟩
        · subst e
          simp only [RelV]
          have := sl_drop hR (Nat.zero_le _)
          simpa using this
        · subst e
          simp only [RelV]
          exact sl_drop hR q1
        · subst e
          simp only [RelV]
          exact sl_cut hR q1 q2
      · cases hs
    · rename_i e b hk
      split at hs
      · rename_i t _ xs _ hb
        split at hs
        · rename_i hsz
          rw [Bool.and_eq_true] at hsz
          obtain ⟨hes, hsz⟩ := hsz
          have hsz := Nat.eq_of_beq_eq_true hsz
          obtain ⟨A, c, e1, e2, e3⟩ := row_cells h hb
          simp only [RelV] at hx
          obtain ⟨hx1, _⟩ := hx
          rw [e1] at hx1
          injection hx1 with hx1
          subst hx1
          obtain ⟨l, u, q1, q2, q3, q4⟩ := sliceAt_sound (P := P) (bs := true) (cap := c) e2 hlo hlo' hhi hhi' hs
          refine ⟨_, run_sliceAt_sl hP htd hk hes q3, ?_⟩
          rw [← hsz]
          have hrs : RelV w (okb X w ι C) ι (.rs b t.size l (u - l)) (.slice (if c = l then A else A.map (·.add (l * t.size))) (u - l) (c - l)) := by
            simp only [RelV]
            refine ⟨A, xs.length, c, _, _, e1, by omega, rfl, by omega, fun hp => ?_, fun hl => ?_⟩
            · obtain ⟨g, o, cs, p1, p2, p3⟩ := e3 (by omega)
              have ho : o = 0 := by
                exact row_zero h hb e1 p1
              subst ho
              exact ⟨g, p1, by rw [slice_at p1 (by omega), Nat.zero_add]⟩
            · subst hl
              refine ⟨?_, by omega⟩
              split
              · rfl
              · cases A <;> simp [Addr.add]
          rcases q4 with ⟨e, rfl, rfl⟩ | ⟨l', e, rfl, rfl⟩ | ⟨l', u', e, rfl, rfl⟩
          · subst e
            simp only [RelV]
            refine ⟨?_, _, _, _, rfl⟩
            rw [e1]
            have : (if c = 0 then A else A.map (·.add (0 * t.size))) = A := by
              split
              · rfl
              · cases A <;> simp [Addr.add]
            rw [this]
            rfl
          · subst e
            exact hrs
          · subst e
            exact hrs
        · cases hs
      · cases hs
    · rename_i e b sz off len hk
      split at hs
      · rename_i hsz
        rw [Bool.and_eq_true] at hsz
        obtain ⟨hes, hsz⟩ := hsz
        have hsz := Nat.eq_of_beq_eq_true hsz
        have hx0 := hx
        simp only [RelV] at hx
        obtain ⟨A, n, c, A', c', e1, e2, e3, e4, e5⟩ := hx
        subst e3
        obtain ⟨l, u, q1, q2, q3, q4⟩ := sliceAt_sound (P := P) (bs := true) (cap := c') e4 hlo hlo' hhi hhi' hs
        refine ⟨_, run_sliceAt_sl hP htd hk hes q3, ?_⟩
        rw [← hsz]
        have hrs : RelV w (okb X w ι C) ι (.rs b sz (off + l) (u - l)) (.slice (if c' = l then A' else A'.map (·.add (l * sz))) (u - l) (c' - l)) := by
          simp only [RelV]
          refine ⟨A, n, c, _, _, e1, by omega, rfl, by omega, fun hp => ?_, fun hl => ?_⟩
          · obtain ⟨g, p1, p2⟩ := e5.1 (by omega)
            exact ⟨g, p1, by rw [slice_at p2 (by omega), Nat.add_mul]⟩
          · have hl1 : off = 0 := by omega
            have hl2 : l = 0 := by omega
            obtain ⟨p1, p2⟩ := e5.2 hl1
            subst hl2
            refine ⟨?_, by omega⟩
            rw [p1]
            split
            · rfl
            · cases A <;> simp [Addr.add]
        rcases q4 with ⟨e, rfl, rfl⟩ | ⟨l', e, rfl, rfl⟩ | ⟨l', u', e, rfl, rfl⟩
        · subst e
          have : (if c' = 0 then A' else A'.map (·.add (0 * sz))) = A' := by
            split
            · rfl
            · cases A' <;> simp [Addr.add]
          rw [this]
          exact hx0
        · subst e
          exact hrs
        · subst e
          exact hrs
      · cases hs
    · cases hs
  · cases hs
end
end Go.Proofs.Rf
/- Rf, part j: places; aggregates; what remains. -/
namespace Go.Proofs.Rf
open Go Go.RowKit

section
variable {X keep : Nat → Prop} {w0 w : World} {ι : Nat → Option Value} {C : Nat → Blk} {P : Program} {TT : Tab}
theorem run_indexAt_sl (hP : TabOK P TT) {tt e : Nat} {td : TD} (ht : TT tt = some td) (hk : td.k = .sl e) (hs : (TT e).isSome = true) {k : IntKind} {i : Int} {g o len c : Nat} (h0 : 0 ≤ i) (h1 : i < (len : Int)) :
    (Instr.indexAt tt (.slice (some ⟨g, o, none⟩) len c) (.int k i)).run P w = .ok (.pointer (some ⟨g, o + i.toNat * sizeT TT e, none⟩)) w := by
  obtain ⟨te, he⟩ := Option.isSome_iff_exists.1 hs
  have hu := (hP tt td ht).und
  rw [hk] at hu
  have hu : P.underlying tt = some (.slice e) := hu
  simp [Instr.indexAt, asIntOf, run_und hu, h0, h1, run_size hP he, sizeT, he, addr_add]

/-- The place of a slice's element. -/
theorem indexAddr_sl (hP : TabOK P TT) (h : HRel X keep w0 ι C w) {tt e : Nat} {td : TD} (ht : TT tt = some td) (hk : td.k = .sl e) {k : IntKind} {i : Int} {x : AV} {vx : Value} (hx : RelV w (okb X w ι C) ι x vx) {r : AV}
    (hr : idxAV TT C e i x some = some r) : ∃ v, (Instr.indexAt tt vx (.int k i)).run P w = .ok v w ∧ RelV w (okb X w ι C) ι r v := by
  unfold idxAV at hr
  cases x
  case rf b =>
    simp only at hr
    split at hr
    · rename_i t e' xs rw hb
      split at hr
      · rename_i hc
        rw [Bool.and_eq_true] at hc
        obtain ⟨c1, c2⟩ := hc
        have c2 := Nat.eq_of_beq_eq_true c2
        split at hr
        · rename_i h0
          split at hr
          · rename_i h1
            injection hr with hr
            subst hr
            obtain ⟨A, c, e1, e2, e3⟩ := row_cells h hb
            simp only [RelV] at hx
            obtain ⟨hx1, _⟩ := hx
            rw [e1] at hx1
            injection hx1 with hx1
            subst hx1
            obtain ⟨g, o, cs, p1, p2, p3⟩ := e3 (by omega)
            have ho := row_zero h hb e1 p1
            subst ho
            subst p1
            refine ⟨_, run_indexAt_sl hP ht hk c1 h0 h1, ?_⟩
            simp only [RelV]
            exact ⟨g, xs.length, c, e1, by omega, by rw [c2]; simp⟩
          · cases hr
        · cases hr
      · cases hr
    · cases hr
  case rs b sz off len =>
    simp only at hr
    split at hr
    · rename_i hc
      rw [Bool.and_eq_true] at hc
      obtain ⟨c1, c2⟩ := hc
      have c2 := Nat.eq_of_beq_eq_true c2
      split at hr
      · rename_i h0
        split at hr
        · rename_i h1
          injection hr with hr
          subst hr
          simp only [RelV] at hx
          obtain ⟨A, n, c, A', c', e1, e2, e3, e4, e5⟩ := hx
          subst e3
          obtain ⟨g, p1, p2⟩ := e5.1 (by omega)
          subst p1; subst p2
          refine ⟨_, run_indexAt_sl hP ht hk c1 h0 h1, ?_⟩
          simp only [RelV]
          exact ⟨g, n, c, e1, by omega, by rw [← c2]; simp [Nat.add_mul]⟩
        · cases hr
      · cases hr
    · cases hr
  case d t xs =>
    cases t
    case sl t =>
     simp only at hr
     split at hr
     · rename_i hc
       rw [Bool.and_eq_true] at hc
       obtain ⟨c1, c2⟩ := hc
       have c2 := Nat.eq_of_beq_eq_true c2
       split at hr
       · rename_i h0
         split at hr
         · rename_i h1
           injection hr with hr
           subst hr
           simp only [RelV] at hx
           obtain ⟨A, c, e1, e2, e3⟩ := hx
           injection e1 with e1 _
           subst e1
           obtain ⟨g, o, cs, p1, p2, p3, p4⟩ := e3 (by omega)
           subst p1
           refine ⟨_, run_indexAt_sl hP ht hk c1 h0 h1, ?_⟩
           have hi : i.toNat < xs.length := by omega
           have hx1 : xs[i.toNat]? = some (xs.getD i.toNat t.dflt) := by
             rw [List.getD_eq_getElem?_getD, List.getElem?_eq_getElem hi]; rfl
           obtain ⟨us, r1, r2, r3⟩ := RzL_get (Rz_length t) i.toNat _ p3 hx1
           simp only [RelV]
           refine ⟨g, o + i.toNat * sizeT TT e, us, rfl, p2, RelL_unpack t _ us r1, fun j u hu => ?_⟩
           rw [← c2, Nat.add_assoc]
           exact p4 _ _ (r3 j u hu)
         · cases hr
       · cases hr
     · cases hr
    all_goals cases hr
  all_goals cases hr

/-- The place of an array's element. -/
theorem chain_sound {b o sz : Nat} {x : Int} {r : AV} : ∀ (n i : Nat), chain (R := AV) i b o sz x some n = some r → ∃ j : Nat, i ≤ j ∧ j < i + n ∧ x = (j : Int) ∧ r = .pt b (o + j * sz)
  | 0, i, h => by simp [chain] at h
  | n + 1, i, h => by
    simp only [chain] at h
    split at h
    · rename_i hx
      injection h with h
      exact ⟨i, Nat.le_refl _, by omega, hx, h.symm⟩
    · obtain ⟨j, h1, h2, h3, h4⟩ := chain_sound n (i + 1) h
      exact ⟨j, by omega, by omega, h3, h4⟩

theorem indexAddr_ar (hP : TabOK P TT) {ok : Nat → Prop} {tt m e : Nat} {td : TD} (ht : TT tt = some td) (hk : td.k = .ar m e) (hs : (TT e).isSome = true) {k : IntKind} {i : Int} {b o : Nat} {vx : Value} (hx : RelV w ok ι (.pt b o) vx) {r : AV}
    (hr : chain (R := AV) 0 b o (sizeT TT e) i some m = some r) : ∃ v, (Instr.indexAt tt vx (.int k i)).run P w = .ok v w ∧ RelV w ok ι r v := by
  obtain ⟨j, h1, h2, h3, h4⟩ := chain_sound m 0 hr
  obtain ⟨te, he⟩ := Option.isSome_iff_exists.1 hs
  have hu := (hP tt td ht).und
  rw [hk] at hu
  have hu : P.underlying tt = some (.array m e) := hu
  simp only [RelV] at hx
  obtain ⟨g, q1, q2⟩ := hx
  subst q2; subst h4; subst h3
  refine ⟨.pointer (some ⟨g, o + j * sizeT TT e, none⟩), ?_, by simp only [RelV]; exact ⟨g, q1, rfl⟩⟩
  have hj : j < m := by omega
  simp [Instr.indexAt, asIntOf, run_und hu, Instr.sureAddr, hj, run_size hP he, sizeT, he, addr_add]

/-- The place of an element of an array that is read alone. -/
theorem chainV_sound {sz : Nat} {cs : List AV} {x : Int} {r : AV} : ∀ (n i : Nat), chainV (R := AV) i sz cs x some n = some r → ∃ j : Nat, i ≤ j ∧ j < i + n ∧ x = (j : Int) ∧ r = .ve (cs.drop (j * sz))
  | 0, i, h => by simp [chainV] at h
  | n + 1, i, h => by
    simp only [chainV] at h
    split at h
    · rename_i hx
      injection h with h
      exact ⟨i, Nat.le_refl _, by omega, hx, h.symm⟩
    · obtain ⟨j, h1, h2, h3, h4⟩ := chainV_sound n (i + 1) h
      exact ⟨j, by omega, by omega, h3, h4⟩

theorem indexAddr_arV (hP : TabOK P TT) {ok : Nat → Prop} {tt m e : Nat} {td : TD} (ht : TT tt = some td) (hk : td.k = .ar m e) (hs : (TT e).isSome = true) {k : IntKind} {i : Int} {cs : List AV} {vx : Value} (hx : RelV w ok ι (.ve cs) vx) {r : AV}
    (hr : chainV (R := AV) 0 (sizeT TT e) cs i some m = some r) : ∃ v, (Instr.indexAt tt vx (.int k i)).run P w = .ok v w ∧ RelV w ok ι r v := by
  obtain ⟨j, h1, h2, h3, h4⟩ := chainV_sound m 0 hr
  obtain ⟨te, he⟩ := Option.isSome_iff_exists.1 hs
  have hu := (hP tt td ht).und
  rw [hk] at hu
  have hu : P.underlying tt = some (.array m e) := hu
  simp only [RelV] at hx
  obtain ⟨g, o, us, q2, q3, q4, q5⟩ := hx
  subst q2; subst h4; subst h3
  refine ⟨.pointer (some ⟨g, o + j * sizeT TT e, none⟩), ?_, ?_⟩
  · have hj : j < m := by omega
    simp [Instr.indexAt, asIntOf, run_und hu, Instr.sureAddr, hj, run_size hP he, sizeT, he, addr_add]
  · simp only [RelV]
    refine ⟨g, _, _, rfl, q3, RelL_drop q4 _, fun i u hi => ?_⟩
    rw [List.getElem?_drop] at hi
    have := q5 _ u hi
    rwa [← Nat.add_assoc] at this

theorem fieldOf_sound (hP : TabOK P TT) {tt f off ft : Nat} (h : fieldOf TT tt f = some (off, ft)) : ∃ (fields : Array Field) (fd : Field), P.underlying tt = some (.struct fields) ∧ fields[f]? = some fd ∧ fd.offset = off ∧ fd.type = ft := by
  unfold fieldOf at h
  split at h
  · rename_i td htd
    split at h
    · rename_i fs hk
      have hu := (hP tt td htd).und
      rw [hk] at hu
      obtain ⟨fields, h1, h2⟩ := hu
      rw [← h2, List.getElem?_map] at h
      cases hf : fields.toList[f]? with
      | none => rw [hf] at h; cases h
      | some fd =>
        rw [hf] at h
        injection h with h
        injection h with q1 q2
        exact ⟨fields, fd, h1, by simpa using hf, q1, q2⟩
    · cases h
  · cases h

theorem run_fieldAt (hP : TabOK P TT) {tt f off ft : Nat} (h : fieldOf TT tt f = some (off, ft)) (hs : Nat.blt 0 (sizeT TT ft) = true) {g o : Nat} :
    (Instr.fieldAt tt (.pointer (some ⟨g, o, none⟩)) f).run P w = .ok (.pointer (some ⟨g, o + off, none⟩)) w := by
  obtain ⟨fields, fd, h1, h2, h3, h4⟩ := fieldOf_sound hP h
  have hs : 0 < sizeT TT ft := Nat.le_of_ble_eq_true hs
  obtain ⟨td, htd⟩ : ∃ td, TT ft = some td := by
    cases ht : TT ft with
    | none => simp [sizeT, ht] at hs
    | some td => exact ⟨td, rfl⟩
  rw [show sizeT TT ft = td.size by simp [sizeT, htd]] at hs
  have hne : ¬ td.size = 0 := by omega
  subst h4; subst h3
  simp [Instr.fieldAt, run_und h1, h2, Instr.sureAddr, fieldPlace, run_size hP htd, hne, addr_add]

theorem fieldAddr_op (hP : TabOK P TT) {ok : Nat → Prop} {tt f off ft : Nat} (h : fieldOf TT tt f = some (off, ft)) (hs : Nat.blt 0 (sizeT TT ft) = true) {x : AV} {vx : Value} (hx : RelV w ok ι x vx) {r : AV}
    (hr : fldAV off x = some r) : ∃ v, (Instr.fieldAt tt vx f).run P w = .ok v w ∧ RelV w ok ι r v := by
  unfold fldAV at hr
  cases x
  case pt b o' =>
    injection hr with hr
    subst hr
    simp only [RelV] at hx
    obtain ⟨g, q1, q2⟩ := hx
    subst q2
    exact ⟨_, run_fieldAt hP h hs, by simp only [RelV]; exact ⟨g, q1, rfl⟩⟩
  case pe b s i o' =>
    injection hr with hr
    subst hr
    simp only [RelV] at hx
    obtain ⟨g, n, c, q1, q2, q3⟩ := hx
    subst q3
    exact ⟨_, run_fieldAt hP h hs, by simp only [RelV]; exact ⟨g, n, c, q1, q2, by rw [Nat.add_assoc]⟩⟩
  case ve cs =>
    injection hr with hr
    subst hr
    simp only [RelV] at hx
    obtain ⟨g, o, us, q1, q2, q3, q4⟩ := hx
    subst q1
    refine ⟨_, run_fieldAt hP h hs, ?_⟩
    simp only [RelV]
    refine ⟨g, o + off, us.drop off, rfl, q2, RelL_drop q3 off, fun j u hu => ?_⟩
    rw [List.getElem?_drop] at hu
    rw [Nat.add_assoc]
    exact q4 _ _ hu
  all_goals cases hr

/-- A part of an aggregate. -/
theorem part_sound (hP : TabOK P TT) {ok : Nat → Prop} {ft off : Nat} {cs : List AV} {us : List Value} (hr : RelL w ok ι cs us) {x : AV} (hl : loadC TT ft (cs.drop off) = some x) :
    ∃ v, (part ft us.toArray off).run P w = .ok v w ∧ RelV w ok ι x v := by
  unfold loadC at hl
  split at hl
  · rename_i td htd
    split at hl
    · rename_i hagg
      split at hl
      · rename_i hsz
        injection hl with hl
        subst hl
        refine ⟨.agg (us.toArray.extract off (off + td.size)), ?_, ?_⟩
        · simp [part, run_agg hP htd, hagg, run_size hP htd]
        · simp only [RelV]
          refine ⟨(us.drop off).take td.size, ?_, RelL_take (RelL_drop hr off) _⟩
          congr 1
          apply Array.ext'
          simp [List.extract_eq_take_drop]
      · cases hl
    · rename_i hagg
      have hagg : td.k.agg = false := by simpa using hagg
      split at hl
      · rename_i a r hd
        injection hl with hl
        subst hl
        have := RelL_drop hr off
        rw [hd] at this
        obtain ⟨v, vr, e, h1, h2⟩ := RelL_cons.1 this
        have hv : us[off]? = some v := by
          have := congrArg (fun l : List Value => l[0]?) e
          simpa using this
        exact ⟨v, by simp [part, run_agg hP htd, hagg, hv], h1⟩
      · cases hl
  · cases hl

theorem field_op (hP : TabOK P TT) {ok : Nat → Prop} {tt f off ft : Nat} (h : fieldOf TT tt f = some (off, ft)) {cs : List AV} {vx : Value} (hx : RelV w ok ι (.ag cs) vx) {x : AV} (hl : loadC TT ft (cs.drop off) = some x) :
    ∃ v, (Instr.field tt vx f).run P w = .ok v w ∧ RelV w ok ι x v := by
  obtain ⟨fields, fd, h1, h2, h3, h4⟩ := fieldOf_sound hP h
  simp only [RelV] at hx
  obtain ⟨us, e, hr⟩ := hx
  subst e
  obtain ⟨v, r1, r2⟩ := part_sound hP hr hl
  subst h4; subst h3
  exact ⟨v, by simp [Instr.field, run_und h1, h2, asAgg, r1], r2⟩

theorem chainA_sound {TT : Tab} {e sz : Nat} {cs : List AV} {x : Int} {r : AV} : ∀ (i n : Nat), chainA (R := AV) TT e sz cs x some i n = some r → ∃ j : Nat, j < i + n ∧ x = (j : Int) ∧ loadC TT e (cs.drop (j * sz)) = some r
  | i, 0, h => by simp [chainA] at h
  | i, n + 1, h => by
    simp only [chainA] at h
    split at h
    · rename_i hx
      split at h
      · rename_i y hy
        injection h with h
        subst h
        exact ⟨i, by omega, hx, hy⟩
      · cases h
    · obtain ⟨j, h1, h2, h3⟩ := chainA_sound (i + 1) n h
      exact ⟨j, by omega, h2, h3⟩

theorem index_ar (hP : TabOK P TT) {ok : Nat → Prop} {tt m e : Nat} {td : TD} (ht : TT tt = some td) (hk : td.k = .ar m e) (hs : (TT e).isSome = true) {k : IntKind} {i : Int} {cs : List AV} {vx : Value} (hx : RelV w ok ι (.ag cs) vx) {r : AV}
    (hr : chainA (R := AV) TT e (sizeT TT e) cs i some 0 m = some r) : ∃ v, (Instr.index tt vx (.int k i)).run P w = .ok v w ∧ RelV w ok ι r v := by
  obtain ⟨j, h1, h2, h3⟩ := chainA_sound 0 m hr
  obtain ⟨te, he⟩ := Option.isSome_iff_exists.1 hs
  have hu := (hP tt td ht).und
  rw [hk] at hu
  have hu : P.underlying tt = some (.array m e) := hu
  simp only [RelV] at hx
  obtain ⟨us, q1, q2⟩ := hx
  subst q1; subst h2
  obtain ⟨v, r1, r2⟩ := part_sound hP q2 h3
  have hj : j < m := by omega
  refine ⟨v, ?_, r2⟩
  simp only [sizeT, he] at r1
  simp [Instr.index, asIntOf, run_und hu, hj, run_size hP he, r1]

theorem index_op {tt : Nat} (hu : P.underlying tt = some .string) {k : IntKind} {i : Int} {s : List UInt8} (h0 : 0 ≤ i) (h1 : i < (s.length : Int)) :
    (Instr.index tt (.string ⟨s.toArray⟩) (.int k i)).run P w = .ok (.int .u8 ((s.getD i.toNat 0).toNat : Int)) w := by
  have hi : i.toNat < s.length := by omega
  have hg : (⟨s.toArray⟩ : ByteArray)[i.toNat]? = some (s.getD i.toNat 0) := by
    rw [List.getD_eq_getElem?_getD, List.getElem?_eq_getElem hi]
    show (if h : i.toNat < (⟨s.toArray⟩ : ByteArray).size then some _ else none) = _
    rw [dif_pos (by rw [size_mk]; exact hi)]
    rfl
  simp only [Instr.index, asIntOf, Sem.run_bind, Sem.run_pure, Result.andThen_ok, run_und hu, if_pos h0, hg]

/-! ### Aggregates -/
theorem splice_fill {cs : Array Value} {off : Nat} {vs : Array Value} (h : off + vs.size ≤ cs.size) :
    (vs.zipIdx.foldl (fun cs (c, j) => cs.setIfInBounds (off + j) c) cs).toList = cs.toList.take off ++ vs.toList ++ cs.toList.drop (off + vs.size) := by
  have h1 := Great.foldl_set off vs.toList 0 cs
  have h2 : vs.zipIdx.foldl (fun cs (c, j) => cs.setIfInBounds (off + j) c) cs = (vs.toList.zipIdx 0).foldl (fun cs (x : Value × Nat) => cs.setIfInBounds (off + x.2) x.1) cs := by
    rw [← Array.foldl_toList, Array.toList_zipIdx]
  rw [h2]
  generalize (vs.toList.zipIdx 0).foldl (fun cs (x : Value × Nat) => cs.setIfInBounds (off + x.2) x.1) cs = r at h1
  obtain ⟨h3, h4⟩ := h1
  apply List.ext_getElem?
  intro k
  rw [Array.getElem?_toList, h4 k]
  simp only [Nat.add_zero, Array.length_toList]
  by_cases hk : off ≤ k ∧ k < off + vs.size ∧ k < cs.size
  · rw [if_pos hk, List.append_assoc, List.getElem?_append_right (by simp; omega), List.getElem?_append_left (by simp; omega)]
    simp only [List.length_take, Array.length_toList]
    rw [Nat.min_eq_left (by omega)]
  · rw [if_neg hk]
    by_cases hlt : k < off
    · rw [List.append_assoc, List.getElem?_append_left (by simp; omega), List.getElem?_take, if_pos hlt, Array.getElem?_toList]
    · rw [List.append_assoc, List.getElem?_append_right (by simp; omega), List.getElem?_append_right (by simp; omega)]
      simp only [List.length_take, Array.length_toList, List.getElem?_drop]
      rw [Nat.min_eq_left (by omega)]
      by_cases hlt2 : k < cs.size
      · rw [show off + vs.size + (k - off - vs.size) = k by omega, Array.getElem?_toList]
      · rw [Array.getElem?_eq_none (by omega), List.getElem?_eq_none (by simp; omega)]

theorem fill_sound {ok : Nat → Prop} {place : Nat → Option (Nat × Nat)} {T : Nat → AV} {a : Act} (hT : ∀ t, RelV w ok ι (T t) (a.tmps.getD t undef)) : ∀ (ps : List (Nat × Operand)) (cs : List AV) (us : Array Value) (r : List AV),
    RelL w ok ι cs us.toList → (∀ p ∈ ps, ev T p.2 ≠ .un ∧ ev T p.2 ≠ .ud) → fillC place cs (ps.map fun p => (p.1, ev T p.2)) = some r →
    ∃ us', Instr.fill place us (ps.map fun p => (p.1, a.eval p.2)) = some us' ∧ RelL w ok ι r us'.toList
  | [], cs, us, r, h, _, hf => by
    simp only [List.map_nil, fillC, Option.some.injEq] at hf
    subst hf
    exact ⟨us, rfl, h⟩
  | (i, x) :: ps, cs, us, r, h, hne, hf => by
    simp only [List.map_cons, fillC] at hf
    split at hf
    · rename_i off size hp
      split at hf
      · rename_i hc
        rw [Bool.and_eq_true] at hc
        obtain ⟨c1, c2⟩ := hc
        have c1 := Nat.eq_of_beq_eq_true c1
        have c2 := Nat.le_of_ble_eq_true c2
        obtain ⟨n1, n2⟩ := hne (i, x) (List.mem_cons_self ..)
        have hcl := RelV_cells (ev_rel hT x) n1 n2
        have hl1 := RelL_length hcl
        have hl2 := RelL_length h
        rw [Array.length_toList] at hl1 hl2
        have hb : off + (a.eval x).cells.size ≤ us.size := by omega
        have hs := splice_fill hb
        have hrel : RelL w ok ι (splice cs off (cellsOf (ev T x))) ((a.eval x).cells.zipIdx.foldl (fun cs (c, j) => cs.setIfInBounds (off + j) c) us).toList := by
          rw [hs, ← Array.length_toList]
          exact RelL_splice h hcl off
        obtain ⟨us', r1, r2⟩ := fill_sound hT ps _ _ r hrel (fun p hp => hne p (List.mem_cons_of_mem _ hp)) hf
        refine ⟨us', ?_, r2⟩
        have e1 : ¬ ((a.eval x).cells.size ≠ size) := by omega
        have e2 : ¬ (off + (a.eval x).cells.size > us.size) := by omega
        simp only [List.map_cons, Instr.fill, hp, e1, e2, decide_false, Bool.or_self, Bool.false_eq_true, if_false]
        exact r1
      · cases hf
    · cases hf
end
end Go.Proofs.Rf
