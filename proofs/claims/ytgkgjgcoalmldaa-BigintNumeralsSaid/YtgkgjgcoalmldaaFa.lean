/- Rf, part a: the abstract evaluator: typed data by value, a few local mutable blocks; the evaluation of the model's operations and code in continuation-passing style. Definitions alone. -/
import Derived.Calls
import Derived.Orders
namespace Go.Proofs.Rf
open Go

/-- The shapes of data by value. -/
inductive Ty where
  | int (k : IntKind)
  | bool
  | str
  | sl (t : Ty)
  | pr (a b : Ty)
  | un
  | fk (f : Nat)

@[reducible] def Ty.den : Ty → Type
  | .int _ => Int
  | .bool => Bool
  | .str => List UInt8
  | .sl t => List t.den
  | .pr a b => a.den × b.den
  | .un => Unit
  | .fk _ => Unit

def Ty.size : Ty → Nat
  | .pr a b => a.size + b.size
  | .un => 0
  | _ => 1

def Ty.dflt : (t : Ty) → t.den
  | .int _ => (0 : Int)
  | .bool => false
  | .str => ([] : List UInt8)
  | .sl t => ([] : List t.den)
  | .pr a b => (a.dflt, b.dflt)
  | .un => ()
  | .fk _ => ()

def ikEq : IntKind → IntKind → Bool
  | .i8, .i8 | .i16, .i16 | .i32, .i32 | .i64, .i64 | .u8, .u8 | .u16, .u16 | .u32, .u32 | .u64, .u64 => true
  | _, _ => false

theorem ikEq_eq : ∀ {j k : IntKind}, ikEq j k = true → j = k := by
  intro j k h
  cases j <;> cases k <;> first | rfl | (exact absurd h (by decide))

def Ty.eqv : (a b : Ty) → Option (PLift (a = b))
  | .int j, .int k => if h : ikEq j k = true then some ⟨by rw [ikEq_eq h]⟩ else none
  | .bool, .bool => some ⟨rfl⟩
  | .str, .str => some ⟨rfl⟩
  | .sl a, .sl b => match a.eqv b with
    | some h => some ⟨by rw [h.down]⟩
    | none => none
  | .pr a b, .pr c d => match a.eqv c, b.eqv d with
    | some h, some k => some ⟨by rw [h.down, k.down]⟩
    | _, _ => none
  | .un, .un => some ⟨rfl⟩
  | .fk f, .fk g => if h : Nat.beq f g = true then some ⟨by rw [Nat.eq_of_beq_eq_true h]⟩ else none
  | _, _ => none

def Ty.castL {a b : Ty} (h : a = b) (xs : List a.den) : List b.den := h ▸ xs

theorem Ty.castL_rfl {a : Ty} (xs : List a.den) : Ty.castL rfl xs = xs := rfl

/-- Values of the abstract machine. -/
inductive AV where
  | d (t : Ty) (x : t.den)
  | un
  | ud
  | nl
  | np
  | ub
  | rf (b : Nat)
  | rs (b sz off len : Nat)
  | pt (b o : Nat)
  | pe (b sz i o : Nat)
  | ve (cs : List AV)
  | ag (cs : List AV)
  | tp (cs : List AV)
  | fn (f : Nat) (cs : List AV)
  | fm (f : Nat) (cs : List AV)

inductive Blk where
  | row (t : Ty) (e : Nat) (xs : List t.den) (rw : Bool)
  | box (cs : List AV)
  | it (s : List UInt8) (pos : Nat)
  | dead

structure Eff where
  dst : AV
  upd : List (Nat × Blk)
  new : List Blk

/-- A type of the program, as far as it is wanted. -/
inductive TK where
  | int (k : IntKind)
  | bool
  | str
  | sl (e : Nat)
  | ar (n e : Nat)
  | st (fs : List (Nat × Nat))
  | oth

structure TD where
  k : TK
  size : Nat
  bytes : Nat
  zero : List AV
  ty : Option Ty

def TK.agg : TK → Bool
  | .ar _ _ | .st _ => true
  | _ => false

abbrev Tab := Nat → Option TD

abbrev CallO := List AV → (Nat → Blk) → Nat → (R : Type) → (Eff → Option R) → Option R

def avc : Value → AV
  | .int k n => .d (.int k) n
  | .bool b => .d .bool b
  | .string s => .d .str s.data.toList
  | .slice none 0 0 => .nl
  | .pointer none => .np
  | _ => .un

def ev (T : Nat → AV) : Operand → AV
  | .tmp t => T t
  | .const v => avc v
  | .func f => .fn f []
  | .global _ => .un

def unpack : (t : Ty) → t.den → List AV
  | .pr a b, x => unpack a x.1 ++ unpack b x.2
  | .un, _ => []
  | .fk f, _ => [.fn f []]
  | .int k, x => [.d (.int k) x]
  | .bool, x => [.d .bool x]
  | .str, x => [.d .str x]
  | .sl t, x => [.d (.sl t) x]

/-- A one-cell value as data of a type: rows of the call's own are frozen by it. -/
def dat1 (C : Nat → Blk) : (t : Ty) → AV → Option (t.den × List (Nat × Blk))
  | .int k, .d (.int k') n => if ikEq k k' = true then some (n, []) else none
  | .bool, .d .bool b => some (b, [])
  | .str, .d .str s => some (s, [])
  | .sl t, .d (.sl t') xs => match t'.eqv t with
    | some h => some (Ty.castL h.down xs, [])
    | none => none
  | .sl _, .nl => some ([], [])
  | .sl t, .rf b => match C b with
    | .row t' e xs rw => match t'.eqv t with
      | some h => some (Ty.castL h.down xs, if rw = true then [(b, .row t' e xs false)] else [])
      | none => none
    | _ => none
  | .sl t, .rs b sz off len => match C b with
    | .row t' e xs rw => match t'.eqv t with
      | some h => if Nat.beq sz t.size = true then some (((Ty.castL h.down xs).drop off).take len, if rw = true then [(b, .row t' e xs false)] else []) else none
      | none => none
    | _ => none
  | .fk f, .fn f' [] => if Nat.beq f f' = true then some ((), []) else none
  | _, _ => none

def pack (C : Nat → Blk) : (t : Ty) → List AV → Option (t.den × List AV × List (Nat × Blk))
  | .pr a b, cs => match pack C a cs with
    | some (x, r, f) => match pack C b r with
      | some (y, r', f') => some ((x, y), r', f ++ f')
      | none => none
    | none => none
  | .un, cs => some ((), cs, [])
  | .int k, c :: r => match dat1 C (.int k) c with
    | some (x, f) => some (x, r, f)
    | none => none
  | .bool, c :: r => match dat1 C .bool c with
    | some (x, f) => some (x, r, f)
    | none => none
  | .str, c :: r => match dat1 C .str c with
    | some (x, f) => some (x, r, f)
    | none => none
  | .sl t, c :: r => match dat1 C (.sl t) c with
    | some (x, f) => some (x, r, f)
    | none => none
  | .fk g, c :: r => match dat1 C (.fk g) c with
    | some (x, f) => some (x, r, f)
    | none => none
  | _, [] => none

def cellsOf : AV → List AV
  | .ag cs => cs
  | v => [v]

/-- A value as data of a type. -/
def dat (C : Nat → Blk) (t : Ty) (v : AV) : Option (t.den × List (Nat × Blk)) :=
  match v with
  | .un => none
  | .ud => none
  | v => match pack C t (cellsOf v) with
    | some (x, [], f) => some (x, f)
    | _ => none

/-- Values of one cell. -/
def AV.one : AV → Bool
  | .un | .ud | .ag _ | .tp _ => false
  | _ => true

/-- Values of which something is known. -/
def AV.df : AV → Bool
  | .un | .ud => false
  | _ => true

def allOne : List AV → Bool
  | [] => true
  | a :: r => a.one && allOne r

/-- The value that stands for data: one cell, or an aggregate. -/
def avOf (agg : Bool) (t : Ty) (x : t.den) : Option AV :=
  if agg = true then some (.ag (unpack t x)) else match unpack t x with
    | [v] => some v
    | _ => none

def updLt (n : Nat) : List (Nat × Blk) → Bool
  | [] => true
  | (k, _) :: r => Nat.blt k n && updLt n r

def updIds : List (Nat × Blk) → List Nat
  | [] => []
  | (k, _) :: r => k :: updIds r

def memN (k : Nat) : List Nat → Bool
  | [] => false
  | j :: r => Nat.beq j k || memN k r

/-! ### Arithmetic -/
def bitop (op : BinOp) (k : IntKind) (x y : Int) : Int :=
  let a := BitVec.ofInt k.bits x
  let b := BitVec.ofInt k.bits y
  match op with
  | .and => k.wrap (a &&& b).toNat
  | .or => k.wrap (a ||| b).toNat
  | .xor => k.wrap (a ^^^ b).toNat
  | .andNot => k.wrap (a &&& ~~~b).toNat
  | _ => 0

/-- The greater one. -/
def imax (a b : Int) : Int := if b > a then b else a

/-- How long a slice or a string may be that is made. -/
def LIM : Nat := 4294967296

def cmpI (op : BinOp) (x y : Int) : Option Bool :=
  match op with
  | .eql => some (x == y)
  | .neq => some (x != y)
  | .lss => some (decide (x < y))
  | .leq => some (decide (x ≤ y))
  | .gtr => some (decide (x > y))
  | .geq => some (decide (x ≥ y))
  | _ => none

def bin {R : Type} (bt st : Bool) (op : BinOp) (a b : AV) (K : AV → Option R) : Option R :=
  match a, b with
  | .d (.int k) x, .d (.int k') y =>
    match op with
    | .shl => if y < 0 then none else K (.d (.int k) (k.wrap (x * 2 ^ (min y.toNat k.bits))))
    | .shr => if y < 0 then none else K (.d (.int k) (Int.fdiv x (2 ^ (min y.toNat k.bits))))
    | .add => if ikEq k k' = true then K (.d (.int k) (k.wrap (x + y))) else none
    | .sub => if ikEq k k' = true then K (.d (.int k) (k.wrap (x - y))) else none
    | .mul => if ikEq k k' = true then K (.d (.int k) (k.wrap (x * y))) else none
    | .quo => if ikEq k k' = true then (if y = 0 then none else K (.d (.int k) (k.wrap (Int.tdiv x y)))) else none
    | .rem => if ikEq k k' = true then (if y = 0 then none else K (.d (.int k) (Int.tmod x y))) else none
    | .and => if ikEq k k' = true then K (.d (.int k) (bitop .and k x y)) else none
    | .or => if ikEq k k' = true then K (.d (.int k) (bitop .or k x y)) else none
    | .xor => if ikEq k k' = true then K (.d (.int k) (bitop .xor k x y)) else none
    | .andNot => if ikEq k k' = true then K (.d (.int k) (bitop .andNot k x y)) else none
    | .eql => if ikEq k k' = true then K (.d .bool (x == y)) else none
    | .neq => if ikEq k k' = true then K (.d .bool (x != y)) else none
    | .lss => if ikEq k k' = true then K (.d .bool (decide (x < y))) else none
    | .leq => if ikEq k k' = true then K (.d .bool (decide (x ≤ y))) else none
    | .gtr => if ikEq k k' = true then K (.d .bool (decide (x > y))) else none
    | .geq => if ikEq k k' = true then K (.d .bool (decide (x ≥ y))) else none
  | .d .bool x, .d .bool y =>
    match op with
    | .eql => if bt = true then K (.d .bool (x == y)) else none
    | .neq => if bt = true then K (.d .bool (!(x == y))) else none
    | _ => none
  | .d (.sl _) x, .nl =>
    match op with
    | .eql => if st = true then (if 0 < x.length then K (.d .bool false) else K .ub) else none
    | .neq => if st = true then (if 0 < x.length then K (.d .bool true) else K .ub) else none
    | _ => none
  | .nl, .nl =>
    match op with
    | .eql => if st = true then K (.d .bool true) else none
    | .neq => if st = true then K (.d .bool false) else none
    | _ => none
  | .d .str x, .d .str y =>
    match op with
    | .eql => K (.d .bool (x == y))
    | .neq => K (.d .bool (!(x == y)))
    | .lss => K (.d .bool (Op.bytesLess x y))
    | .leq => K (.d .bool (Op.bytesLess x y || x == y))
    | .gtr => K (.d .bool (!(Op.bytesLess x y || x == y)))
    | .geq => K (.d .bool (!(Op.bytesLess x y)))
    | .add => if x.length + y.length ≤ LIM then K (.d .str (x ++ y)) else none
    | _ => none
  | _, _ => none

def uny {R : Type} (op : UnOp) (a : AV) (K : AV → Option R) : Option R :=
  match a with
  | .d (.int k) x =>
    match op with
    | .neg => K (.d (.int k) (k.wrap (0 - x)))
    | .xor => K (.d (.int k) (bitop .xor k (if k.signed then -1 else k.max) x))
    | _ => none
  | .d .bool b =>
    match op with
    | .not => K (.d .bool (!b))
    | _ => none
  | _ => none

/-! ### Operations -/
section
variable (TT : Tab)

def loadC (tt : Nat) (cs : List AV) : Option AV :=
  match TT tt with
  | some td => if td.k.agg = true then (if td.size ≤ cs.length then some (.ag (cs.take td.size)) else none) else match cs with
    | v :: _ => some v
    | [] => none
  | none => none

/-- cs with vs from place o on. -/
def splice (cs : List AV) (o : Nat) (vs : List AV) : List AV := cs.take o ++ vs ++ cs.drop (o + vs.length)

def fieldOf (tt f : Nat) : Option (Nat × Nat) :=
  match TT tt with
  | some td => match td.k with
    | .st fs => fs[f]?
    | _ => none
  | none => none

def lenOf (C : Nat → Blk) : AV → Option Int
  | .d (.sl _) xs => some xs.length
  | .nl => some 0
  | .rf b => match C b with
    | .row _ _ xs _ => some (xs.length : Int)
    | _ => none
  | .rs _ _ _ len => some len
  | _ => none

/-- A slice's elements: the block that they lie in is frozen by it. -/
def elems (C : Nat → Blk) (t : Ty) (v : AV) : Option (List t.den × List (Nat × Blk)) := dat1 C (.sl t) v

def fillC (place : Nat → Option (Nat × Nat)) (cs : List AV) : List (Nat × AV) → Option (List AV)
  | [] => some cs
  | (i, v) :: r => match place i with
    | some (off, size) => if (Nat.beq (cellsOf v).length size && Nat.ble (off + size) cs.length) = true then fillC place (splice cs off (cellsOf v)) r else none
    | none => none

def sizeT (tt : Nat) : Nat := match TT tt with
  | some td => td.size
  | none => 0

def placeSt (fs : List (Nat × Nat)) (i : Nat) : Option (Nat × Nat) := match fs[i]? with
  | some p => some (p.1, sizeT TT p.2)
  | none => none

def isBoolT (tt : Nat) : Bool := match TT tt with
  | some td => match td.k with
    | .bool => true
    | _ => false
  | none => false

def isSlT (tt : Nat) : Bool := match TT tt with
  | some td => match td.k with
    | .sl _ => true
    | _ => false
  | none => false

def packAll (C : Nat → Blk) (t : Ty) : (n : Nat) → (i : Nat) → List (Nat × AV) → Option (List t.den × List (Nat × Blk))
  | 0, _, [] => some ([], [])
  | n + 1, i, (j, v) :: r => if Nat.beq i j = true then (match dat C t v with
      | some (x, f) => match packAll C t n (i + 1) r with
        | some (xs, f') => some (x :: xs, f ++ f')
        | none => none
      | none => none) else none
  | _, _, _ => none

def chain {R : Type} (i : Nat) (b : Nat) (o sz : Nat) (x : Int) (K : AV → Option R) : (n : Nat) → Option R
  | 0 => none
  | n + 1 => if x = (i : Int) then K (.pt b (o + i * sz)) else chain (i + 1) b o sz x K n

/-- An element of an array that is a value. -/
def chainA {R : Type} (TT : Tab) (e sz : Nat) (cs : List AV) (x : Int) (K : AV → Option R) : (i n : Nat) → Option R
  | _, 0 => none
  | i, n + 1 => if x = (i : Int) then (match loadC TT e (cs.drop (i * sz)) with
      | some y => K y
      | none => none) else chainA TT e sz cs x K (i + 1) n

def sliceGo {R : Type} (n l h : Int) (sub : AV) (K : AV → Option R) : Option R :=
  if 0 ≤ l then (if l ≤ h then (if h ≤ n then K sub else none) else none) else none

/-- The bounds: written, or the ends. -/
def sliceAt {R : Type} (n : Int) (lo hi : Option AV) (cut : Int → Int → AV) (full : Int → AV) (all : AV) (K : AV → Option R) : Option R :=
  match lo, hi with
  | none, none => K all
  | some (.d (.int _) l), none => sliceGo n l n (full l) K
  | none, some (.d (.int _) h) => sliceGo n 0 h (cut 0 h) K
  | some (.d (.int _) l), some (.d (.int _) h) => sliceGo n l h (cut l h) K
  | _, _ => none

def sliceOp {R : Type} (tt : Nat) (C : Nat → Blk) (v : AV) (lo hi : Option AV) (K : AV → Option R) : Option R :=
  match TT tt with
  | some td => match td.k, v with
    | .str, .d .str s => sliceAt s.length lo hi (fun l h => .d .str ((s.take h.toNat).drop l.toNat)) (fun l => .d .str (s.drop l.toNat)) v K
    | .sl e, .d (.sl t) xs => if ((TT e).isSome && Nat.beq t.size (sizeT TT e)) = true then
        sliceAt xs.length lo hi (fun l h => .d (.sl t) ((xs.take h.toNat).drop l.toNat)) (fun l => .d (.sl t) (xs.drop l.toNat)) v K else none
    | .sl e, .rf b => match C b with
      | .row t _ xs _ => if ((TT e).isSome && Nat.beq t.size (sizeT TT e)) = true then
          sliceAt xs.length lo hi (fun l h => .rs b t.size l.toNat (h.toNat - l.toNat)) (fun l => .rs b t.size l.toNat (xs.length - l.toNat)) v K else none
      | _ => none
    | .sl e, .rs b sz off len => if ((TT e).isSome && Nat.beq sz (sizeT TT e)) = true then
        sliceAt len lo hi (fun l h => .rs b sz (off + l.toNat) (h.toNat - l.toNat)) (fun l => .rs b sz (off + l.toNat) (len - l.toNat)) v K else none
    | _, _ => none
  | none => none

def kindOf (tt : Nat) : TK := match TT tt with
  | some td => td.k
  | none => .oth

def loadAV (C : Nat → Blk) (tt : Nat) : AV → Option AV
  | .pt b o' => match C b with
    | .box cs => loadC TT tt (cs.drop o')
    | _ => none
  | .pe b sz i o' => match C b with
    | .row t _ xs _ => if Nat.beq sz t.size = true then loadC TT tt ((unpack t (xs.getD i t.dflt)).drop o') else none
    | _ => none
  | .ve cs => loadC TT tt cs
  | _ => none

def fldAV (off : Nat) : AV → Option AV
  | .pt b o' => some (.pt b (o' + off))
  | .pe b s i o' => some (.pe b s i (o' + off))
  | .ve cs => some (.ve (cs.drop off))
  | _ => none

def idxAV {R : Type} (C : Nat → Blk) (e : Nat) (n : Int) (x : AV) (K : AV → Option R) : Option R :=
  match x with
  | .rf b => match C b with
    | .row t _ xs _ => if ((TT e).isSome && Nat.beq t.size (sizeT TT e)) = true then (if 0 ≤ n then (if n < (xs.length : Int) then K (.pe b t.size n.toNat 0) else none) else none) else none
    | _ => none
  | .rs b sz off len => if ((TT e).isSome && Nat.beq sz (sizeT TT e)) = true then (if 0 ≤ n then (if n < (len : Int) then K (.pe b sz (off + n.toNat) 0) else none) else none) else none
  | .d (.sl t) xs => if ((TT e).isSome && Nat.beq t.size (sizeT TT e)) = true then (if 0 ≤ n then (if n < (xs.length : Int) then K (.ve (unpack t (xs.getD n.toNat t.dflt))) else none) else none) else none
  | _ => none

def evOp (Δ : Nat → Option CallO) {R : Type} (o : Oper) (T : Nat → AV) (C : Nat → Blk) (nb : Nat) (K : Eff → Option R) : Option R :=
  let v (a : AV) : Option R := K ⟨a, [], []⟩
  match o.op with
  | .move x | .assign x => v (ev T x)
  | .pick c a b => match ev T c with
    | .d .bool cb => match ev T a, ev T b with
      | .d .bool x, .d .bool y => v (.d .bool (if cb = true then x else y))
      | x, y => if cb = true then v x else v y
    | _ => none
  | .alloc e => match TT e with
    | some td => K ⟨.pt nb 0, [], [.box td.zero]⟩
    | none => none
  | .box _ x => match ev T x with
    | .un => none
    | .ud => none
    | y => K ⟨.pt nb 0, [], [.box (cellsOf y)]⟩
  | .build tt parts => match TT tt with
    | some td => match td.k with
      | .st fs => if (fs.all (fun p => (TT p.2).isSome) && parts.toList.all (fun p => (ev T p.2).df)) = true then (match fillC (placeSt TT fs) td.zero (parts.toList.map fun p => (p.1, ev T p.2)) with
        | some cs => v (.ag cs)
        | none => none) else none
      | .ar _ e => if ((TT e).isSome && parts.toList.all (fun p => (ev T p.2).df)) = true then (match fillC (fun i => some (i * sizeT TT e, sizeT TT e)) td.zero (parts.toList.map fun p => (p.1, ev T p.2)) with
        | some cs => v (.ag cs)
        | none => none) else none
      | _ => none
    | none => none
  | .buildSlice tt len parts => match TT tt with
    | some td => match td.k with
      | .sl e => match TT e with
        | some te => match te.ty with
          | some ty => match packAll C ty len 0 (parts.toList.map fun p => (p.1, ev T p.2)) with
            | some (xs, f) => if (Nat.blt 0 ty.size && Nat.ble (len * ty.size) 16777216) = true then K ⟨.rf nb, f, [.row ty e xs true]⟩ else none
            | none => none
          | none => none
        | none => none
      | _ => none
    | none => none
  | .load tt a => match loadAV TT C tt (ev T a) with
    | some x => v x
    | none => none
  | .store tt a x => match ev T a with
    | .pt b o' => match C b with
      | .box cs => if ((TT tt).isSome && allOne (cellsOf (ev T x)) && Nat.beq (cellsOf (ev T x)).length (sizeT TT tt) && Nat.ble (o' + (cellsOf (ev T x)).length) cs.length) = true then
          K ⟨.un, [(b, .box (splice cs o' (cellsOf (ev T x))))], []⟩ else none
      | _ => none
    | .pe b sz i o' => match C b with
      | .row t e xs true => if (Nat.beq sz t.size && (TT tt).isSome && allOne (cellsOf (ev T x)) && Nat.beq (cellsOf (ev T x)).length (sizeT TT tt) && Nat.ble (o' + (cellsOf (ev T x)).length) t.size) = true then
          (match pack C t (splice (unpack t (xs.getD i t.dflt)) o' (cellsOf (ev T x))) with
          | some (y, [], []) => K ⟨.un, [(b, .row t e (xs.set i y) true)], []⟩
          | _ => none) else none
      | _ => none
    | _ => none
  | .nilCheck x => match ev T x with
    | .pt b o' => v (.pt b o')
    | .pe b s i o' => v (.pe b s i o')
    | .ve cs => v (.ve cs)
    | .fn f cs => v (.fn f cs)
    | .fm f cs => v (.fm f cs)
    | _ => none
  | .binOp op tt x y _ => bin (isBoolT TT tt) (isSlT TT tt) op (ev T x) (ev T y) v
  | .unOp op _ x => uny op (ev T x) v
  | .convert src dst x => match TT src, TT dst, ev T x with
    | some _, some td, .d (.int _) n => match td.k with
      | .int k => v (.d (.int k) (k.wrap n))
      | _ => none
    | some ts, some td, y => match ts.k, td.k with
      | .sl e, .str => match kindOf TT e, dat1 C (.sl (.int .u8)) y with
        | .int .u8, some (xs, _) => v (.d .str (xs.map fun n : Int => UInt8.ofNat n.toNat))
        | _, _ => none
      | _, _ => none
    | _, _, _ => none
  | .makeSlice tt l c => match TT tt with
    | some td => match td.k with
      | .sl e => match TT e with
        | some te => match te.ty, ev T l, ev T c with
          | some ty, .d (.int k) x, .d (.int k') y => if (ikEq k .i64 && ikEq k' .i64 && Nat.blt 0 ty.size && Nat.ble te.bytes 1024) = true then (if 0 ≤ x then (if x ≤ y then (if y ≤ (LIM : Int) then K ⟨.rf nb, [], [.row ty e (List.replicate x.toNat ty.dflt) true]⟩ else none) else none) else none) else none
          | _, _, _ => none
        | none => none
      | _ => none
    | none => none
  | .slice tt x lo hi none => sliceOp TT tt C (ev T x) (lo.map (ev T)) (hi.map (ev T)) v
  | .fieldAddr tt x f => match fieldOf TT tt f with
    | some (off, ft) => if Nat.blt 0 (sizeT TT ft) = true then (match fldAV off (ev T x) with
      | some y => v y
      | none => none) else none
    | none => none
  | .field tt x f => match fieldOf TT tt f with
    | some (off, ft) => match ev T x with
      | .ag cs => match loadC TT ft (cs.drop off) with
        | some y => v y
        | none => none
      | _ => none
    | none => none
  | .indexAddr tt x ix => match TT tt, ev T ix with
    | some td, .d (.int _) n => match td.k with
      | .sl e => idxAV TT C e n (ev T x) v
      | .ar m e => match ev T x with
        | .pt b o' => if (TT e).isSome = true then chain 0 b o' (sizeT TT e) n v m else none
        | _ => none
      | _ => none
    | _, _ => none
  | .index tt x ix => match TT tt, ev T ix, ev T x with
    | some td, .d (.int _) n, .d .str s => match td.k with
      | .str => if 0 ≤ n then (if n < (s.length : Int) then v (.d (.int .u8) ((s.getD n.toNat 0).toNat : Int)) else none) else none
      | _ => none
    | some td, .d (.int _) n, .ag cs => match td.k with
      | .ar m e => if (TT e).isSome = true then chainA TT e (sizeT TT e) cs n v 0 m else none
      | _ => none
    | _, _, _ => none
  | .extract x i => match ev T x with
    | .tp cs => match cs[i]? with
      | some y => v y
      | none => none
    | _ => none
  | .makeFunc (.func f) first captured => if (Nat.beq first.size 0) = true then v (.fn f (captured.toList.map (ev T))) else (if (Nat.beq captured.size 0) = true then v (.fm f (first.toList.map (ev T))) else none)
  | .range tt x => match kindOf TT tt, ev T x with
    | .str, .d .str s => K ⟨.pt nb 0, [], [.it s 0]⟩
    | _, _ => none
  | .next x true => match ev T x with
    | .pt b 0 => match C b with
      | .it s pos => if pos < s.length then K ⟨.tp [.d .bool true, .d (.int .i64) (pos : Int), .d (.int .i32) ((Utf8.decode ⟨s.toArray⟩ pos).1 : Int)], [(b, .it s (pos + (Utf8.decode ⟨s.toArray⟩ pos).2))], []⟩
          else v (.tp [.d .bool false])
      | _ => none
    | _ => none
  | .call c => match c.callee with
    | .builtin .len => match c.args.toList, c.argTypes.toList with
      | [x], [tt] => match kindOf TT tt, ev T x with
        | .str, .d .str s => v (.d (.int .i64) (s.length : Int))
        | .sl _, y => match lenOf C y with
          | some n => v (.d (.int .i64) n)
          | none => none
        | _, _ => none
      | _, _ => none
    | .builtin .append => match c.args.toList, c.argTypes.toList with
      | [x, y], [tt, tt'] => match TT tt with
        | some td => match td.k with
          | .sl e => match TT e with
            | some te => match te.ty with
              | some ty => if (Nat.beq tt tt' && Nat.blt 0 ty.size && Nat.ble te.bytes 1024) = true then (match elems C ty (ev T y) with
                | some (ys, f) => match ev T x with
                  | .nl => if ys.length ≤ LIM then K ⟨.rf nb, f, [.row ty e ys true]⟩ else none
                  | .rf b => match C b with
                    | .row t e' xs true => match t.eqv ty with
                      | some h => if (Nat.beq e' e && !(memN b (updIds f))) = true then (if xs.length + ys.length ≤ LIM then K ⟨.rf nb, f ++ [(b, .dead)], [.row ty e (Ty.castL h.down xs ++ ys) true]⟩ else none) else none
                      | none => none
                    | _ => none
                  | _ => none
                | none => none) else none
              | none => none
            | none => none
          | _ => none
        | none => none
      | _, _ => none
    | .builtin .copy => match c.args.toList, c.argTypes.toList with
      | [x, y], [tt, _] => match TT tt with
        | some td => match td.k with
          | .sl e => match TT e, ev T x, ev T y with
            | some te, .rs b sz off len, .d (.sl t') ys => match C b with
              | .row t e' xs true => match t'.eqv t with
                | some h => if (Nat.beq sz 1 && Nat.beq t.size 1 && Nat.beq te.size 1) = true then
                    K ⟨.d (.int .i64) ((min ys.length len : Nat) : Int), [(b, .row t e' (xs.take off ++ (Ty.castL h.down ys).take len ++ xs.drop (off + min ys.length len)) true)], []⟩ else none
                | none => none
              | _ => none
            | _, _, _ => none
          | _ => none
        | none => none
      | _, _ => none
    | .builtin .max => match c.args.toList with
      | [x, y] => match ev T x, ev T y with
        | .d (.int k) a, .d (.int _) b => v (.d (.int k) (imax a b))
        | _, _ => none
      | _ => none
    | .value f => match ev T f with
      | .fn g cs => match Δ g with
        | some co => co (c.args.toList.map (ev T) ++ cs) C nb R K
        | none => none
      | .fm g cs => match Δ g with
        | some co => co (cs ++ c.args.toList.map (ev T)) C nb R K
        | none => none
      | _ => none
    | _ => none
  | _ => none
end

/-! ### Regions and code -/
structure LogE where
  i : Nat
  touch : List Nat
  wr : List Nat
  new : List Nat

structure St where
  tm : List (Nat × AV)
  bl : List Blk

def getT : List (Nat × AV) → Nat → AV
  | [], _ => .un
  | (d, v) :: r, t => if Nat.beq d t = true then v else getT r t

def getB : List Blk → Nat → Blk
  | [], _ => .dead
  | b :: _, 0 => b
  | _ :: r, k + 1 => getB r k

def setB : List Blk → Nat → Blk → List Blk
  | [], _, _ => []
  | _ :: r, 0, b => b :: r
  | c :: r, k + 1, b => c :: setB r k b

def updB (bl : List Blk) : List (Nat × Blk) → List Blk
  | [] => bl
  | (k, b) :: r => updB (setB bl k b) r

mutual
def AV.ids : AV → List Nat
  | .rf b => [b]
  | .rs b _ _ _ => [b]
  | .pt b _ => [b]
  | .pe b _ _ _ => [b]
  | .ag cs => AV.idsL cs
  | .tp cs => AV.idsL cs
  | .fn _ cs => AV.idsL cs
  | .fm _ cs => AV.idsL cs
  | _ => []
def AV.idsL : List AV → List Nat
  | [] => []
  | a :: r => a.ids ++ AV.idsL r
end

def evIds (T : Nat → AV) : List Operand → List Nat
  | [] => []
  | .tmp t :: r => (T t).ids ++ evIds T r
  | _ :: r => evIds T r

def meetN : List Nat → List Nat → Bool
  | [], _ => false
  | k :: r, l => memN k l || meetN r l

/-- What an operation waits for, by bits. -/
def predsOf (acc : List Nat) : List Edge → Nat
  | [] => 0
  | e :: r => if Region.binds .any e = true then predsOf acc r ||| 2 ^ e.on ||| acc.getD e.on 0 else predsOf acc r

def masks : List Oper → List Nat → List Nat
  | [], acc => acc
  | o :: r, acc => masks r (acc ++ [predsOf acc o.after.toList])

/-- One of two operations waits for the other. -/
def waits (B : List Nat) (i j : Nat) : Bool := (B.getD j 0).testBit i || (B.getD i 0).testBit j

def apartL (a b : LogE) : Bool := !(meetN (a.wr ++ a.new) (b.touch ++ b.new)) && !(meetN (b.wr ++ b.new) (a.touch ++ a.new))

def logOk1 (B : List Nat) (a : LogE) : List LogE → Bool
  | [] => true
  | b :: r => (apartL a b || waits B a.i b.i) && logOk1 B a r

def subN : List Nat → List Nat → Bool
  | [], _ => true
  | k :: r, l => memN k l && subN r l

def logOk (B : List Nat) : List LogE → Bool
  | [] => true
  | a :: r => subN a.wr a.touch && logOk1 B a r && logOk B r

def edgesOk (i : Nat) : List Oper → Bool
  | [] => true
  | o :: r => (o.after.toList.all fun e => !Region.binds .any e || Nat.blt e.on i) && edgesOk (i + 1) r

def tmpsOk1 (ops : Array Oper) (B : List Nat) (i : Nat) (x : Oper) (j : Nat) : List Oper → Bool
  | [] => true
  | y :: r => (waits B i j || x.apart ops y) && tmpsOk1 ops B i x (j + 1) r

def tmpsOk (ops : Array Oper) (B : List Nat) (i : Nat) : List Oper → Bool
  | [] => true
  | x :: r => tmpsOk1 ops B i x (i + 1) r && tmpsOk ops B (i + 1) r

def drawOk (ops : Array Oper) (lg : List LogE) : Bool :=
  let B := masks ops.toList []
  edgesOk 0 ops.toList && tmpsOk ops B 0 ops.toList && logOk B lg

def rangeN (k : Nat) : Nat → List Nat
  | 0 => []
  | n + 1 => k :: rangeN (k + 1) n

/-- The places that an operation names. -/
def opTmps : List Operand → List Nat
  | [] => []
  | .tmp t :: r => t :: opTmps r
  | _ :: r => opTmps r

def resT (l : List Nat) (T : Nat → AV) : Nat → AV := fun t => if memN t l = true then T t else .un
def resC (l : List Nat) (C : Nat → Blk) : Nat → Blk := fun k => if memN k l = true then C k else .dead

def tmIds (T : Nat → AV) : List Nat → List Nat
  | [] => []
  | t :: r => (T t).ids ++ tmIds T r

/-- The blocks that an operation may look into: a value that is moved is not looked into. -/
def touchOf (o : Oper) (T : Nat → AV) : List Nat := match o.op with
  | .move _ => []
  | .assign _ => []
  | _ => tmIds T (opTmps o.op.operands.toList)

section
variable (TT : Tab) (Δ : Nat → Option CallO) (n : Nat → Bool)

/-- An operation, over what it names alone where the region draws its order. -/
def evOpD {R : Type} (draw : Bool) (o : Oper) (s : St) (K : Eff → Option R) : Option R :=
  if draw = true then evOp TT Δ o (resT (opTmps o.op.operands.toList) (getT s.tm)) (resC (touchOf o (getT s.tm)) (getB s.bl)) s.bl.length K
  else evOp TT Δ o (getT s.tm) (getB s.bl) s.bl.length K

def logOf (i : Nat) (o : Oper) (s : St) (e : Eff) : LogE :=
  ⟨i, touchOf o (getT s.tm), updIds e.upd, rangeN s.bl.length e.new.length⟩

def stepE (o : Oper) (s : St) (e : Eff) : St :=
  match o.dst with
  | some d => ⟨(d, e.dst) :: s.tm, updB s.bl e.upd ++ e.new⟩
  | none => ⟨s.tm, updB s.bl e.upd ++ e.new⟩

def stepS (o : Oper) (s : St) : St :=
  match o.dst with
  | some d => ⟨(d, .ud) :: s.tm, s.bl⟩
  | none => s

def dstOk (n : Nat → Bool) (o : Oper) : Bool := match o.dst with
  | some d => n d
  | none => true

def evOps {R : Type} (ops : Array Oper) (draw : Bool) : List (Nat × Oper) → St → List LogE → (St → List LogE → Option R) → Option R
  | [], s, lg, K => K s lg
  | (i, o) :: r, s, lg, K =>
    if dstOk n o = true then
      (match o.guard with
      | none => evOpD TT Δ draw o s fun e => if updLt s.bl.length e.upd = true then evOps ops draw r (stepE o s e) (logOf i o s e :: lg) K else none
      | some (j, want) => match (ops[j]?).bind (·.dst) with
        | none => none
        | some g => match getT s.tm g with
          | .d .bool b => if b = true then
                (if want = true then evOpD TT Δ draw o ⟨(g, .d .bool true) :: s.tm, s.bl⟩ fun e => if updLt s.bl.length e.upd = true then evOps ops draw r (stepE o ⟨(g, .d .bool true) :: s.tm, s.bl⟩ e) (logOf i o ⟨(g, .d .bool true) :: s.tm, s.bl⟩ e :: lg) K else none
                 else evOps ops draw r (stepS o ⟨(g, .d .bool true) :: s.tm, s.bl⟩) lg K)
              else
                (if want = true then evOps ops draw r (stepS o ⟨(g, .d .bool false) :: s.tm, s.bl⟩) lg K
                 else evOpD TT Δ draw o ⟨(g, .d .bool false) :: s.tm, s.bl⟩ fun e => if updLt s.bl.length e.upd = true then evOps ops draw r (stepE o ⟨(g, .d .bool false) :: s.tm, s.bl⟩ e) (logOf i o ⟨(g, .d .bool false) :: s.tm, s.bl⟩ e :: lg) K else none)
          | .ud => evOps ops draw r (stepS o s) lg K
          | _ => none) else none

open Classical in
/-- What two ways come to, where they come to the same. -/
noncomputable def meet {R : Type} (x y : Option R) : Option R := if x = y then x else none

theorem meet_some {R : Type} {x y : Option R} {r : R} (h : meet x y = some r) : x = some r ∧ y = some r := by
  unfold meet at h
  split at h
  · rename_i e
    exact ⟨h, e ▸ h⟩
  · cases h

inductive Ex where
  | nm
  | ex (id : Nat)
  | rt

def zipN (i : Nat) : List Oper → List (Nat × Oper)
  | [] => []
  | o :: r => (i, o) :: zipN (i + 1) r

abbrev LoopO := St → (R : Type) → (Ex → St → Option R) → Option R

def firstReg : Code → Nat
  | .region i _ _ => i
  | .seq a _ => firstReg a
  | .block _ c | .loop c | .scope c => firstReg c
  | _ => 0

noncomputable def evC (Λ : Nat → Option LoopO) {R : Type} : Code → St → (Ex → St → Option R) → Option R
  | .skip, s, K => K .nm s
  | .region _ ops draw, s, K => evOps TT Δ n ops draw (zipN 0 ops.toList) s [] fun s' lg =>
      if draw = true then (if drawOk ops lg = true then K .nm s' else none) else K .nm s'
  | .seq a b, s, K => evC Λ a s fun e s' => match e with
      | .nm => evC Λ b s' K
      | .ex j => K (.ex j) s'
      | .rt => K .rt s'
  | .cond c a b, s, K => match ev (getT s.tm) c with
      | .d .bool g => if g = true then evC Λ a s K else evC Λ b s K
      | .ub => meet (evC Λ a s K) (evC Λ b s K)
      | _ => none
  | .block id c, s, K => evC Λ c s fun e s' => match e with
      | .nm => K .nm s'
      | .ex j => if Nat.beq j id = true then K .nm s' else K (.ex j) s'
      | .rt => K .rt s'
  | .loop c, s, K => match Λ (firstReg c) with
      | some l => l s R K
      | none => none
  | .rangeFunc _ _ asg _, s, K => match Λ (firstReg asg) with
      | some l => l s R K
      | none => none
  | .exit id, s, K => K (.ex id) s
  | .scope c, s, K => evC Λ c s K
  | .label _, s, K => K .nm s
  | .ret, s, K => K .rt s
  | _, _, _ => none
end

/-- The slots of a frame that may be written. -/
def upTo (k : Nat) (d : Nat) : Bool := Nat.blt d k
end Go.Proofs.Rf
