/- Rf, part w: the table of types, out of a program. -/
import Derived.Test.YtgkgjgcoalmldaaFv
namespace Go.Proofs.Rf
open Go Go.RowKit

def tkOf : TypeDesc → TK
  | .int k => .int k
  | .bool => .bool
  | .string => .str
  | .slice e => .sl e
  | .array n e => .ar n e
  | .struct fields => .st (fields.toList.map fun f => (f.offset, f.type))
  | _ => .oth

def prL : List Ty → Ty
  | [] => .un
  | [a] => a
  | a :: b :: r => .pr a (prL (b :: r))

def allT {α β : Type} (f : α → Option β) : List α → Option (List β)
  | [] => some []
  | a :: r => match f a with
    | some b => match allT f r with
      | some bs => some (b :: bs)
      | none => none
    | none => none

def tyOf (P : Program) : Nat → Nat → Option Ty
  | 0, _ => none
  | k + 1, t => match P.underlying t with
    | some (.int i) => some (.int i)
    | some .bool => some .bool
    | some .string => some .str
    | some (.slice e) => (match tyOf P k e with
      | some ty => some (.sl ty)
      | none => none)
    | some (.array n e) => (match tyOf P k e with
      | some ty => some (prL (List.replicate n ty))
      | none => none)
    | some (.struct fields) => (match allT (fun f : Field => tyOf P k f.type) fields.toList with
      | some ts => some (prL ts)
      | none => none)
    | _ => none

def zInt (k : IntKind) : List Value → Bool
  | [.int k' n] => ikEq k' k && (n == 0)
  | _ => false
def zBool : List Value → Bool
  | [.bool b] => !b
  | _ => false
def zStr : List Value → Bool
  | [.string s] => Nat.beq s.data.size 0
  | _ => false
def zSl : List Value → Bool
  | [.slice none 0 0] => true
  | _ => false
def zNil : List Value → Bool
  | [] => true
  | _ => false

/-- The zero value's cells are what the datum's default says. -/
def zB : Ty → List Value → Bool
  | .int k, vs => zInt k vs
  | .bool, vs => zBool vs
  | .str, vs => zStr vs
  | .sl _, vs => zSl vs
  | .pr a b, vs => zB a (vs.take a.size) && zB b (vs.drop a.size)
  | .un, vs => zNil vs
  | .fk _, _ => false

theorem zB_sound {w : World} {ok : Nat → Prop} : ∀ (t : Ty) (vs : List Value), zB t vs = true → Rz w ok t t.dflt vs
  | .int k, vs, h => by
    unfold zB zInt at h
    split at h
    · simp only [Bool.and_eq_true, beq_iff_eq] at h
      rw [ikEq_eq h.1, h.2]
      rfl
    · cases h
  | .bool, vs, h => by
    unfold zB zBool at h
    split at h
    · rename_i b
      cases b
      · rfl
      · cases h
    · cases h
  | .str, vs, h => by
    unfold zB zStr at h
    split at h
    · rename_i s
      have h := Nat.eq_of_beq_eq_true h
      have : s = ⟨[].toArray⟩ := by
        cases s with
        | mk d =>
          congr 1
          exact Array.eq_empty_of_size_eq_zero h
      rw [this]
      rfl
    · cases h
  | .sl t, vs, h => by
    unfold zB zSl at h
    split at h
    · exact ⟨none, 0, rfl, Nat.le_refl _, fun hp => by simp [Ty.dflt] at hp⟩
    · cases h
  | .pr a b, vs, h => by
    simp only [zB, Bool.and_eq_true] at h
    exact ⟨vs.take a.size, vs.drop a.size, (List.take_append_drop _ _).symm, zB_sound a _ h.1, zB_sound b _ h.2⟩
  | .un, vs, h => by
    unfold zB zNil at h
    split at h
    · rfl
    · cases h
  | .fk f, vs, h => by simp [zB] at h

def oneB : Value → Bool
  | v => v.oneCell'

/-- A type of the program, whole. -/
def tdOf (P : Program) (t : Nat) : Option TD :=
  match P.info? t, P.underlying t with
  | some i, some d => match i.zero with
    | some z => if (Nat.beq z.cells.toList.length i.size && z.cells.toList.all Value.oneCell') = true then
        some ⟨tkOf d, i.size, i.bytes, z.cells.toList.map avc, match tyOf P 16 t with
          | some ty => if (Nat.beq ty.size i.size && zB ty z.cells.toList) = true then some ty else none
          | none => none⟩ else none
    | none => none
  | _, _ => none

theorem tdOf_ok {P : Program} {t : Nat} {td : TD} (h : tdOf P t = some td) : InfoOK P t td := by
  unfold tdOf at h
  split at h
  · rename_i i d hi hd
    split at h
    · rename_i z hz
      split at h
      · rename_i hc
        simp only [Bool.and_eq_true] at hc
        injection h with h
        subst h
        refine ⟨⟨i, z, hi, rfl, rfl, hz, fun w ok ι => ?_, fun u hu => List.all_eq_true.1 hc.2 u hu, fun ty hty => ?_⟩, ?_, ?_⟩
        · generalize z.cells.toList = vs
          induction vs with
          | nil => exact RelL_nil.2 rfl
          | cons v r ih => exact RelL_cons.2 ⟨v, r, rfl, avc_rel v, ih⟩
        · simp only at hty
          split at hty
          · split at hty
            · rename_i hb
              injection hty with hty
              subst hty
              simp only [Bool.and_eq_true] at hb
              exact ⟨Nat.eq_of_beq_eq_true hb.1, fun w ok => zB_sound _ _ hb.2⟩
            · cases hty
          · cases hty
        · cases d <;> simp only [tkOf, UndOK] <;> first | exact hd | exact ⟨_, hd, rfl⟩ | exact ⟨_, hd, rfl⟩
        · simp only [List.length_map]
          exact Nat.eq_of_beq_eq_true hc.1
      · cases h
    · cases h
  · cases h

def tabOf : List (Nat × TD) → Tab
  | [], _ => none
  | (k, td) :: r, t => if Nat.beq k t = true then some td else tabOf r t

theorem tabOf_ok {P : Program} : ∀ {l : List (Nat × TD)}, l.map (fun p => tdOf P p.1) = l.map (fun p => some p.2) → TabOK P (tabOf l)
  | [], _, t, td, h => by cases h
  | (k, d) :: r, he, t, td, h => by
    simp only [List.map_cons, List.cons.injEq] at he
    simp only [tabOf] at h
    split at h
    · rename_i hk
      have hk := Nat.eq_of_beq_eq_true hk
      subst hk
      injection h with h
      subst h
      exact tdOf_ok he.1
    · exact tabOf_ok he.2 t td h
end Go.Proofs.Rf
