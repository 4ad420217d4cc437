/- Rf, part x: a function's text; its loops' texts. -/
import Derived.Test.YtgkgjgcoalmldaaFw
namespace Go.Proofs.Rf
open Go Go.RowKit

def bodyOf (f : Func) : Code := match f.body with
  | some c => c
  | none => .skip

/-- The loop whose first region is r. -/
def findL (r : Nat) : Code → Option Code
  | .seq a b => match findL r a with
    | some c => some c
    | none => findL r b
  | .cond _ a b => match findL r a with
    | some c => some c
    | none => findL r b
  | .block _ c => findL r c
  | .scope c => findL r c
  | .loop c => if Nat.beq (firstReg c) r = true then some c else findL r c
  | .rangeFunc _ _ a b => match findL r a with
    | some c => some c
    | none => findL r b
  | _ => none

def loopOf (f : Func) (r : Nat) : Code := match findL r (bodyOf f) with
  | some c => c
  | none => .skip

def lookL.{u} {α : Type u} : List (Nat × α) → Nat → Option α
  | [], _ => none
  | (k, a) :: r, t => if Nat.beq k t = true then some a else lookL r t

/-- A function, over data. -/
noncomputable def runFn (TT : Tab) (Δ : List (Nat × CallO)) (Λ : List (Nat × LoopO)) (f : Func) (ps : List SV) (rsh : Shape) (x : SV.denL ps) : Option rsh.den :=
  runF TT (lookL Δ) (upTo f.ntmps) (lookL Λ) (bodyOf f) f.results.toList ps rsh x

noncomputable def stepFn (TT : Tab) (Δ : List (Nat × CallO)) (Λ : List (Nat × LoopO)) (ok : Nat → Bool) (f : Func) (r : Nat) (head : Shape) (ways : List Way) (x : head.den) : Option (head.den ⊕ denX ways) :=
  stepL TT (lookL Δ) ok (lookL Λ) head ways (loopOf f r) x

/-! ### Putting a program's functions together -/
/-- The loops of a text, those over functions too; none within another. -/
def topLoops : Code → List Code
  | .seq a b => topLoops a ++ topLoops b
  | .cond _ a b => topLoops a ++ topLoops b
  | .block _ c => topLoops c
  | .scope c => topLoops c
  | .loop c => [.loop c]
  | .rangeFunc g ps asg body => [.rangeFunc g ps asg body]
  | _ => []

def headReg : Code → Nat
  | .loop c => firstReg c
  | .rangeFunc _ _ asg _ => firstReg asg
  | _ => 0

theorem lookL_mem.{u} {α : Type u} {k : Nat} {a : α} : ∀ {l : List (Nat × α)}, lookL l k = some a → (k, a) ∈ l
  | [], h => by cases h
  | (j, b) :: r, h => by
    simp only [lookL] at h
    split at h
    · rename_i hj
      injection h with h
      rw [Nat.eq_of_beq_eq_true hj, h]
      exact List.mem_cons_self ..
    · exact List.mem_cons_of_mem _ (lookL_mem h)

/-- A loop's evaluation, in whatever frame that writes these slots. -/
def LoopAt (P : Program) (ok : Nat → Bool) (inn : Bool) (l : LoopO) (c : Code) : Prop := ∀ n : Slots, n.ok = ok → ∀ ρ, (inn = true ∨ (ρ = none ∧ n.marks = true)) → CodeOK P n ρ l c

/-- A text's loops are told of. -/
def LoopsAt (P : Program) (ok : Nat → Bool) (inn : Bool) (Λ : List (Nat × LoopO)) (c : Code) : Prop := ∀ n : Slots, n.ok = ok → ∀ ρ, (inn = true ∨ (ρ = none ∧ n.marks = true)) → LoopsIn P n ρ (lookL Λ) c

theorem loopsIn_of {P : Program} {n : Slots} {ρ : Option Nat} {Λ : Nat → Option LoopO} : ∀ (c : Code), (∀ d ∈ topLoops c, ∀ l, Λ (headReg d) = some l → CodeOK P n ρ l d) → LoopsIn P n ρ Λ c
  | .seq a b, h => ⟨loopsIn_of a fun d hd => h d (List.mem_append_left _ hd), loopsIn_of b fun d hd => h d (List.mem_append_right _ hd)⟩
  | .cond _ a b, h => ⟨loopsIn_of a fun d hd => h d (List.mem_append_left _ hd), loopsIn_of b fun d hd => h d (List.mem_append_right _ hd)⟩
  | .block _ c, h => loopsIn_of c h
  | .scope c, h => loopsIn_of c h
  | .loop c, h => fun l hl => h (.loop c) (List.mem_singleton.2 rfl) l hl
  | .rangeFunc g ps asg body, h => fun l hl => h (.rangeFunc g ps asg body) (List.mem_singleton.2 rfl) l hl
  | .skip, _ => trivial
  | .region .., _ => trivial
  | .exit _, _ => trivial
  | .label _, _ => trivial
  | .goto _, _ => trivial
  | .ret, _ => trivial
  | .refuse _, _ => trivial

/-- The loops of a text, one by one. -/
def ZipOK (P : Program) (ok : Nat → Bool) (inn : Bool) : List (Nat × LoopO) → List Code → Prop
  | [], [] => True
  | p :: r, c :: cs => LoopAt P ok inn p.2 c ∧ ZipOK P ok inn r cs
  | _, _ => False

theorem zip_get {P : Program} {n : Slots} {ok : Nat → Bool} {inn : Bool} (hn : n.ok = ok) {ρ : Option Nat} (hi : inn = true ∨ (ρ = none ∧ n.marks = true)) : ∀ {Λ : List (Nat × LoopO)} {cs : List Code}, ZipOK P ok inn Λ cs → cs.map headReg = Λ.map (fun p => p.1) → (Λ.map (fun p => p.1)).Nodup → ∀ d ∈ cs, ∀ l, lookL Λ (headReg d) = some l → CodeOK P n ρ l d
  | [], [], _, _, _, d, hd, _, _ => by cases hd
  | [], _ :: _, h, _, _, _, _, _, _ => h.elim
  | _ :: _, [], h, _, _, _, _, _, _ => h.elim
  | (j, l0) :: r, c :: cs, h, he, hnd, d, hd, l, hl => by
    simp only [List.map_cons, List.cons.injEq] at he
    simp only [List.map_cons, List.nodup_cons] at hnd
    simp only [lookL] at hl
    rcases List.mem_cons.1 hd with rfl | hd
    · rw [if_pos (by rw [he.1]; exact Nat.beq_refl _)] at hl
      injection hl with hl
      subst hl
      exact h.1 n hn ρ hi
    · have hmem : headReg d ∈ r.map (fun p => p.1) := by rw [← he.2]; exact List.mem_map_of_mem hd
      rw [if_neg (fun q => hnd.1 (by rw [Nat.eq_of_beq_eq_true q]; exact hmem))] at hl
      exact zip_get hn hi h.2 he.2 hnd.2 d hd l hl

theorem loopsAt_zip {P : Program} {ok : Nat → Bool} {inn : Bool} {Λ : List (Nat × LoopO)} {c : Code} {cs : List Code} (hc : topLoops c = cs) (hr : cs.map headReg = Λ.map (fun p => p.1)) (hn : nodupN (Λ.map (fun p => p.1)) = true) (h : ZipOK P ok inn Λ cs) : LoopsAt P ok inn Λ c :=
  fun n hok ρ hi => loopsIn_of c fun d hd => zip_get hok hi h hr (nodupN_iff hn) d (by rw [← hc]; exact hd)

/-- The calls, one by one. -/
def AllCalls (P : Program) : List (Nat × CallO) → Prop
  | [] => True
  | p :: r => CallOK P p.1 p.2 ∧ AllCalls P r

theorem callsOK_of {P : Program} {Δ : List (Nat × CallO)} (h : AllCalls P Δ) : CallsOK P (lookL Δ) := by
  intro f co hf
  have hm := lookL_mem hf
  clear hf
  induction Δ with
  | nil => cases hm
  | cons p r ih =>
    rcases List.mem_cons.1 hm with e | hm
    · subst e; exact h.1
    · exact ih h.2 hm

/-- A function's contract. -/
theorem runFn_ok {P : Program} {TT : Tab} (hm : P.follows .mixedOrders = true) (hP : TabOK P TT) {Δ : List (Nat × CallO)} (hΔ : AllCalls P Δ) {Λ : List (Nat × LoopO)} {f : Nat} {fn : Func} {ps : List SV} {rsh : Shape} {c : Code} (hF : FnOK P f fn c ps rsh) (hc : bodyOf fn = c)
    (hL : LoopsAt P (upTo fn.ntmps) false Λ c) : CallOK P f (mkCall ps rsh (runFn TT Δ Λ fn ps rsh)) := by
  subst hc
  exact mkCall_ok hm hP (callsOK_of hΔ) hF (fun base => hL (frameSlots base fn.ntmps) rfl none (.inr ⟨rfl, rfl⟩)) fun x y h => h

theorem stepFn_ok {P : Program} {TT : Tab} (hm : P.follows .mixedOrders = true) (hP : TabOK P TT) {Δ : List (Nat × CallO)} (hΔ : AllCalls P Δ) {Λ : List (Nat × LoopO)} {fn : Func} {r : Nat} {head : Shape} {ways : List Way} {ok : Nat → Bool} {inn : Bool}
    (hL : LoopsAt P ok inn Λ (loopOf fn r)) : LoopAt P ok inn (lp head ways (limL (stepFn TT Δ Λ ok fn r head ways))) (.loop (loopOf fn r)) := by
  intro n hn ρ hi
  subst hn
  exact lp_ok hm hP (callsOK_of hΔ) (hL n rfl ρ hi) fun _ _ h => limL_inv h
end Go.Proofs.Rf
