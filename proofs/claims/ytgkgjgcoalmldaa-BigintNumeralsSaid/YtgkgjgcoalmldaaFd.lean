/- Rf, part d: what an operation of the abstract evaluator says of the model's operation: operations that make no memory. -/
import Derived.Test.YtgkgjgcoalmldaaFc
import Derived.Lib.Strings
namespace Go.Proofs.Rf
open Go Go.RowKit

/-- What the table says of the program. -/
def UndOK (P : Program) (t : Nat) : TK → Prop
  | .int k => P.underlying t = some (.int k)
  | .bool => P.underlying t = some .bool
  | .str => P.underlying t = some .string
  | .sl e => P.underlying t = some (.slice e)
  | .ar n e => P.underlying t = some (.array n e)
  | .st fs => ∃ fields : Array Field, P.underlying t = some (.struct fields) ∧ fields.toList.map (fun f => (f.offset, f.type)) = fs
  | .oth => ∃ d, P.underlying t = some d ∧ (match d with | .struct _ | .array _ _ => true | _ => false) = false

structure InfoOK (P : Program) (t : Nat) (td : TD) : Prop where
  ex : ∃ i z, P.info? t = some i ∧ i.size = td.size ∧ i.bytes = td.bytes ∧ i.zero = some z ∧ (∀ w ok ι, RelL w ok ι td.zero z.cells.toList) ∧ (∀ u ∈ z.cells.toList, u.oneCell' = true) ∧
    ∀ ty, td.ty = some ty → ty.size = td.size ∧ ∀ w ok, Rz w ok ty ty.dflt z.cells.toList
  und : UndOK P t td.k
  zs : td.zero.length = td.size

def TabOK (P : Program) (TT : Tab) : Prop := ∀ t td, TT t = some td → InfoOK P t td

section
variable {P : Program} {TT : Tab} {w : World}

theorem run_und {t : Nat} {d : TypeDesc} (h : P.underlying t = some d) : (underlying t).run P w = .ok d w := by simp [underlying, h]

theorem run_agg (hP : TabOK P TT) {t : Nat} {td : TD} (h : TT t = some td) : (isAgg t).run P w = .ok td.k.agg w := by
  have hu := (hP t td h).und
  unfold isAgg
  cases hk : td.k <;> rw [hk] at hu
  · rw [show UndOK P t (.int _) = _ from rfl] at hu; simp [run_und hu, TK.agg]
  · rw [show UndOK P t .bool = _ from rfl] at hu; simp [run_und hu, TK.agg]
  · rw [show UndOK P t .str = _ from rfl] at hu; simp [run_und hu, TK.agg]
  · rw [show UndOK P t (.sl _) = _ from rfl] at hu; simp [run_und hu, TK.agg]
  · rw [show UndOK P t (.ar _ _) = _ from rfl] at hu; simp [run_und hu, TK.agg]
  · obtain ⟨fields, hu, _⟩ := hu; simp [run_und hu, TK.agg]
  · obtain ⟨d, hu, hd⟩ := hu
    cases d <;> first | (simp at hd; done) | simp [run_und hu, TK.agg]

theorem run_size (hP : TabOK P TT) {t : Nat} {td : TD} (h : TT t = some td) : (sizeOf t).run P w = .ok td.size w := by
  obtain ⟨i, z, h1, h2, _⟩ := (hP t td h).ex
  simp [sizeOf, typeInfo, h1, h2]

theorem addr_add (g o j : Nat) : (⟨g, o, none⟩ : Addr).add j = ⟨g, o + j, none⟩ := by unfold Addr.add; split <;> simp_all

theorem load_sound (hP : TabOK P TT) {ok : Nat → Prop} {ι : Nat → Option Value} {tt g o : Nat} {cs : List AV} {us : List Value} {x : AV} (hc : ∀ j u, us[j]? = some u → w.cell? ⟨g, o + j, none⟩ = some u)
    (hr : RelL w ok ι cs us) (hl : loadC TT tt cs = some x) : ∃ v, (loadVar tt ⟨g, o, none⟩).run P w = .ok v w ∧ RelV w ok ι x v := by
  unfold loadC at hl
  split at hl
  · rename_i td htd
    split at hl
    · rename_i hagg
      split at hl
      · rename_i hsz
        injection hl with hl
        subst hl
        have hlen := RelL_length hr
        refine ⟨.agg (us.take td.size).toArray, ?_, by simp only [RelV]; exact ⟨_, rfl, RelL_take hr _⟩⟩
        have h1 := run_loadCells_list (P := P) (w := w) ⟨g, o, none⟩ (us.take td.size) (fun j v hj => by
          rw [addr_add]
          refine hc j v ?_
          rw [List.getElem?_take] at hj
          split at hj
          · exact hj
          · cases hj)
        rw [List.length_take, Nat.min_eq_left (by omega)] at h1
        simp [loadVar, run_agg hP htd, hagg, run_size hP htd, h1]
      · cases hl
    · rename_i hagg
      have hagg : td.k.agg = false := by simpa using hagg
      split at hl
      · rename_i a r
        injection hl with hl
        subst hl
        obtain ⟨v, vr, e, h1, h2⟩ := RelL_cons.1 hr
        refine ⟨v, ?_, h1⟩
        have h3 := hc 0 v (by rw [e]; rfl)
        rw [Nat.add_zero] at h3
        simp [loadVar, run_agg hP htd, hagg, h3]
      · cases hl
  · cases hl

/-- The model's operation comes to a value (or to nothing) and a world. -/
def Runs (P : Program) (s : Sem Next) (w : World) (Post : Value → World → Prop) : Prop :=
  ∃ v w', (s.run P w = .ok (.value v) w' ∨ (s.run P w = .ok .skip w' ∧ v = undef)) ∧ Post v w'

theorem Runs.wp {o : Oper} {a : Act} {K : Act → World → Prop} {Q : Exit → Act → World → Prop} {Post : Value → World → Prop} (h : Runs P (execOp a.eval o) w Post)
    (hK : ∀ v w', Post v w' → K (a.put o.dst v) w') : o.wp P a w K Q := by
  obtain ⟨v, w', h1 | ⟨h1, h2⟩, h3⟩ := h
  · unfold Oper.wp
    rw [h1]
    exact hK _ _ h3
  · unfold Oper.wp
    rw [h1]
    subst h2
    exact hK _ _ h3
end

section
variable {X keep : Nat → Prop} {w0 w : World} {ι : Nat → Option Value} {C : Nat → Blk}

/-- What an operation's effect says of the world behind it. -/
def Out (X keep : Nat → Prop) (w0 : World) (ι : Nat → Option Value) (C : Nat → Blk) (w : World) (nb : Nat) (e : Eff) (v : Value) (w' : World) : Prop :=
  ∃ ι', HRel X keep w0 ι' (effC C nb e) w' ∧ Ext X ι C w ι' (effC C nb e) w' ∧ RelV w' (okb X w' ι' (effC C nb e)) ι' e.dst v ∧ ∀ k, ¬ (nb ≤ k ∧ k < nb + e.new.length) → ι' k = ι k

theorem Out.pure (h : HRel X keep w0 ι C w) {nb : Nat} {a : AV} {v : Value} (hv : RelV w (okb X w ι C) ι a v) : Out X keep w0 ι C w nb ⟨a, [], []⟩ v w :=
  ⟨ι, h, Ext.refl _ _ _ _, hv, fun _ _ => rfl⟩

/-- Where the effect is a value alone. -/
theorem Out.of_some (h : HRel X keep w0 ι C w) {nb : Nat} {a : AV} {e : Eff} (he : (some (⟨a, [], []⟩ : Eff)) = some e) {v : Value} (hv : RelV w (okb X w ι C) ι a v) : Out X keep w0 ι C w nb e v w := by
  injection he with he
  subst he
  exact Out.pure h hv

variable {ok : Nat → Prop}

theorem avc_rel (v : Value) : RelV w ok ι (avc v) v := by
  unfold avc
  split <;> simp only [RelV]
  · rfl
  · rfl
  · show [Value.string _] = _
    simp

theorem ev_rel {T : Nat → AV} {a : Act} (hT : ∀ t, RelV w ok ι (T t) (a.tmps.getD t undef)) (x : Operand) : RelV w ok ι (ev T x) (a.eval x) := by
  cases x with
  | tmp t => exact hT t
  | const v => exact avc_rel v
  | global g => simp only [ev, RelV]
  | func f => simp only [ev, RelV]; exact ⟨[], rfl, RelL_nil.2 rfl⟩

/-! ### Arithmetic -/
variable {P : Program}

theorem rel_int {k : IntKind} {n : Int} {v : Value} : RelV w ok ι (.d (.int k) n) v ↔ v = .int k n := by
  simp only [RelV]
  show [v] = _ ↔ _
  simp
theorem rel_bool {b : Bool} {v : Value} : RelV w ok ι (.d .bool b) v ↔ v = .bool b := by
  simp only [RelV]
  show [v] = _ ↔ _
  simp
theorem rel_str {s : List UInt8} {v : Value} : RelV w ok ι (.d .str s) v ↔ v = .string ⟨s.toArray⟩ := by
  simp only [RelV]
  show [v] = _ ↔ _
  simp

theorem toList_mk (s : List UInt8) : (⟨s.toArray⟩ : ByteArray).toList = s := by rw [ByteArray.toList_eq]
theorem size_mk (s : List UInt8) : (⟨s.toArray⟩ : ByteArray).size = s.length := by simp [ByteArray.size]
theorem append_mk (x y : List UInt8) : (⟨x.toArray⟩ : ByteArray) ++ ⟨y.toArray⟩ = ⟨(x ++ y).toArray⟩ := by
  apply ByteArray.ext
  simp

theorem eqGuard_int {op : BinOp} {t : TypeId} {x y : Operand} {k k' : IntKind} {a b : Int} : (eqGuard op t x y (.int k a) (.int k' b)).run P w = .ok () w := by
  unfold eqGuard
  split <;> simp
theorem eqGuard_bool {op : BinOp} {t : TypeId} {x y : Operand} {a b : Bool} : (eqGuard op t x y (.bool a) (.bool b)).run P w = .ok () w := by
  unfold eqGuard
  split <;> simp
theorem eqGuard_str {op : BinOp} {t : TypeId} {x y : Operand} {a b : ByteArray} : (eqGuard op t x y (.string a) (.string b)).run P w = .ok () w := by
  unfold eqGuard
  split <;> simp

theorem equalIn_bool {n : Nat} {t : TypeId} (hP : P.underlying t = some .bool) (a b : Bool) : (Op.equalIn (n + 1) t (.bool a) (.bool b)).run P w = .ok (a == b) w := by
  unfold Op.equalIn
  simp only [Sem.run_bind, run_und hP, Result.andThen_ok, Sem.run_pure]
theorem equal_bool {t : TypeId} (hP : P.underlying t = some .bool) (a b : Bool) : (Op.equal t (.bool a) (.bool b)).run P w = .ok (a == b) w := equalIn_bool (n := 9999) hP a b

/-- What a binary operation of the abstract evaluator says. -/
theorem eqGuard_slice {op : BinOp} {t : TypeId} {x y : Operand} {A B : Option Addr} {n m c d : Nat} : (eqGuard op t x y (.slice A n c) (.slice B m d)).run P w = .ok () w := by
  unfold eqGuard
  split <;> simp

theorem equalIn_nil {n t : Nat} {e : Nat} (h : P.underlying t = some (.slice e)) {A : Option Addr} {m c : Nat} : (Op.equalIn (n + 1) t (.slice A m c) (.slice none 0 0)).run P w = .ok A.isNone w := by
  simp only [Op.equalIn, Sem.run_bind, run_und h, Result.andThen_ok]
  cases A <;> rfl

theorem equal_nil {t : TypeId} {e : Nat} (h : P.underlying t = some (.slice e)) {A : Option Addr} {n c : Nat} : (Op.equal t (.slice A n c) (.slice none 0 0)).run P w = .ok A.isNone w := equalIn_nil (n := 9999) h

theorem bin_sound {bt st : Bool} {t : TypeId} (hP : bt = true → P.underlying t = some .bool) (hS : st = true → ∃ e, P.underlying t = some (.slice e)) {op : BinOp} {a b : AV} {va vb : Value} {x y : Operand} (ha : RelV w ok ι a va) (hb : RelV w ok ι b vb) {r : AV} (h : bin bt st op a b some = some r) :
    ∃ v, (do eqGuard op t x y va vb; binOp op t va vb : Sem Value).run P w = .ok v w ∧ RelV w ok ι r v := by
  unfold bin at h
  split at h
  · rename_i k xv k' yv
    rw [rel_int] at ha hb
    subst ha; subst hb
    simp only [Sem.run_bind, eqGuard_int, Result.andThen_ok]
    split at h
    · split at h
      · cases h
      · rename_i hy
        injection h with h; subst h
        exact ⟨_, by simp [binOp, Op.shift, hy], rel_int.2 rfl⟩
    · split at h
      · cases h
      · rename_i hy
        injection h with h; subst h
        exact ⟨_, by simp [binOp, Op.shift, hy], rel_int.2 rfl⟩
    all_goals
      split at h
      · rename_i hk
        obtain rfl := ikEq_eq hk
        first
          | (injection h with h; subst h
             first
               | (refine ⟨_, ?_, rel_int.2 rfl⟩; simp [binOp, Op.intArith]; done)
               | (refine ⟨_, ?_, rel_int.2 rfl⟩; simp [binOp, Op.intBits, bitop]; done)
               | (refine ⟨_, ?_, rel_bool.2 rfl⟩; simp [binOp, Op.intCmp]; done))
          | (split at h
             · cases h
             · rename_i hy
               injection h with h; subst h
               exact ⟨_, by simp [binOp, Op.intDiv, hy], rel_int.2 rfl⟩)
      · cases h
  · rename_i xv yv
    rw [rel_bool] at ha hb
    subst ha; subst hb
    simp only [Sem.run_bind, eqGuard_bool, Result.andThen_ok]
    split at h
    · split at h
      · rename_i hbt
        injection h with h; subst h
        refine ⟨_, ?_, rel_bool.2 rfl⟩
        simp only [binOp, Sem.run_bind, equal_bool (hP hbt), Result.andThen_ok, Sem.run_pure]
      · cases h
    · split at h
      · rename_i hbt
        injection h with h; subst h
        refine ⟨_, ?_, rel_bool.2 rfl⟩
        simp only [binOp, Sem.run_bind, equal_bool (hP hbt), Result.andThen_ok, Sem.run_pure]
      · cases h
    · cases h
  · rename_i ty xv
    simp only [RelV] at ha hb
    obtain ⟨A, c, e1, e2, e3⟩ := ha
    have e1 : va = .slice A xv.length c := by injection e1
    subst e1; subst hb
    simp only [Sem.run_bind, eqGuard_slice, Result.andThen_ok]
    split at h
    · split at h
      · rename_i hst
        obtain ⟨e, he⟩ := hS hst
        split at h
        · rename_i hl
          injection h with h; subst h
          obtain ⟨g, o, cs, q, _⟩ := e3 hl
          subst q
          exact ⟨_, by simp only [binOp, Sem.run_bind, equal_nil he, Result.andThen_ok, Sem.run_pure]; rfl, rel_bool.2 rfl⟩
        · injection h with h; subst h
          refine ⟨.bool A.isNone, ?_, by simp only [RelV]; exact ⟨_, rfl⟩⟩
          simp only [binOp, Sem.run_bind, equal_nil he, Result.andThen_ok, Sem.run_pure]
      · cases h
    · split at h
      · rename_i hst
        obtain ⟨e, he⟩ := hS hst
        split at h
        · rename_i hl
          injection h with h; subst h
          obtain ⟨g, o, cs, q, _⟩ := e3 hl
          subst q
          exact ⟨_, by simp only [binOp, Sem.run_bind, equal_nil he, Result.andThen_ok, Sem.run_pure]; rfl, rel_bool.2 rfl⟩
        · injection h with h; subst h
          refine ⟨.bool (!A.isNone), ?_, by simp only [RelV]; exact ⟨_, rfl⟩⟩
          simp only [binOp, Sem.run_bind, equal_nil he, Result.andThen_ok, Sem.run_pure]
      · cases h
    · cases h
  · simp only [RelV] at ha hb
    subst ha; subst hb
    simp only [Sem.run_bind, eqGuard_slice, Result.andThen_ok]
    split at h
    · split at h
      · rename_i hst
        obtain ⟨e, he⟩ := hS hst
        injection h with h; subst h
        exact ⟨_, by simp only [binOp, Sem.run_bind, equal_nil he, Result.andThen_ok, Sem.run_pure]; rfl, rel_bool.2 rfl⟩
      · cases h
    · split at h
      · rename_i hst
        obtain ⟨e, he⟩ := hS hst
        injection h with h; subst h
        exact ⟨_, by simp only [binOp, Sem.run_bind, equal_nil he, Result.andThen_ok, Sem.run_pure]; rfl, rel_bool.2 rfl⟩
      · cases h
    · cases h
  · rename_i xv yv
    rw [rel_str] at ha hb
    subst ha; subst hb
    simp only [Sem.run_bind, eqGuard_str, Result.andThen_ok]
    split at h
    case h_7 =>
      split at h
      · rename_i hl
        injection h with h; subst h
        refine ⟨_, ?_, rel_str.2 rfl⟩
        have h1 : ¬ (((⟨xv.toArray⟩ : ByteArray).size + (⟨yv.toArray⟩ : ByteArray).size : Nat) : Int) > IntKind.i64.max := by
          rw [size_mk, size_mk]
          have hm : IntKind.i64.max = 9223372036854775807 := by decide
          have hL : LIM = 4294967296 := rfl
          rw [hm]
          omega
        simp only [binOp, Op.stringOp, if_neg h1, Sem.run_pure, append_mk]
      · cases h
    all_goals first
      | (cases h
         refine ⟨_, ?_, rel_bool.2 rfl⟩
         simp only [binOp, Op.stringOp, toList_mk, Sem.run_pure]; done)
      | (cases h; done)
  · cases h

theorem uny_sound {op : UnOp} {a : AV} {va : Value} (ha : RelV w ok ι a va) {r : AV} (h : uny op a some = some r) :
    ∃ v, (Op.unary op va).run P w = .ok v w ∧ RelV w ok ι r v := by
  unfold uny at h
  split at h
  · rw [rel_int] at ha
    subst ha
    split at h
    · injection h with h; subst h
      exact ⟨_, by simp [Op.unary, Op.intArith], rel_int.2 rfl⟩
    · injection h with h; subst h
      refine ⟨_, ?_, rel_int.2 rfl⟩
      simp [Op.unary, Op.intBits, bitop]
    · cases h
  · rw [rel_bool] at ha
    subst ha
    split at h
    · injection h with h; subst h
      exact ⟨_, by simp [Op.unary], rel_bool.2 rfl⟩
    · cases h
  · cases h

end
end Go.Proofs.Rf
