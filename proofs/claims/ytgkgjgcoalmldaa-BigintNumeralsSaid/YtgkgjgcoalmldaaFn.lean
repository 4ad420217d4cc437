/- Rf, part n: a region that draws its order: every order comes to what the text's order comes to. -/
import Derived.Test.YtgkgjgcoalmldaaFm
namespace Go.Proofs.Rf
open Go Go.RowKit

/-- One operation of a run in the text's order: the state ahead of it, what it comes to. -/
structure Ent where
  i : Nat
  o : Oper
  T : Nat → AV
  C : Nat → Blk
  nb : Nat
  skip : Bool
  e : Eff

def Ent.dv (x : Ent) : AV := if x.skip = true then .ud else x.e.dst
def Ent.C' (x : Ent) : Nat → Blk := if x.skip = true then x.C else effC x.C x.nb x.e
def Ent.nb' (x : Ent) : Nat := if x.skip = true then x.nb else x.nb + x.e.new.length
def Ent.ids (x : Ent) : List Nat := touchOf x.o x.T
def Ent.log (x : Ent) : LogE := ⟨x.i, x.ids, updIds x.e.upd, rangeN x.nb x.e.new.length⟩

def GuardOn (ops : Array Oper) (T : Nat → AV) (o : Oper) : Prop := o.guard = none ∨ ∃ j want g, o.guard = some (j, want) ∧ (ops[j]?).bind (·.dst) = some g ∧ T g = .d .bool want
def GuardOff (ops : Array Oper) (T : Nat → AV) (o : Oper) : Prop := ∃ j want g, o.guard = some (j, want) ∧ (ops[j]?).bind (·.dst) = some g ∧ (T g = .d .bool (!want) ∨ T g = .ud)

section
variable {X keep : Nat → Prop} {w0 w : World} {ι : Nat → Option Value} {C : Nat → Blk} {P : Program} {TT : Tab} {Δ : Nat → Option CallO} {n : Nat → Bool}

def Tr (TT : Tab) (Δ : Nat → Option CallO) (n : Nat → Bool) (ops : Array Oper) : List (Nat × Oper) → (Nat → AV) → (Nat → Blk) → Nat → List Ent → (Nat → AV) → (Nat → Blk) → Nat → Prop
  | [], T, C, nb, es, T', C', nb' => es = [] ∧ T' = T ∧ C' = C ∧ nb' = nb
  | p :: r, T, C, nb, es, T', C', nb' => ∃ x xs, es = x :: xs ∧ x.i = p.1 ∧ x.o = p.2 ∧ x.T = T ∧ x.C = C ∧ x.nb = nb ∧ dstOk n x.o = true ∧
      (if x.skip = true then GuardOff ops T x.o else GuardOn ops T x.o ∧ evOp TT Δ x.o (resT (opTmps x.o.op.operands.toList) T) (resC x.ids C) nb (R := Eff) some = some x.e) ∧
      Tr TT Δ n ops r (effT T x.o.dst x.dv) x.C' x.nb' xs T' C' nb'

def logsOf : List Ent → List LogE
  | [] => []
  | x :: r => if x.skip = true then logsOf r else logsOf r ++ [x.log]

theorem trace (hΔ : CallsOK P Δ) {R : Type} {ops : Array Oper} {r : R} {K : St → List LogE → Option R} : ∀ (l : List (Nat × Oper)) (s : St) (lg : List LogE), evOps TT Δ n ops true l s lg K = some r →
    ∃ es s' , Tr TT Δ n ops l (getT s.tm) (getB s.bl) s.bl.length es (getT s'.tm) (getB s'.bl) s'.bl.length ∧ K s' (logsOf es ++ lg) = some r
  | [], s, lg, h => ⟨[], s, ⟨rfl, rfl, rfl, rfl⟩, h⟩
  | (i, o) :: rest, s, lg, hev => by
    simp only [evOps] at hev
    split at hev
    · rename_i hd
      have hrun : ∀ (s0 : St), getT s0.tm = getT s.tm → s0.bl = s.bl → GuardOn ops (getT s.tm) o → (evOpD TT Δ true o s0 fun e => if updLt s0.bl.length e.upd = true then evOps TT Δ n ops true rest (stepE o s0 e) (logOf i o s0 e :: lg) K else none) = some r →
          ∃ es s' , Tr TT Δ n ops ((i, o) :: rest) (getT s.tm) (getB s.bl) s.bl.length es (getT s'.tm) (getB s'.bl) s'.bl.length ∧ K s' (logsOf es ++ lg) = some r := by
        intro s0 h1 h2 hg hev
        unfold evOpD at hev
        rw [if_pos rfl, evOp_nat hΔ] at hev
        obtain ⟨e, he, hev⟩ := bind_some' hev
        split at hev
        · rename_i hu
          obtain ⟨es, s', ht, hk⟩ := trace hΔ rest _ _ hev
          rw [stepE_tm, stepE_bl, getB_eff hu, h1] at ht
          rw [h1, h2] at he
          refine ⟨⟨i, o, getT s.tm, getB s.bl, s.bl.length, false, e⟩ :: es, s', ⟨_, _, rfl, rfl, rfl, rfl, rfl, rfl, hd, ?_, ?_⟩, ?_⟩
          · simp only [Bool.false_eq_true, if_false]
            exact ⟨hg, he⟩
          · rw [h2, List.length_append, updB_length] at ht
            exact ht
          · show K s' ((logsOf es ++ [_]) ++ lg) = some r
            rw [List.append_assoc]
            unfold logOf at hk
            rw [h1, h2] at hk
            exact hk
        · cases hev
      have hskip : ∀ (s0 : St), getT s0.tm = getT s.tm → s0.bl = s.bl → GuardOff ops (getT s.tm) o → evOps TT Δ n ops true rest (stepS o s0) lg K = some r →
          ∃ es s' , Tr TT Δ n ops ((i, o) :: rest) (getT s.tm) (getB s.bl) s.bl.length es (getT s'.tm) (getB s'.bl) s'.bl.length ∧ K s' (logsOf es ++ lg) = some r := by
        intro s0 h1 h2 hg hev
        obtain ⟨es, s', ht, hk⟩ := trace hΔ rest _ _ hev
        rw [stepS_tm, stepS_bl, h1, h2] at ht
        exact ⟨⟨i, o, getT s.tm, getB s.bl, s.bl.length, true, ⟨.un, [], []⟩⟩ :: es, s', ⟨_, _, rfl, rfl, rfl, rfl, rfl, rfl, hd, by simp only [if_true]; exact hg, ht⟩, hk⟩
      have hknown : ∀ g b, getT s.tm g = .d .bool b → getT ((g, .d .bool b) :: s.tm) = getT s.tm := by
        intro g b hg
        rw [getT_cons]
        funext t
        unfold effT
        split
        · rename_i e
          injection e with e
          subst e
          exact hg.symm
        · rfl
      split at hev
      · rename_i hg
        exact hrun s rfl rfl (.inl hg) hev
      · rename_i j want hg
        split at hev
        · cases hev
        · rename_i g hgd
          split at hev
          · rename_i b hb
            split at hev
            · rename_i hbt
              subst hbt
              split at hev
              · rename_i hwt
                subst hwt
                exact hrun ⟨(g, .d .bool true) :: s.tm, s.bl⟩ (hknown g _ hb) rfl (.inr ⟨j, true, g, hg, hgd, hb⟩) hev
              · rename_i hwt
                have hwt : want = false := by simpa using hwt
                subst hwt
                exact hskip ⟨(g, .d .bool true) :: s.tm, s.bl⟩ (hknown g _ hb) rfl ⟨j, false, g, hg, hgd, .inl hb⟩ hev
            · rename_i hbt
              have hbt : b = false := by simpa using hbt
              subst hbt
              split at hev
              · rename_i hwt
                subst hwt
                exact hskip ⟨(g, .d .bool false) :: s.tm, s.bl⟩ (hknown g _ hb) rfl ⟨j, true, g, hg, hgd, .inl hb⟩ hev
              · rename_i hwt
                have hwt : want = false := by simpa using hwt
                subst hwt
                exact hrun ⟨(g, .d .bool false) :: s.tm, s.bl⟩ (hknown g _ hb) rfl (.inr ⟨j, false, g, hg, hgd, hb⟩) hev
          · rename_i hb
            exact hskip s rfl rfl ⟨j, want, g, hg, hgd, .inr hb⟩ hev
          · cases hev
    · cases hev

/-! ### The state behind some of the operations -/
def selT (S : Nat → Bool) : List Ent → (Nat → AV) → Nat → AV
  | [], T => T
  | x :: r, T => selT S r (if S x.i = true then effT T x.o.dst x.dv else T)

def selC (S : Nat → Bool) : List Ent → (Nat → Blk) → Nat → Blk
  | [], C => C
  | x :: r, C => selC S r (if S x.i = true ∧ x.skip = false then effC C x.nb x.e else C)

theorem selT_congr {S S' : Nat → Bool} {t : Nat} : ∀ (es : List Ent) (T T' : Nat → AV), T t = T' t → (∀ x ∈ es, x.o.dst = some t → S x.i = S' x.i) → selT S es T t = selT S' es T' t
  | [], _, _, h, _ => h
  | x :: r, T, T', h, hs => by
    refine selT_congr r _ _ ?_ (fun y hy => hs y (List.mem_cons_of_mem _ hy))
    have h1 := hs x (List.mem_cons_self ..)
    by_cases hd : x.o.dst = some t
    · rw [h1 hd]
      split
      · simp only [effT, hd, if_true]
      · exact h
    · have e1 : ∀ T : Nat → AV, effT T x.o.dst x.dv t = T t := fun T => by simp only [effT, hd, if_false]
      split <;> split <;> simp only [e1, h]

theorem selC_congr {S S' : Nat → Bool} {k : Nat} : ∀ (es : List Ent) (C C' : Nat → Blk), C k = C' k → (∀ x ∈ es, x.skip = false → wrote x.nb x.e k → S x.i = S' x.i) → selC S es C k = selC S' es C' k
  | [], _, _, h, _ => h
  | x :: r, C, C', h, hs => by
    refine selC_congr r _ _ ?_ (fun y hy => hs y (List.mem_cons_of_mem _ hy))
    have h1 := hs x (List.mem_cons_self ..)
    by_cases hk : x.skip = false
    · by_cases hd : wrote x.nb x.e k
      · rw [h1 hk hd]
        split
        · exact effC_congr (.inr hd)
        · exact h
      · have e1 : ∀ C : Nat → Blk, effC C x.nb x.e k = C k := fun C => effC_other hd
        split <;> split <;> simp only [e1, h]
    · rw [if_neg (fun q => hk q.2), if_neg (fun q => hk q.2)]
      exact h

theorem selT_none {S : Nat → Bool} {t : Nat} : ∀ (es : List Ent) (T : Nat → AV), (∀ x ∈ es, x.o.dst = some t → S x.i = false) → selT S es T t = T t
  | [], _, _ => rfl
  | x :: r, T, h => by
    show selT S r _ t = T t
    rw [selT_none r _ (fun y hy => h y (List.mem_cons_of_mem _ hy))]
    split
    · rename_i hs
      by_cases hd : x.o.dst = some t
      · rw [h x (List.mem_cons_self ..) hd] at hs; cases hs
      · simp only [effT, hd, if_false]
    · rfl

theorem selC_none {S : Nat → Bool} {k : Nat} : ∀ (es : List Ent) (C : Nat → Blk), (∀ x ∈ es, x.skip = false → wrote x.nb x.e k → S x.i = false) → selC S es C k = C k
  | [], _, _ => rfl
  | x :: r, C, h => by
    show selC S r _ k = C k
    rw [selC_none r _ (fun y hy => h y (List.mem_cons_of_mem _ hy))]
    split
    · rename_i hs
      by_cases hd : wrote x.nb x.e k
      · rw [h x (List.mem_cons_self ..) hs.2 hd] at hs; cases hs.1
      · exact effC_other hd
    · rfl

theorem selT_append (S : Nat → Bool) : ∀ (es fs : List Ent) (T : Nat → AV), selT S (es ++ fs) T = selT S fs (selT S es T)
  | [], _, _ => rfl
  | _ :: r, fs, _ => selT_append S r fs _
theorem selC_append (S : Nat → Bool) : ∀ (es fs : List Ent) (C : Nat → Blk), selC S (es ++ fs) C = selC S fs (selC S es C)
  | [], _, _ => rfl
  | _ :: r, fs, _ => selC_append S r fs _

/-- What a trace tells of its entries. -/
structure EntsOK (TT : Tab) (Δ : Nat → Option CallO) (n : Nat → Bool) (ops : Array Oper) (i0 : Nat) (T : Nat → AV) (C : Nat → Blk) (nb : Nat) (es : List Ent) : Prop where
  split : ∀ x es1 es2, es = es1 ++ x :: es2 → x.T = selT (fun _ => true) es1 T ∧ x.C = selC (fun _ => true) es1 C ∧ x.i = i0 + es1.length ∧ nb ≤ x.nb ∧ dstOk n x.o = true ∧
    (∀ y ∈ es1, y.i < x.i ∧ y.nb' ≤ x.nb) ∧ (∀ y ∈ es2, x.i < y.i ∧ x.nb' ≤ y.nb) ∧
    (if x.skip = true then GuardOff ops x.T x.o else GuardOn ops x.T x.o ∧ evOp TT Δ x.o (resT (opTmps x.o.op.operands.toList) x.T) (resC x.ids x.C) x.nb (R := Eff) some = some x.e)

theorem Ent.nb_le (x : Ent) : x.nb ≤ x.nb' := by unfold Ent.nb'; split <;> omega

theorem Tr.ents {ops : Array Oper} : ∀ (l : List Oper) (i0 : Nat) (T : Nat → AV) (C : Nat → Blk) (nb : Nat) (es : List Ent) (T' : Nat → AV) (C' : Nat → Blk) (nb' : Nat), Tr TT Δ n ops (zipN i0 l) T C nb es T' C' nb' →
    EntsOK TT Δ n ops i0 T C nb es ∧ es.map (·.o) = l ∧ T' = selT (fun _ => true) es T ∧ C' = selC (fun _ => true) es C ∧ nb ≤ nb' ∧ ∀ y ∈ es, i0 ≤ y.i ∧ nb ≤ y.nb ∧ y.nb' ≤ nb'
  | [], i0, T, C, nb, es, T', C', nb', h => by
    obtain ⟨rfl, rfl, rfl, rfl⟩ := h
    exact ⟨⟨fun x es1 es2 h => by simp at h⟩, rfl, rfl, rfl, Nat.le_refl _, by simp⟩
  | o :: r, i0, T, C, nb, es, T', C', nb', h => by
    obtain ⟨x, xs, rfl, h1, h2, h3, h4, h5, h6, h7, h8⟩ := h
    obtain ⟨k1, k2, k3, k4, k5, k6⟩ := Tr.ents r (i0 + 1) _ _ _ xs T' C' nb' h8
    have hx := x.nb_le
    have eT : (if (fun _ => true) x.i = true then effT T x.o.dst x.dv else T) = effT T x.o.dst x.dv := by simp
    have eC : (if (fun _ => true) x.i = true ∧ x.skip = false then effC C x.nb x.e else C) = x.C' := by
      unfold Ent.C'
      cases hsk : x.skip
      · simp [h4]
      · simp [h4]
    refine ⟨⟨fun y es1 es2 he => ?_⟩, by rw [List.map_cons, k2, h2], ?_, ?_, by omega, ?_⟩
    · cases es1 with
      | nil =>
        simp only [List.nil_append, List.cons.injEq] at he
        obtain ⟨rfl, rfl⟩ := he
        refine ⟨h3, h4, h1, by omega, h6, by simp, fun y hy => ?_, ?_⟩
        · obtain ⟨q1, q2, _⟩ := k6 y hy
          rw [h1]
          exact ⟨q1, q2⟩
        · rw [h3, h4, h5]; exact h7
      | cons z es1 =>
        simp only [List.cons_append, List.cons.injEq] at he
        obtain ⟨rfl, rfl⟩ := he
        obtain ⟨q1, q2, q3, q4, q5, q6, q7, q8⟩ := k1.split y es1 es2 rfl
        refine ⟨?_, ?_, by rw [q3, List.length_cons]; omega, by omega, q5, fun u hu => ?_, q7, q8⟩
        · rw [q1]; show _ = selT _ es1 _; rw [eT]
        · rw [q2]; show _ = selC _ es1 _; rw [eC]
        · rcases List.mem_cons.1 hu with rfl | hu
          · rw [h1, q3]; exact ⟨by omega, q4⟩
          · exact q6 u hu
    · rw [k3]; show _ = selT _ xs _; rw [eT]
    · rw [k4]; show _ = selC _ xs _; rw [eC]
    · intro y hy
      rcases List.mem_cons.1 hy with rfl | hy
      · exact ⟨by rw [h1]; exact Nat.le_refl _, by omega, k5⟩
      · obtain ⟨q1, q2, q3⟩ := k6 y hy
        exact ⟨by omega, by omega, q3⟩
end
end Go.Proofs.Rf
