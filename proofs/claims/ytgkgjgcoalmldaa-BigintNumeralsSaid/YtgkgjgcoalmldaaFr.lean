/- Rf, part r: code: its evaluation is what the program does. -/
import Derived.Test.YtgkgjgcoalmldaaFq
namespace Go.Proofs.Rf
open Go Go.RowKit

def pairK : Ex → St → Option (Ex × St) := fun e s => some (e, s)

/-- A loop's evaluation goes on alike under any continuation. -/
def LoopNat (l : LoopO) : Prop := ∀ (s : St) (R : Type) (K : Ex → St → Option R), l s R K = (l s (Ex × St) pairK).bind fun p => K p.1 p.2

section
variable {P : Program} {TT : Tab} {Δ : Nat → Option CallO} {n : Nat → Bool}

theorem bind_congr' {α β : Type} {x : Option α} {f g : α → Option β} (h : ∀ a, f a = g a) : x.bind f = x.bind g := by
  cases x with
  | none => rfl
  | some a => exact h a

theorem evOpD_nat (hΔ : CallsOK P Δ) {R : Type} (draw : Bool) (o : Oper) (s : St) (K : Eff → Option R) : evOpD TT Δ draw o s K = (evOpD TT Δ draw o s some).bind K := by
  unfold evOpD
  split <;> exact evOp_nat hΔ ..

theorem evOps_nat (hΔ : CallsOK P Δ) {R : Type} {ops : Array Oper} {draw : Bool} : ∀ (l : List (Nat × Oper)) (s : St) (lg : List LogE) (K : St → List LogE → Option R),
    evOps TT Δ n ops draw l s lg K = (evOps TT Δ n ops draw l s lg fun s lg => some (s, lg)).bind fun p => K p.1 p.2
  | [], _, _, _ => rfl
  | (i, o) :: r, s, lg, K => by
    have run : ∀ s0 : St, (evOpD TT Δ draw o s0 fun e => if updLt s0.bl.length e.upd = true then evOps TT Δ n ops draw r (stepE o s0 e) (logOf i o s0 e :: lg) K else none) =
        (evOpD TT Δ draw o s0 fun e => if updLt s0.bl.length e.upd = true then evOps TT Δ n ops draw r (stepE o s0 e) (logOf i o s0 e :: lg) (fun s lg => some (s, lg)) else none).bind fun p => K p.1 p.2 := by
      intro s0
      rw [evOpD_nat hΔ, evOpD_nat hΔ (R := St × List LogE), Option.bind_assoc]
      refine bind_congr' fun e => ?_
      split
      · exact evOps_nat hΔ r _ _ K
      · rfl
    have skip : ∀ s0 : St, evOps TT Δ n ops draw r s0 lg K = (evOps TT Δ n ops draw r s0 lg fun s lg => some (s, lg)).bind fun p => K p.1 p.2 := fun s0 => evOps_nat hΔ r _ _ K
    unfold evOps
    split
    · split
      · exact run s
      · split
        · rfl
        · split
          · split
            · split
              · exact run _
              · exact skip _
            · split
              · exact skip _
              · exact run _
          · exact skip _
          · rfl
    · rfl

end

/-! ### The program's code -/
def Ex.out : Ex → Exit
  | .nm => .normal
  | .ex j => .exit j
  | .rt => .ret

theorem wp_loop_ix {P : Program} {F : Fence} {dp : Nat} {c : Code} {Q : Exit → Act → World → Prop} (I : Nat → Act → World → Prop) (h0 : ∀ a w, ¬ I 0 a w)
    (round : ∀ k a w, I (k + 1) a w → c.wpIn F dp P (Exit.then (fun a' w' => I k a' w') Q) a w) {k : Nat} {a : Act} {w : World} (h : I k a w) : (Code.loop c).wpIn F dp P Q a w := by
  intro b t cs hro hb hr
  have key : ∀ k a w, I k a w → ∃ e a' w', Q e a' w' ∧ ArrivesIn (Machine.fenced P F) P (lone (b.atR a (.code c :: .inLoop c :: t)) cs w) b t cs e a' w' := by
    intro k
    induction k with
    | zero => exact fun a w hI => (h0 a w hI).elim
    | succ k ih =>
      intro a w hI
      obtain ⟨e, a₁, w₁, hq, harr⟩ := round k a w hI b (.inLoop c :: t) cs hro hb hr
      cases e with
      | normal =>
        obtain ⟨e₂, a₂, w₂, hq₂, harr₂⟩ := ih a₁ w₁ hq
        exact ⟨e₂, a₂, w₂, hq₂, .of_steps (StepsIn.trans harr (.one (fenced_calm hb hr rfl) stepR_inLoop)) harr₂⟩
      | exit id => exact ⟨_, a₁, w₁, hq, .pass (x := .inLoop c) rfl (fun _ _ => .inl (by simp)) harr⟩
      | goto l => exact ⟨_, a₁, w₁, hq, .pass (x := .inLoop c) rfl (fun _ _ => .inl (by simp)) harr⟩
      | ret => exact ⟨_, a₁, w₁, hq, .pass (x := .inLoop c) rfl (fun _ _ => .inl (by simp)) harr⟩
      | panic ch => exact ⟨_, a₁, w₁, hq, .pass (x := .inLoop c) rfl (fun _ _ => .inl (by simp)) harr⟩
      | outgrown => exact ⟨_, a₁, w₁, hq, .pass (x := .inLoop c) rfl (fun _ _ => .inl (by simp)) harr⟩
  obtain ⟨e, a', w', hq, harr⟩ := key k a w h
  exact ⟨e, a', w', hq, .of_steps (.one (fenced_calm hb hr rfl) stepR_loop) harr⟩

/-- A later point to which things are kept. -/
structure Later (keep : Nat → Prop) (w0 : World) (keep' : Nat → Prop) (w0' : World) : Prop where
  mono : ∀ b, keep b → keep' b
  kept : Kept keep w0 w0'

theorem Later.refl (keep : Nat → Prop) (w0 : World) : Later keep w0 keep w0 := ⟨fun _ h => h, Kept.refl _ _⟩
theorem Later.trans {k1 k2 k3 : Nat → Prop} {w1 w2 w3 : World} (h : Later k1 w1 k2 w2) (k : Later k2 w2 k3 w3) : Later k1 w1 k3 w3 :=
  ⟨fun b hb => k.mono b (h.mono b hb), h.kept.trans (k.kept.weak h.mono)⟩

section
variable {P : Program} {TT : Tab} {Δ : Nat → Option CallO} {n : Slots}

/-- A loop's evaluation is what the loop does. -/
def CodeOK (P : Program) (n : Slots) (ρ : Option Nat) (l : LoopO) (c : Code) : Prop :=
  ∀ (dp : Nat) (X keep : Nat → Prop) (w0 w : World) (ι : Nat → Option Value) (s : St) (a : Act) (R : Type) (K : Ex → St → Option R) (r : R) (Q : Exit → Act → World → Prop),
    SRel X keep w0 n ι s a w → l s R K = some r → (∀ e s' a' w' ι' keep' w0', Later keep w0 keep' w0' → K e s' = some r → SRel X keep' w0' n ι' s' a' w' → Q e.out a' w') → c.wpIn (WF ρ) dp P Q a w

def LoopOK (P : Program) (n : Slots) (ρ : Option Nat) (l : LoopO) (c : Code) : Prop := CodeOK P n ρ l (.loop c)

/-- The loops of a text are told of. -/
def LoopsIn (P : Program) (n : Slots) (ρ : Option Nat) (Λ : Nat → Option LoopO) : Code → Prop
  | .seq a b => LoopsIn P n ρ Λ a ∧ LoopsIn P n ρ Λ b
  | .cond _ a b => LoopsIn P n ρ Λ a ∧ LoopsIn P n ρ Λ b
  | .block _ c => LoopsIn P n ρ Λ c
  | .scope c => LoopsIn P n ρ Λ c
  | .loop c => ∀ l, Λ (firstReg c) = some l → LoopOK P n ρ l c
  | .rangeFunc g ps asg body => ∀ l, Λ (firstReg asg) = some l → CodeOK P n ρ l (.rangeFunc g ps asg body)
  | _ => True

theorem stepR_scope' {P : Program} {b : Frame} {a : Act} {k : List Item} {cs : List Frame} {w : World} {c : Code} : step P (lone (b.atR a (.code (.scope c) :: k)) cs w) = .next (lone (b.atR a (.code c :: .inScope c :: k)) cs w) :=
  step_lone_go (by simp [stepG, stepG.exec, Frame.atR])
theorem stepR_inScope' {P : Program} {b : Frame} {a : Act} {k : List Item} {cs : List Frame} {w : World} {c : Code} : step P (lone (b.atR a (.inScope c :: k)) cs w) = .next (lone (b.atR a k) cs w) :=
  step_lone_go (by simp [stepG, stepG.exec, Frame.atR])

def noJump (Q : Exit → Act → World → Prop) : Exit → Act → World → Prop
  | .goto _, _, _ => False
  | e, a, w => Q e a w

/-- A scope without jumps. -/
theorem wpIn_scope' {F : Fence} {d : Nat} {P : Program} {Q : Exit → Act → World → Prop} {a : Act} {w : World} {c : Code} (h : c.wpIn F d P (noJump Q) a w) : (Code.scope c).wpIn F d P Q a w := by
  intro b k cs hro hb hr
  have h0 : (lone (b.atR a (.code (.scope c) :: k)) cs w).fenced P F := fenced_calm hb hr rfl
  obtain ⟨e, a₁, w₁, hq, harr⟩ := h b (.inScope c :: k) cs hro hb hr
  cases e with
  | normal => exact ⟨.normal, a₁, w₁, hq, .head h0 stepR_scope' (StepsIn.trans harr (.one (fenced_calm hb hr rfl) stepR_inScope'))⟩
  | exit id =>
    have hx : exitTo id (.inScope c :: k) = exitTo id k := by simp [exitTo]
    exact ⟨.exit id, a₁, w₁, hq, fun k' hk => .head h0 stepR_scope' (harr.1 k' (by rw [hx]; exact hk)),
      fun hr' hk => let ⟨k₁, h1, h2⟩ := harr.2 hr' (by rw [hx]; exact hk); ⟨k₁, h1, .head h0 stepR_scope' h2⟩⟩
  | goto l => exact hq.elim
  | ret => exact ⟨_, a₁, w₁, hq, .of_steps (.one h0 stepR_scope') harr⟩
  | panic ch => exact ⟨_, a₁, w₁, hq, .of_steps (.one h0 stepR_scope') harr⟩
  | outgrown => exact ⟨_, a₁, w₁, hq, .of_steps (.one h0 stepR_scope') harr⟩

theorem evC_sound (hm : P.follows .mixedOrders = true) (hP : TabOK P TT) (hΔ : CallsOK P Δ) {Λ : Nat → Option LoopO} {X : Nat → Prop} {ρ : Option Nat} {dp : Nat} : ∀ (c : Code), LoopsIn P n ρ Λ c → ∀ {R : Type} {r : R} (s : St) (K : Ex → St → Option R) (Q : Exit → Act → World → Prop) (a : Act) (w : World) (ι : Nat → Option Value) (keep : Nat → Prop) (w0 : World),
    SRel X keep w0 n ι s a w → evC TT Δ n.ok Λ c s K = some r → (∀ e s' a' w' ι' keep' w0', Later keep w0 keep' w0' → K e s' = some r → SRel X keep' w0' n ι' s' a' w' → Q e.out a' w') → c.wpIn (WF ρ) dp P Q a w
  | .skip, _, _, _, s, K, Q, a, w, ι, keep, w0, h, hev, hQ => wpIn_skip (hQ .nm s a w ι keep w0 (Later.refl _ _) hev h)
  | .region id ops draw, _, R, r, s, K, Q, a, w, ι, keep, w0, h, hev, hQ => by
    simp only [evC] at hev
    cases draw with
    | false =>
      refine wpIn_region ?_
      have hz : ∀ (l : List Oper) (i : Nat), (zipN i l).map (·.1) = List.range' i l.length := by
        intro l
        induction l with
        | nil => intro i; rfl
        | cons o l ih => intro i; simp [zipN, ih, List.range'_succ]
      have hg : ∀ (l : List Oper) (i : Nat), ∀ p ∈ zipN i l, ∃ k, p.1 = i + k ∧ l[k]? = some p.2 := by
        intro l
        induction l with
        | nil => intro i p hp; cases hp
        | cons o l ih =>
          intro i p hp
          rcases List.mem_cons.1 hp with rfl | hp
          · exact ⟨0, rfl, rfl⟩
          · obtain ⟨k, h1, h2⟩ := ih (i + 1) p hp
            exact ⟨k + 1, by omega, by simpa using h2⟩
      have := evOps_seq (ops := ops) (Q := Q) (ρ := ρ) (dp := dp) hP hΔ (zipN 0 ops.toList) s [] a w ι (fun p hp => by
        obtain ⟨k, h1, h2⟩ := hg _ _ p hp
        rw [h1, Nat.zero_add, ← Array.getElem?_toList]
        exact h2) hev h (fun s' lg' a' w' ι' hk h' => hQ .nm s' a' w' ι' keep w0 (Later.refl _ _) (by simpa using hk) h')
      rw [hz, Array.length_toList, ← List.range_eq_range'] at this
      exact this
    | true =>
      simp only [if_true] at hev
      exact evOps_draw hm hP hΔ (K := fun s' => K .nm s') hev h fun s' a' w' ι' hk h' => hQ .nm s' a' w' ι' keep w0 (Later.refl _ _) hk h'
  | .seq x y, hL, R, r, s, K, Q, a, w, ι, keep, w0, h, hev, hQ => by
    simp only [evC] at hev
    refine wpIn_seq (evC_sound hm hP hΔ x hL.1 s _ _ a w ι keep w0 h hev fun e s' a' w' ι' k1 v1 hl hk h' => ?_)
    cases e with
    | nm => exact evC_sound hm hP hΔ y hL.2 s' K Q a' w' ι' k1 v1 h' hk fun e s2 a2 w2 ι2 k2 v2 hl2 => hQ e s2 a2 w2 ι2 k2 v2 (hl.trans hl2)
    | ex j => exact hQ (.ex j) s' a' w' ι' k1 v1 hl hk h'
    | rt => exact hQ .rt s' a' w' ι' k1 v1 hl hk h'
  | .cond c x y, hL, R, r, s, K, Q, a, w, ι, keep, w0, h, hev, hQ => by
    simp only [evC] at hev
    have hc := ev_rel h.f.tm c
    split at hev
    · rename_i g hg
      rw [hg, rel_bool] at hc
      refine wpIn_cond hc ?_
      split at hev
      · rename_i ht
        subst ht
        exact evC_sound hm hP hΔ x hL.1 s K Q a w ι keep w0 h hev hQ
      · rename_i ht
        have ht : g = false := by simpa using ht
        subst ht
        exact evC_sound hm hP hΔ y hL.2 s K Q a w ι keep w0 h hev hQ
    · rename_i hg
      rw [hg] at hc
      simp only [RelV] at hc
      obtain ⟨g, hc⟩ := hc
      obtain ⟨h1, h2⟩ := meet_some hev
      refine wpIn_cond hc ?_
      cases g
      · exact evC_sound hm hP hΔ y hL.2 s K Q a w ι keep w0 h h2 hQ
      · exact evC_sound hm hP hΔ x hL.1 s K Q a w ι keep w0 h h1 hQ
    · cases hev
  | .block id c, hL, R, r, s, K, Q, a, w, ι, keep, w0, h, hev, hQ => by
    simp only [evC] at hev
    refine wpIn_block (evC_sound hm hP hΔ c hL s _ _ a w ι keep w0 h hev fun e s' a' w' ι' k1 v1 hl hk h' => ?_)
    cases e with
    | nm => exact hQ .nm s' a' w' ι' k1 v1 hl hk h'
    | ex j =>
      show Exit.inBlock id Q (.exit j) a' w'
      simp only at hk
      split at hk
      · rename_i hj
        have hj := Nat.eq_of_beq_eq_true hj
        subst hj
        have := hQ .nm s' a' w' ι' k1 v1 hl hk h'
        simpa [Exit.inBlock, Ex.out] using this
      · rename_i hj
        have hj : j ≠ id := fun e => hj (by rw [e]; exact Nat.beq_refl id)
        have := hQ (.ex j) s' a' w' ι' k1 v1 hl hk h'
        simpa [Exit.inBlock, hj, Ex.out] using this
    | rt => exact hQ .rt s' a' w' ι' k1 v1 hl hk h'
  | .loop c, hL, R, r, s, K, Q, a, w, ι, keep, w0, h, hev, hQ => by
    simp only [evC] at hev
    split at hev
    · rename_i l hl
      exact hL l hl dp X keep w0 w ι s a R K r Q h hev hQ
    · cases hev
  | .rangeFunc g ps asg body, hL, R, r, s, K, Q, a, w, ι, keep, w0, h, hev, hQ => by
    simp only [evC] at hev
    split at hev
    · rename_i l hl
      exact hL l hl dp X keep w0 w ι s a R K r Q h hev hQ
    · cases hev
  | .exit id, _, _, _, s, K, Q, a, w, ι, keep, w0, h, hev, hQ => wpIn_exit (hQ (.ex id) s a w ι keep w0 (Later.refl _ _) hev h)
  | .ret, _, _, _, s, K, Q, a, w, ι, keep, w0, h, hev, hQ => wpIn_ret (hQ .rt s a w ι keep w0 (Later.refl _ _) hev h)
  | .scope c, hL, R, r, s, K, Q, a, w, ι, keep, w0, h, hev, hQ => by
    simp only [evC] at hev
    refine wpIn_scope' (evC_sound hm hP hΔ c hL s K _ a w ι keep w0 h hev fun e s' a' w' ι' k1 v1 hl hk h' => ?_)
    have := hQ e s' a' w' ι' k1 v1 hl hk h'
    cases e <;> exact this
  | .label _, _, _, _, s, K, Q, a, w, ι, keep, w0, h, hev, hQ => wpIn_label (hQ .nm s a w ι keep w0 (Later.refl _ _) hev h)
  | .goto _, _, _, _, _, _, _, _, _, _, _, _, _, hev, _ => by cases hev
  | .refuse _, _, _, _, _, _, _, _, _, _, _, _, _, hev, _ => by cases hev
end
end Go.Proofs.Rf
