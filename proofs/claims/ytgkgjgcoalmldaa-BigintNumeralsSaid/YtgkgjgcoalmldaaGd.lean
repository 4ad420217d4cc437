/- Rf, part E: functions that hand over elements (iterators), from the evaluation of one round of their loop. -/
import Derived.Test.YtgkgjgcoalmldaaGc
namespace Go.Proofs.Rf
open Go Go.RowKit

theorem Oper.uponIn_then {F : Fence} {n : Nat} {P : Program} {o : Oper} {a : Act} {K K' L : Act → World → Prop} {Q : Exit → Act → World → Prop} (h : ∀ a w, K a w → K' a w) : ∀ r : Result Next, o.uponIn F n P a K (Exit.then L Q) r → o.uponIn F n P a K' Q r
  | .ok (.value v) w', hh => h _ _ hh
  | .ok .skip w', hh => h _ _ hh
  | .ok (.defer d) w', hh => h _ _ hh
  | .ok (.enter f args) w', hh => ⟨hh.1, hh.2.mono fun e w'' he => by cases e <;> first | exact h _ _ he | exact he⟩
  | .ok (.row row args) w', hh => ⟨hh.1, hh.2.mono fun v w'' he => h _ _ he⟩
  | .ok (.round l f tmps assign body) w', hh => ⟨hh.1, hh.2.mono fun e w'' he => by cases e <;> first | exact h _ _ he | exact he⟩
  | .halt (.panic v) w', hh => hh

theorem wpOpsIn_append {F : Fence} {n : Nat} {P : Program} {ops : Array Oper} {Q : Exit → Act → World → Prop} : ∀ (l1 l2 : List Nat) (a : Act) (w : World), wpOpsIn F n P ops (Exit.then (wpOpsIn F n P ops Q l2) Q) l1 a w → wpOpsIn F n P ops Q (l1 ++ l2) a w
  | [], l2, a, w, h => h
  | i :: r, l2, a, w, h => by
    rw [List.cons_append, wpOpsIn_cons]
    rw [wpOpsIn_cons] at h
    unfold wpOpIn at h ⊢
    split
    · rename_i ho
      rw [ho] at h
      exact wpOpsIn_append r l2 a w h
    · rename_i o ho
      rw [ho] at h
      simp only at h
      split
      · rename_i hw
        rw [if_pos hw] at h
        exact ⟨h.1, Oper.uponIn_then (fun a w q => wpOpsIn_append r l2 a w q) _ h.2⟩
      · rename_i hw
        rw [if_neg hw] at h
        exact ⟨h.1, wpOpsIn_append r l2 _ w h.2⟩

inductive RY (A El : Type) where
  | go (y : A)
  | done
  | yl (e : El) (y : A)

def isMove0 (o : Oper) : Option Nat := match o.dst, o.op, o.guard with
  | some t, .move (.tmp 0), none => some t
  | _, _, _ => none

def isYield (t : Nat) (o : Oper) : Option (Nat × List Operand) := match o.dst, o.op, o.guard with
  | some d, .call c, none => (match c.callee with
    | .value (.tmp t') => if Nat.beq t' t = true then some (d, c.args.toList) else none
    | _ => none)
  | _, _, _ => none

section
variable (TT : Tab) (Δ : Nat → Option CallO) (ok : Nat → Bool) (Λ : Nat → Option LoopO) (rid j : Nat) (mid : Shape)

/-- The region in which the element is handed over: first the function is moved, at place j it is called. -/
def yReg {R : Type} (ops : Array Oper) (s : St) (KP : Ex → St → Option R) (Y : List AV → (Bool → Option R) → Option R) : Option R :=
  match (ops[0]?).bind isMove0 with
  | some t => match (ops[j]?).bind (isYield t) with
    | some (d, args) => if (ok t && ok d && Nat.blt 0 j) = true then
        evOps TT Δ (roundOk ok [t]) ops false (((zipN 0 ops.toList).take j).drop 1) ⟨(t, .un) :: s.tm, s.bl⟩ [] fun s1 _ => match mid.take s1 with
          | some z => Y (args.map (ev (getT s1.tm))) fun b => evOps TT Δ ok ops false ((zipN 0 ops.toList).drop (j + 1)) ⟨(d, .d .bool b) :: (mid.put z).tm, (mid.put z).bl⟩ [] fun s2 _ => KP .nm s2
          | none => none
      else none
    | none => none
  | none => none

/-- A round in which an element is handed over: K ahead of that, KP behind it. -/
noncomputable def evY {R : Type} : Code → St → (Ex → St → Option R) → (Ex → St → Option R) → (List AV → (Bool → Option R) → Option R) → Option R
  | .region id ops draw, s, K, KP, Y => if Nat.beq id rid = true then (if draw = true then none else yReg TT Δ ok j mid ops s KP Y) else evC TT Δ ok Λ (.region id ops draw) s K
  | .seq a b, s, K, KP, Y => evY a s (fun e s' => match e with
      | .nm => evY b s' K KP Y
      | .ex i => K (.ex i) s'
      | .rt => K .rt s') (fun e s' => match e with
      | .nm => evC TT Δ ok Λ b s' KP
      | .ex i => KP (.ex i) s'
      | .rt => KP .rt s') Y
  | .cond c a b, s, K, KP, Y => match ev (getT s.tm) c with
      | .d .bool g => if g = true then evY a s K KP Y else evY b s K KP Y
      | _ => none
  | .block id c, s, K, KP, Y => evY c s (fun e s' => match e with
      | .nm => K .nm s'
      | .ex i => if Nat.beq i id = true then K .nm s' else K (.ex i) s'
      | .rt => K .rt s') (fun e s' => match e with
      | .nm => KP .nm s'
      | .ex i => if Nat.beq i id = true then KP .nm s' else KP (.ex i) s'
      | .rt => KP .rt s') Y
  | .skip, s, K, _, _ => K .nm s
  | .exit id, s, K, _, _ => K (.ex id) s
  | .ret, s, K, _, _ => K .rt s
  | .loop c, s, K, _, _ => evC TT Δ ok Λ (.loop c) s K
  | _, _, _, _, _ => none
end

section
variable {P : Program} {TT : Tab} {Δ : Nat → Option CallO} {n : Slots} {Λ : Nat → Option LoopO} {rid j : Nat} {mid : Shape} {l : Nat}

theorem isMove0_iff {o : Oper} {t : Nat} (h : isMove0 o = some t) : o.dst = some t ∧ o.op = .move (.tmp 0) ∧ o.guard = none := by
  unfold isMove0 at h
  split at h
  · rename_i t' h1 h2 h3
    injection h with h
    subst h
    exact ⟨h1, h2, h3⟩
  · cases h

theorem isYield_iff {t : Nat} {o : Oper} {d : Nat} {args : List Operand} (h : isYield t o = some (d, args)) : ∃ c, o.dst = some d ∧ o.op = .call c ∧ o.guard = none ∧ c.callee = .value (.tmp t) ∧ c.args.toList = args := by
  unfold isYield at h
  split at h
  · rename_i d' c h1 h2 h3
    split at h
    · rename_i t' h4
      split at h
      · rename_i h5
        have h5 := Nat.eq_of_beq_eq_true h5
        subst h5
        injection h with h
        injection h with e1 e2
        subst e1; subst e2
        exact ⟨c, h1, h2, h3, h4, rfl⟩
      · cases h
    · cases h
  · cases h

theorem zipN_fst : ∀ (l : List Oper) (i : Nat), (zipN i l).map (·.1) = List.range' i l.length
  | [], i => rfl
  | o :: l, i => by simp [zipN, zipN_fst l (i + 1), List.range'_succ]

theorem zipN_get : ∀ (l : List Oper) (i : Nat), ∀ p ∈ zipN i l, ∃ k, p.1 = i + k ∧ l[k]? = some p.2
  | [], _, p, h => by cases h
  | o :: l, i, p, h => by
    rcases List.mem_cons.1 h with rfl | h
    · exact ⟨0, rfl, rfl⟩
    · obtain ⟨k, h1, h2⟩ := zipN_get l (i + 1) p h
      exact ⟨k + 1, by omega, by simpa using h2⟩

theorem yReg_sound (hP : TabOK P TT) (hΔ : CallsOK P Δ) (hn0 : ∀ tm, n.G tm → tm.getD 0 undef = .func (.yield l) #[] #[]) {R : Type} {ops : Array Oper} {s : St} {KP : Ex → St → Option R} {Y : List AV → (Bool → Option R) → Option R} {r : R} {Q : Exit → Act → World → Prop}
    {X keep : Nat → Prop} {w0 w : World} {ι : Nat → Option Value} {a : Act} (h : SRel X keep w0 n ι s a w) (hev : yReg TT Δ n.ok j mid ops s KP Y = some r)
    (hY : ∀ args vals res z a' w' ι', SRel X keep w0 n ι' (mid.put z) a' w' → (∃ ok ι, RelL w' ok ι args vals) → Y args res = some r → YieldAt (WF none) 1 P l vals.toArray w' fun e w'' => ∃ b, e = .returned (.bool b) ∧ ∃ X' keep' w0' rb, res b = some rb ∧ SRel X' keep' w0' n ι' (mid.put z) a' w'' ∧
      ∀ s3 a3 w3 ι3, KP .nm s3 = some rb → SRel X' keep' w0' n ι3 s3 a3 w3 → Q .normal a3 w3) : wpOpsIn (WF none) 2 P ops Q (List.range ops.size) a w := by
  unfold yReg at hev
  split at hev
  · rename_i t ht
    split at hev
    · rename_i d args hd
      split at hev
      · rename_i hc
        simp only [Bool.and_eq_true] at hc
        obtain ⟨⟨c1, c2⟩, c3⟩ := hc
        have c3 : 0 < j := Nat.le_of_ble_eq_true c3
        obtain ⟨o0, g0, g1⟩ := bind_some' ht
        obtain ⟨oj, k0, k1⟩ := bind_some' hd
        obtain ⟨m1, m2, m3⟩ := isMove0_iff g1
        obtain ⟨c, y1, y2, y3, y4, y5⟩ := isYield_iff k1
        have hj : j < ops.size := (Array.getElem?_eq_some_iff.1 k0).1
        let yv : Value := .func (.yield l) #[] #[]
        have hL : List.range ops.size = [0] ++ ((((zipN 0 ops.toList).take j).drop 1).map (·.1) ++ ([j] ++ ((zipN 0 ops.toList).drop (j + 1)).map (·.1))) := by
          have e1 : List.range ops.size = (zipN 0 ops.toList).map (·.1) := by rw [zipN_fst, Array.length_toList, List.range_eq_range']
          have e2 : (zipN 0 ops.toList).map (·.1) = ((zipN 0 ops.toList).take j).map (·.1) ++ ((zipN 0 ops.toList).drop j).map (·.1) := by rw [← List.map_append, List.take_append_drop]
          have hz : (zipN 0 ops.toList).length = ops.size := by
            have := congrArg List.length (zipN_fst ops.toList 0)
            simpa using this
          have e3 : ((zipN 0 ops.toList).drop j).map (·.1) = [j] ++ ((zipN 0 ops.toList).drop (j + 1)).map (·.1) := by
            rw [List.map_drop, List.map_drop, zipN_fst, Array.length_toList]
            rw [List.drop_eq_getElem_cons (by simpa using hj)]
            simp
          have e4 : ((zipN 0 ops.toList).take j).map (·.1) = [0] ++ (((zipN 0 ops.toList).take j).drop 1).map (·.1) := by
            rw [List.map_drop, List.map_take, zipN_fst, Array.length_toList]
            have : 0 < ((List.range' 0 ops.size).take j).length := by
              simp only [List.length_take, List.length_range']
              omega
            conv => lhs; rw [← List.drop_zero (l := (List.range' 0 ops.size).take j)]
            rw [List.drop_eq_getElem_cons this]
            simp
          rw [e1, e2, e3, e4, List.append_assoc]
        rw [hL]
        -- the function is moved
        refine wpOpsIn_append [0] _ a w ?_
        rw [wpOpsIn_cons]
        unfold wpOpIn
        rw [g0]
        have hw : Region.wanted o0 (yielded ops a.tmps) = true := by simp [Region.wanted, m3]
        simp only [hw, if_true]
        refine wpIn_of_wp (fun c hc => by rw [m2] at hc; cases hc) ?_
        unfold Oper.wp
        have hr : (execOp a.eval o0).run P w = .ok (.value (a.eval (.tmp 0))) w := by
          unfold execOp
          rw [m2]
          rfl
        rw [hr]
        have hv0 : a.eval (.tmp 0) = yv := hn0 a.tmps h.f.size
        show wpOpsIn (WF none) 2 P ops Q _ (a.put o0.dst (a.eval (.tmp 0))) w
        rw [hv0, m1]
        let a1 : Act := a.put (some t) yv
        let n' := roundSlots n [t] a1
        have ht1 : t < a.tmps.size := n.lt _ _ h.f.size c1
        have hG1 : n.G a1.tmps := n.set _ _ _ h.f.size c1
        have S1 : SRel X keep w0 n' ι ⟨(t, .un) :: s.tm, s.bl⟩ a1 w := by
          have F1 : FRel X keep w0 n ι (getT ((t, .un) :: s.tm)) (getB s.bl) a1 w := h.f.put1 c1 (by simp only [RelV])
          exact ⟨⟨F1.h, F1.tm, ⟨hG1, fun _ _ => rfl⟩, F1.defers⟩, h.dom⟩
        refine wpOpsIn_append _ _ a1 w ?_
        refine evOps_seq (n := n') (Q := Exit.then _ Q) hP hΔ _ _ _ a1 w ι (fun p hp => ?_) hev S1 fun s1 lg a2 w2 ι2 hk S2 => ?_
        · obtain ⟨k, q1, q2⟩ := zipN_get ops.toList 0 p (List.mem_of_mem_take (List.mem_of_mem_drop hp))
          rw [q1, Nat.zero_add, ← Array.getElem?_toList]
          exact q2
        split at hk
        · rename_i z hz
          have hyv : a2.tmps.getD t undef = yv := by
            rw [S2.f.size.2 t (List.mem_singleton.2 rfl)]
            show (a.tmps.setIfInBounds t yv).getD t undef = yv
            rw [Array.getD_eq_getD_getElem?, Array.getElem?_setIfInBounds_self_of_lt ht1]
            rfl
          have S2n : SRel X keep w0 n ι2 s1 a2 w2 := ⟨⟨S2.f.h, S2.f.tm, S2.f.size.1, S2.f.defers⟩, S2.dom⟩
          obtain ⟨ι3, S3⟩ := Shape.take_sound S2n hz
          have hargs : RelL w2 (okb X w2 ι2 (getB s1.bl)) ι2 (args.map (ev (getT s1.tm))) (args.map a2.eval) := RelL_map S2.f.tm args
          obtain ⟨fn, tmps, assign, body, hyr, hR⟩ := hY _ _ _ z a2 w2 ι3 S3 ⟨_, _, hargs⟩ hk
          refine wpOpsIn_append [j] _ a2 w2 ?_
          rw [wpOpsIn_cons]
          unfold wpOpIn
          rw [k0]
          have hw : Region.wanted oj (yielded ops a2.tmps) = true := by simp [Region.wanted, y3]
          simp only [hw, if_true]
          refine ⟨fun _ _ => trivial, ?_⟩
          have hex : (execOp a2.eval oj).run P w2 = .ok (.round l fn tmps assign body) w2 := by
            unfold execOp
            rw [y2]
            have he : a2.eval (.tmp t) = yv := hyv
            have harr : Array.map a2.eval c.args = (args.map a2.eval).toArray := by rw [← y5]; apply Array.ext'; simp
            simp only [resolve, y4, he, harr]
            simp [yv, Deferred.ofValue, invoke, callFunc, hyr]
          have hsem : ((oj.semAt (WF none).round a2.eval).run P w2) = .ok (.round l fn tmps assign body) w2 := by
            rw [Oper.semAt_eq _ _ _ (fun c hc => by rw [y2] at hc; cases hc)]
            exact hex
          rw [hsem, Oper.uponIn_round]
          refine ⟨fun q => (by cases q), hR.mono ?_⟩
          rintro e w3 ⟨b, rfl, X', keep', w0', rb, hrb, S4, hend⟩
          show wpOpsIn (WF none) 2 P ops Q _ (a2.put oj.dst (.bool b)) w3
          rw [y1]
          have F5 : FRel X' keep' w0' n ι3 (getT ((d, .d .bool b) :: (mid.put z).tm)) (getB (mid.put z).bl) (a2.put (some d) (.bool b)) w3 := S4.f.put1 c2 (rel_bool.2 rfl)
          refine evOps_seq (n := n) hP hΔ _ _ _ _ w3 ι3 (fun p hp => ?_) hrb ⟨F5, S4.dom⟩ fun s3 lg a3 w4 ι4 hk3 S6 => hend s3 a3 w4 ι4 hk3 S6
          obtain ⟨k, q1, q2⟩ := zipN_get ops.toList 0 p (List.mem_of_mem_drop hp)
          rw [q1, Nat.zero_add, ← Array.getElem?_toList]
          exact q2
        · cases hk
      · cases hev
    · cases hev
  · cases hev

theorem evY_sound (hm : P.follows .mixedOrders = true) (hP : TabOK P TT) (hΔ : CallsOK P Δ) (hn0 : ∀ tm, n.G tm → tm.getD 0 undef = .func (.yield l) #[] #[]) {X : Nat → Prop} : ∀ (c : Code), LoopsIn P n none Λ c → ∀ {R : Type} {r : R} (s : St) (K KP : Ex → St → Option R) (Y : List AV → (Bool → Option R) → Option R) (Q : Exit → Act → World → Prop) (a : Act) (w : World) (ι : Nat → Option Value) (keep : Nat → Prop) (w0 : World),
    SRel X keep w0 n ι s a w → evY TT Δ n.ok Λ rid j mid c s K KP Y = some r →
    (∀ e s' a' w' ι' keep' w0', Later keep w0 keep' w0' → K e s' = some r → SRel X keep' w0' n ι' s' a' w' → Q e.out a' w') →
    (∀ args vals res z a' w' ι' keep1 w01, Later keep w0 keep1 w01 → SRel X keep1 w01 n ι' (mid.put z) a' w' → (∃ ok ι, RelL w' ok ι args vals) → Y args res = some r → YieldAt (WF none) 1 P l vals.toArray w' fun e w'' => ∃ b, e = .returned (.bool b) ∧ ∃ X' keep' w0' rb, res b = some rb ∧ SRel X' keep' w0' n ι' (mid.put z) a' w'' ∧
      ∀ e3 s3 a3 w3 ι3 keep3 w03, Later keep' w0' keep3 w03 → KP e3 s3 = some rb → SRel X' keep3 w03 n ι3 s3 a3 w3 → Q e3.out a3 w3) →
    c.wpIn (WF none) 2 P Q a w
  | .region id ops draw, hL, R, r, s, K, KP, Y, Q, a, w, ι, keep, w0, h, hev, hK, hY => by
    simp only [evY] at hev
    split at hev
    · split at hev
      · cases hev
      · rename_i hd
        have hd : draw = false := by simpa using hd
        subst hd
        refine wpIn_region ?_
        refine yReg_sound hP hΔ hn0 h hev fun args vals res z a' w' ι' S hr hy => ?_
        obtain ⟨fn, tmps, assign, body, q1, q2⟩ := hY args vals res z a' w' ι' keep w0 (Later.refl _ _) S hr hy
        refine ⟨fn, tmps, assign, body, q1, q2.mono ?_⟩
        rintro e w'' ⟨b, he, X', keep', w0', rb, hrb, S4, hend⟩
        exact ⟨b, he, X', keep', w0', rb, hrb, S4, fun s3 a3 w3 ι3 hk S6 => hend .nm s3 a3 w3 ι3 keep' w0' (Later.refl _ _) hk S6⟩
    · exact evC_sound hm hP hΔ (.region id ops draw) hL s K Q a w ι keep w0 h hev hK
  | .seq x y, hL, R, r, s, K, KP, Y, Q, a, w, ι, keep, w0, h, hev, hK, hY => by
    simp only [evY] at hev
    refine wpIn_seq (evY_sound hm hP hΔ hn0 x hL.1 s _ _ Y _ a w ι keep w0 h hev (fun e s' a' w' ι' k1 v1 hl hk h' => ?_) fun args vals res z a' w' ι' k1 v1 hl S hr hy => ?_)
    · cases e with
      | nm => exact evY_sound hm hP hΔ hn0 y hL.2 s' K KP Y Q a' w' ι' k1 v1 h' hk (fun e s2 a2 w2 ι2 k2 v2 hl2 => hK e s2 a2 w2 ι2 k2 v2 (hl.trans hl2)) fun args vals res z a2 w2 ι2 k2 v2 hl2 => hY args vals res z a2 w2 ι2 k2 v2 (hl.trans hl2)
      | ex i => exact hK (.ex i) s' a' w' ι' k1 v1 hl hk h'
      | rt => exact hK .rt s' a' w' ι' k1 v1 hl hk h'
    · obtain ⟨fn, tmps, assign, body, q1, q2⟩ := hY args vals res z a' w' ι' k1 v1 hl S hr hy
      refine ⟨fn, tmps, assign, body, q1, q2.mono ?_⟩
      rintro e w'' ⟨b, he, X', keep', w0', rb, hrb, S4, hend⟩
      refine ⟨b, he, X', keep', w0', rb, hrb, S4, fun e3 s3 a3 w3 ι3 k3 v3 hl3 hk S6 => ?_⟩
      cases e3 with
      | nm => exact evC_sound hm hP hΔ y hL.2 s3 KP Q a3 w3 ι3 k3 v3 S6 hk fun e s2 a2 w2 ι2 k2 v2 hl2 hk2 S7 => hend e s2 a2 w2 ι2 k2 v2 (hl3.trans hl2) hk2 S7
      | ex i => exact hend (.ex i) s3 a3 w3 ι3 k3 v3 hl3 hk S6
      | rt => exact hend .rt s3 a3 w3 ι3 k3 v3 hl3 hk S6
  | .cond c x y, hL, R, r, s, K, KP, Y, Q, a, w, ι, keep, w0, h, hev, hK, hY => by
    simp only [evY] at hev
    have hc := ev_rel h.f.tm c
    split at hev
    · rename_i g hg
      rw [hg, rel_bool] at hc
      refine wpIn_cond hc ?_
      split at hev
      · rename_i ht
        subst ht
        exact evY_sound hm hP hΔ hn0 x hL.1 s K KP Y Q a w ι keep w0 h hev hK hY
      · rename_i ht
        have ht : g = false := by simpa using ht
        subst ht
        exact evY_sound hm hP hΔ hn0 y hL.2 s K KP Y Q a w ι keep w0 h hev hK hY
    · cases hev
  | .block id c, hL, R, r, s, K, KP, Y, Q, a, w, ι, keep, w0, h, hev, hK, hY => by
    simp only [evY] at hev
    refine wpIn_block (evY_sound hm hP hΔ hn0 c hL s _ _ Y _ a w ι keep w0 h hev (fun e s' a' w' ι' k1 v1 hl hk h' => ?_) fun args vals res z a' w' ι' k1 v1 hl S hr hy => ?_)
    · cases e with
      | nm => exact hK .nm s' a' w' ι' k1 v1 hl hk h'
      | ex i =>
        simp only at hk
        show (Exit.inBlock id Q) (.exit i) a' w'
        simp only [Exit.inBlock]
        split at hk
        · rename_i hi
          rw [if_pos (Nat.eq_of_beq_eq_true hi)]
          exact hK .nm s' a' w' ι' k1 v1 hl hk h'
        · rename_i hi
          rw [if_neg (fun q => hi (by rw [q]; exact Nat.beq_refl _))]
          exact hK (.ex i) s' a' w' ι' k1 v1 hl hk h'
      | rt => exact hK .rt s' a' w' ι' k1 v1 hl hk h'
    · obtain ⟨fn, tmps, assign, body, q1, q2⟩ := hY args vals res z a' w' ι' k1 v1 hl S hr hy
      refine ⟨fn, tmps, assign, body, q1, q2.mono ?_⟩
      rintro e w'' ⟨b, he, X', keep', w0', rb, hrb, S4, hend⟩
      refine ⟨b, he, X', keep', w0', rb, hrb, S4, fun e3 s3 a3 w3 ι3 k3 v3 hl3 hk S6 => ?_⟩
      cases e3 with
      | nm => exact hend .nm s3 a3 w3 ι3 k3 v3 hl3 hk S6
      | ex i =>
        simp only at hk
        show (Exit.inBlock id Q) (.exit i) a3 w3
        simp only [Exit.inBlock]
        split at hk
        · rename_i hi
          rw [if_pos (Nat.eq_of_beq_eq_true hi)]
          exact hend .nm s3 a3 w3 ι3 k3 v3 hl3 hk S6
        · rename_i hi
          rw [if_neg (fun q => hi (by rw [q]; exact Nat.beq_refl _))]
          exact hend (.ex i) s3 a3 w3 ι3 k3 v3 hl3 hk S6
      | rt => exact hend .rt s3 a3 w3 ι3 k3 v3 hl3 hk S6
  | .skip, hL, R, r, s, K, KP, Y, Q, a, w, ι, keep, w0, h, hev, hK, hY => wpIn_skip (hK .nm s a w ι keep w0 (Later.refl _ _) hev h)
  | .exit id, hL, R, r, s, K, KP, Y, Q, a, w, ι, keep, w0, h, hev, hK, hY => wpIn_exit (hK (.ex id) s a w ι keep w0 (Later.refl _ _) hev h)
  | .ret, hL, R, r, s, K, KP, Y, Q, a, w, ι, keep, w0, h, hev, hK, hY => wpIn_ret (hK .rt s a w ι keep w0 (Later.refl _ _) hev h)
  | .loop c, hL, R, r, s, K, KP, Y, Q, a, w, ι, keep, w0, h, hev, hK, hY => evC_sound hm hP hΔ (.loop c) hL s K Q a w ι keep w0 h hev hK
  | .rangeFunc .., _, _, _, _, _, _, _, _, _, _, _, _, _, _, hev, _, _ => by cases hev
  | .scope _, _, _, _, _, _, _, _, _, _, _, _, _, _, _, hev, _, _ => by cases hev
  | .label _, _, _, _, _, _, _, _, _, _, _, _, _, _, _, hev, _, _ => by cases hev
  | .goto _, _, _, _, _, _, _, _, _, _, _, _, _, _, _, hev, _, _ => by cases hev
  | .refuse _, _, _, _, _, _, _, _, _, _, _, _, _, _, _, hev, _, _ => by cases hev
end
end Go.Proofs.Rf
