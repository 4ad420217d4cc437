/- Rf, part F: the contract of a function that hands over elements. -/
import Derived.Test.YtgkgjgcoalmldaaGd
namespace Go.Proofs.Rf
open Go Go.RowKit

section
variable {X keep : Nat → Prop} {w0 w : World} {ι : Nat → Option Value} {C : Nat → Blk}

/-- From one world to another in which all that is told of is as it was. -/
theorem HRel.jump (h : HRel X keep w0 ι C w) {W : World} (hs : w.heap.size ≤ W.heap.size) (hsame : ∀ b, b < w.heap.size → okb X w ι C b ∨ owned ι C b → W.heap[b]? = w.heap[b]?) (keep' : Nat → Prop) (hk : ∀ b, keep' b → b < W.heap.size ∧ ¬ owned ι C b) :
    HRel (fun b => b < W.heap.size ∧ ¬ okb X w ι C b ∧ ¬ owned ι C b) keep' W ι C W ∧ ∀ v u, RelV w (okb X w ι C) ι v u → RelV W (okb (fun b => b < W.heap.size ∧ ¬ okb X w ι C b ∧ ¬ owned ι C b) W ι C) ι v u := by
  have hok : ∀ g, okb X w ι C g → okb (fun b => b < W.heap.size ∧ ¬ okb X w ι C b ∧ ¬ owned ι C b) W ι C g := fun g hg => ⟨Nat.lt_of_lt_of_le hg.1 hs, hg.2.1, fun hx => hx.2.1 hg⟩
  have hcell : ∀ g o v, okb X w ι C g → w.cell? ⟨g, o, none⟩ = some v → W.cell? ⟨g, o, none⟩ = some v := by
    intro g o v hg hv
    rw [← hv]; exact World.cell?_of_block (hsame g hg.1 (.inl hg))
  have hown : ∀ b, owned ι C b → W.heap[b]? = w.heap[b]? := fun b ho => hsame b (h.lt ho) (.inr ho)
  refine ⟨⟨fun k => ?_, h.inj, Kept.refl _ _, fun b hb hkb => (hk b hkb).2 hb, fun b hb => (hk b hb).1, fun b hb hx => hx.2.2 hb, fun b hb => hb.1⟩, fun v u hv => RelV_mono hcell hok (fun _ _ e => e) v u hv⟩
  have hB := h.bl k
  cases hC : C k with
  | row t e xs rw =>
    rw [hC] at hB
    cases rw with
    | true =>
      obtain ⟨v, cs, h1, h2, h3⟩ := hB
      refine ⟨v, cs, h1, ⟨h2.1, ?_⟩, RzL_mono (Rz_mono hcell hok t) h3⟩
      rcases h2.2 with h4 | ⟨g, cap, cur, hv, h5, h6, h7⟩
      · exact .inl h4
      · refine .inr ⟨g, cap, cur, hv, h5, ?_, h7⟩
        rw [hown g ⟨k, by unfold bk; rw [hC, h1, hv]; rfl⟩]
        exact h6
    | false =>
      obtain ⟨v, h1, h0, h2⟩ := hB
      exact ⟨v, h1, h0, Rz_mono hcell hok _ _ _ h2⟩
  | box cs =>
    rw [hC] at hB
    obtain ⟨g, e, us, h1, h2, h3⟩ := hB
    refine ⟨g, e, us, h1, ?_, RelL_mono hcell hok (fun _ _ e => e) cs us h3⟩
    rw [hown g ⟨k, by unfold bk; rw [hC, h1]⟩]
    exact h2
  | it s pos =>
    rw [hC] at hB
    obtain ⟨g, h1, h2⟩ := hB
    refine ⟨g, h1, ?_⟩
    rw [hown g ⟨k, by unfold bk; rw [hC, h1]⟩]
    exact h2
  | dead => trivial
end

/-! ### Shapes whose boxes all hang on kept slots -/
def rootIn (pins : List Nat) (j : Nat) : List (Nat × SV) → Bool
  | [] => false
  | (t, .pt b _) :: r => (Nat.beq b j && memN t pins) || rootIn pins j r
  | _ :: r => rootIn pins j r

def rooted (pins : List Nat) (sl : List (Nat × SV)) : Nat → List SB → Bool
  | _, [] => true
  | j, .box _ :: r => rootIn pins j sl && rooted pins sl (j + 1) r
  | _, _ => false

def nodupS : List (Nat × SV) → Bool
  | [] => true
  | p :: r => !(memN p.1 (slotsOf r)) && nodupS r

theorem getT_putS : ∀ (sl : List (Nat × SV)) (x : denS sl) (t : Nat) (sv : SV), nodupS sl = true → (t, sv) ∈ sl → ∃ y : sv.den, getT (putS sl x) t = sv.put y
  | p :: r, x, t, sv, hn, h => by
    simp only [nodupS, Bool.and_eq_true, Bool.not_eq_true'] at hn
    rcases List.mem_cons.1 h with rfl | h
    · refine ⟨x.1, ?_⟩
      simp only [putS, getT]
      rw [if_pos (Nat.beq_refl _)]
    · obtain ⟨y, hy⟩ := getT_putS r x.2 t sv hn.2 h
      refine ⟨y, ?_⟩
      simp only [putS, getT]
      rw [if_neg (fun q => ?_)]
      · exact hy
      · have q := Nat.eq_of_beq_eq_true q
        have hm : ∀ {l : List (Nat × SV)}, (t, sv) ∈ l → t ∈ slotsOf l := by
          intro l
          induction l with
          | nil => intro h; cases h
          | cons a l ih =>
            intro h
            simp only [slotsOf, List.mem_cons]
            rcases List.mem_cons.1 h with rfl | h
            · exact .inl rfl
            · exact .inr (ih h)
        have := hm h
        rw [q, memN_iff.2 this] at hn
        cases hn.1

theorem rootIn_iff {pins : List Nat} {j : Nat} : ∀ {sl : List (Nat × SV)}, rootIn pins j sl = true → ∃ t o, (t, SV.pt j o) ∈ sl ∧ t ∈ pins
  | [], h => by cases h
  | (t, .pt b o) :: r, h => by
    simp only [rootIn, Bool.or_eq_true, Bool.and_eq_true] at h
    rcases h with ⟨h1, h2⟩ | h
    · rw [Nat.eq_of_beq_eq_true h1]
      exact ⟨t, o, List.mem_cons_self .., memN_iff.1 h2⟩
    · obtain ⟨t', o', h1, h2⟩ := rootIn_iff h
      exact ⟨t', o', List.mem_cons_of_mem _ h1, h2⟩
  | (t, .d _ _) :: r, h | (t, .rf _) :: r, h | (t, .rs _ _) :: r, h | (t, .rz _ _) :: r, h | (t, .ud) :: r, h | (t, .fn _ _) :: r, h => by
    simp only [rootIn] at h
    obtain ⟨t', o', h1, h2⟩ := rootIn_iff h
    exact ⟨t', o', List.mem_cons_of_mem _ h1, h2⟩

theorem rooted_iff {pins : List Nat} {sl : List (Nat × SV)} : ∀ {bl : List SB} {j0 : Nat}, rooted pins sl j0 bl = true → ∀ j, j < bl.length → (∃ cs, bl[j]? = some (.box cs)) ∧ rootIn pins (j0 + j) sl = true
  | [], _, _, j, hj => by simp at hj
  | .box cs :: r, j0, h, 0, _ => by
    simp only [rooted, Bool.and_eq_true] at h
    exact ⟨⟨cs, rfl⟩, h.1⟩
  | .box cs :: r, j0, h, j + 1, hj => by
    simp only [rooted, Bool.and_eq_true] at h
    obtain ⟨h1, h2⟩ := rooted_iff h.2 j (by simpa using hj)
    refine ⟨by simpa using h1, ?_⟩
    rwa [show j0 + 1 + j = j0 + (j + 1) by omega] at h2
  | .row _ _ :: r, _, h, _, _ => by cases h
  | .it :: r, _, h, _, _ => by cases h

theorem putB_box : ∀ (l : List SB) (x : denB l) (j : Nat) (cs : List SV), l[j]? = some (.box cs) → ∃ vs, getB (putB l x) j = .box vs
  | [], _, _, _, h => by simp at h
  | a :: r, x, 0, cs, h => by
    simp only [List.getElem?_cons_zero, Option.some.injEq] at h
    subst h
    exact ⟨_, rfl⟩
  | a :: r, x, j + 1, cs, h => putB_box r x.2 j cs (by simpa using h)

/-- What is owned is what the kept slots point to. -/
theorem rooted_owned {X keep : Nat → Prop} {w0 w : World} {n : Slots} {ι : Nat → Option Value} {sh : Shape} {x : sh.den} {a : Act} (h : SRel X keep w0 n ι (sh.put x) a w) {pins : List Nat} (hr : rooted pins sh.sl 0 sh.bl = true) (hn : nodupS sh.sl = true) {b : Nat} (hb : owned ι (getB (sh.put x).bl) b) :
    ∃ t ∈ pins, ∃ o, a.tmps.getD t undef = .pointer (some ⟨b, o, none⟩) := by
  obtain ⟨j, hj⟩ := hb
  have hl : j < sh.bl.length := by
    rcases Nat.lt_or_ge j sh.bl.length with q | q
    · exact q
    · have : getB (sh.put x).bl j = .dead := getB_out _ _ (by rw [show (sh.put x).bl.length = sh.bl.length from putB_length _ _]; exact q)
      rw [bk_dead this] at hj
      cases hj
  obtain ⟨⟨cs, h1⟩, h2⟩ := rooted_iff hr j hl
  rw [Nat.zero_add] at h2
  obtain ⟨t, o, h3, h4⟩ := rootIn_iff h2
  obtain ⟨y, hy⟩ := getT_putS sh.sl x.1 t _ hn h3
  have ht := h.f.tm t
  rw [show getT (sh.put x).tm t = _ from hy] at ht
  simp only [SV.put, RelV] at ht
  obtain ⟨g, g1, g2⟩ := ht
  obtain ⟨vs, hvs⟩ := putB_box sh.bl x.2 j cs h1
  unfold bk at hj
  rw [show getB (sh.put x).bl j = .box vs from hvs, g1] at hj
  injection hj with hj
  have hj : g = b := hj
  subst hj
  exact ⟨t, h4, o, g2⟩

/-! ### The contract -/
/-- What is captured, as data: boxes, of which no row is read from here on alone. -/
def capG {El : Type} (psh : Shape) (D : psh.den → Option (List El)) (C : Nat → Blk) (cs : List AV) : Option (List El) :=
  if (nodupN (blkB C psh.bl 0 (blkS (getT (numT 1 cs)) psh.sl [])) && Nat.beq cs.length psh.sl.length) = true then
    (match takeS C (getT (numT 1 cs)) (blkB C psh.bl 0 (blkS (getT (numT 1 cs)) psh.sl [])) psh.sl with
    | some (x, []) => match takeB C (blkB C psh.bl 0 (blkS (getT (numT 1 cs)) psh.sl [])) psh.bl (blkB C psh.bl 0 (blkS (getT (numT 1 cs)) psh.sl [])) with
      | some (y, []) => D (x, y)
      | _ => none
    | _ => none)
  else none

section
variable (TT : Tab) (Δ : Nat → Option CallO) (ok : Nat → Bool) (Λ : Nat → Option LoopO) {El : Type}

/-- One round, over data. -/
noncomputable def stepY (rid j : Nat) (mid head : Shape) (elOf : List AV → Option El) (id : Nat) (c : Code) (x : head.den) : Option (RY head.den El) :=
  evY TT Δ ok Λ rid j mid c (head.put x)
    (fun e s => match e with
      | .nm => (match head.take s with
        | some y => some (.go y)
        | none => none)
      | .ex i => if Nat.beq i id = true then some .done else none
      | .rt => some .done)
    (fun e s => match e with
      | .nm => (match head.take s with
        | some y => some (.go y)
        | none => none)
      | .ex i => if Nat.beq i id = true then some .done else none
      | .rt => some .done)
    fun args res => match elOf args with
      | some e => match res true, res false with
        | some (.go y), some .done => some (.yl e y)
        | _, _ => none
      | none => none
end

/-- All elements. -/
def colY {A El : Type} (f : A → Option (RY A El)) : Nat → A → Option (List El)
  | 0, _ => none
  | k + 1, x => match f x with
    | some (.go y) => colY f k y
    | some .done => some []
    | some (.yl e y) => match colY f k y with
      | some r => some (e :: r)
      | none => none
    | none => none

def allPt : List (Nat × SV) → Bool
  | [] => true
  | (_, .pt _ _) :: r => allPt r
  | _ => false

theorem takeS_pt {C : Nat → Blk} {T : Nat → AV} {ρ : List Nat} : ∀ {sl : List (Nat × SV)} {x : denS sl} {f : List (Nat × Blk)}, takeS C T ρ sl = some (x, f) → allPt sl = true → ∀ t, t ∈ slotsOf sl → ∃ j o i, (t, SV.pt j o) ∈ sl ∧ T t = .pt i o ∧ ρ[j]? = some i
  | [], _, _, _, _, t, ht => by cases ht
  | (u, .pt b o) :: r, x, f, h, ha, t, ht => by
    simp only [takeS] at h
    split at h
    · rename_i x1 f1 e1
      split at h
      · rename_i x2 f2 e2
        rcases List.mem_cons.1 ht with rfl | ht
        · cases hT : T t <;> rw [hT] at e1 <;> simp only [SV.take] at e1 <;> (try (cases e1; done))
          rename_i i o'
          split at e1
          · rename_i hi
            simp only [Bool.and_eq_true] at hi
            rw [Nat.eq_of_beq_eq_true hi.2] at hT ⊢
            exact ⟨b, o, i, List.mem_cons_self .., rfl, atN_iff hi.1⟩
          · cases e1
        · obtain ⟨j, o', i, q1, q2, q3⟩ := takeS_pt e2 ha t ht
          exact ⟨j, o', i, List.mem_cons_of_mem _ q1, q2, q3⟩
      · cases h
    · cases h
  | (_, .d _ _) :: _, _, _, _, ha, _, _ | (_, .rf _) :: _, _, _, _, ha, _, _ | (_, .rs _ _) :: _, _, _, _, ha, _, _ | (_, .rz _ _) :: _, _, _, _, ha, _, _ | (_, .ud) :: _, _, _, _, ha, _, _ | (_, .fn _ _) :: _, _, _, _, ha, _, _ => by cases ha

theorem takeB_box {C : Nat → Blk} {ρ : List Nat} : ∀ {l : List SB} {is : List Nat} {y : denB l} {f : List (Nat × Blk)}, takeB C ρ l is = some (y, f) → ∀ (j i : Nat) (cs : List SV), l[j]? = some (SB.box cs) → is[j]? = some i → ∃ vs, C i = Blk.box vs
  | [], _, _, _, _, j, i, cs, hj, _ => by simp at hj
  | a :: r, [], _, _, h, _, _, _, _, _ => by simp only [takeB] at h; cases h
  | a :: r, k :: is, y, f, h, j, i, cs, hj, hi => by
    simp only [takeB] at h
    split at h
    · rename_i x1 f1 e1
      split at h
      · rename_i x2 f2 e2
        cases j with
        | zero =>
          simp only [List.getElem?_cons_zero, Option.some.injEq] at hj hi
          subst hj; subst hi
          cases hC : C k with
          | box vs => exact ⟨vs, rfl⟩
          | row t e xs rw => rw [hC] at e1; cases rw <;> simp only [SB.take] at e1 <;> cases e1
          | it s p => rw [hC] at e1; simp only [SB.take] at e1; cases e1
          | dead => rw [hC] at e1; simp only [SB.take] at e1; cases e1
        | succ j => exact takeB_box e2 j i cs (by simpa using hj) (by simpa using hi)
      · cases h
    · cases h

theorem getT_numT_mem : ∀ {vs : List AV} {i t : Nat} {k o : Nat}, getT (numT i vs) t = .pt k o → k ∈ AV.idsL vs
  | [], _, _, _, _, h => by simp only [numT, getT] at h; cases h
  | v :: r, i, t, k, o, h => by
    simp only [numT, getT] at h
    split at h
    · rw [h]
      simp [AV.idsL, AV.ids]
    · have := getT_numT_mem h
      simp [AV.idsL, this]

theorem slotsFrom_mem : ∀ {sl : List (Nat × SV)} {i t : Nat}, slotsFrom i sl = true → i ≤ t → t < i + sl.length → t ∈ slotsOf sl
  | [], i, t, _, h1, h2 => by simp at h2; omega
  | p :: r, i, t, h, h1, h2 => by
    simp only [slotsFrom, Bool.and_eq_true] at h
    have e := Nat.eq_of_beq_eq_true h.1
    simp only [slotsOf, List.mem_cons]
    rcases Nat.eq_or_lt_of_le h1 with q | q
    · exact .inl (by omega)
    · exact .inr (slotsFrom_mem h.2 (by omega) (by simp only [List.length_cons] at h2; omega))

theorem meetN_nil : ∀ l : List Nat, meetN l [] = false
  | [] => rfl
  | k :: r => by simp [meetN, memN, meetN_nil r]

/-- What such a contract wants of the text. -/
structure IterText (P : Program) (f : Nat) (fn : Func) (m : Nat) (pre : Option Code) (id : Nat) (c : Code) (psh head mid : Shape) : Prop where
  at_ : P.funcs[f]? = some fn
  body : fn.body = some (match pre with
    | some p => .seq p (.block id (.loop c))
    | none => .block id (.loop c))
  name : (fn.name == "runtime.NumGoroutine") = false
  res : fn.results = #[]
  len : Nat.blt m fn.ntmps = true
  slots : slotsFrom 1 psh.sl = true
  lenm : Nat.beq psh.sl.length m = true
  rootp : rooted (rangeN 1 m) psh.sl 0 psh.bl = true
  ptp : allPt psh.sl = true
  ndp : nodupS psh.sl = true
  rooth : rooted (rangeN 1 m) head.sl 0 head.bl = true
  rootm : rooted (rangeN 1 m) mid.sl 0 mid.bl = true
  ndh : nodupS head.sl = true
  ndm : nodupS mid.sl = true

def iterSlots (base k : Nat) : Slots := ⟨false, base, upTo k, fun tm => tm.size = k, (frameSlots base k).lt, (frameSlots base k).set⟩

/-- What stands ahead of the loop. -/
noncomputable def startY (TT : Tab) (Δ : Nat → Option CallO) (ok : Nat → Bool) (Λ : Nat → Option LoopO) (pre : Option Code) (head psh : Shape) (x : psh.den) : Option head.den :=
  match pre with
  | none => head.take (psh.put x)
  | some p => evC TT Δ ok Λ p (psh.put x) fun e s => match e with
    | .nm => head.take s
    | _ => none

section
variable {P : Program} {TT : Tab} {Δ : Nat → Option CallO} {Λ : Nat → Option LoopO} {El : Type}

theorem iterOK_of (hm : P.follows .mixedOrders = true) (hP : TabOK P TT) (hΔ : CallsOK P Δ) {f : Nat} {fn : Func} {m : Nat} {pre : Option Code} {id : Nat} {c : Code} {psh head mid : Shape} {encs : El → List Value} {elOf : List AV → Option El} {rid j : Nat}
    (hT : IterText P f fn m pre id c psh head mid) (hel : ∀ args e w ok ι vals, elOf args = some e → RelL w ok ι args vals → vals = encs e)
    (hL : ∀ n : Slots, n.ok = roundOk (upTo fn.ntmps) (rangeN 0 (m + 1)) → LoopsIn P n none Λ c ∧ ∀ p, pre = some p → LoopsIn P n none Λ p) {D : psh.den → Option (List El)}
    (hD : ∀ x xs, D x = some xs → ∃ x0 k, startY TT Δ (roundOk (upTo fn.ntmps) (rangeN 0 (m + 1))) Λ pre head psh x = some x0 ∧ colY (stepY TT Δ (roundOk (upTo fn.ntmps) (rangeN 0 (m + 1))) Λ rid j mid head elOf id c) k x0 = some xs) : IterOK P f encs (capG psh D) := by
  refine ⟨⟨fn, hT.at_, hT.name, by rw [hT.body]; rfl⟩, ?_⟩
  intro X keep w0 w ι C cs us xs O h hv hcap hokO hcO l J Jx W hwl hlW hwW hsame hJ hJl hJm hJxm hyield
  unfold capG at hcap
  generalize hρ : blkB C psh.bl 0 (blkS (getT (numT 1 cs)) psh.sl []) = ρ at hcap
  split at hcap
  · rename_i hc1
    simp only [Bool.and_eq_true] at hc1
    have hnd := nodupN_iff hc1.1
    have hal := Nat.eq_of_beq_eq_true hc1.2
    split at hcap
    · rename_i x e1
      split at hcap
      · rename_i y e2
        obtain ⟨x0, k0, hst, hcol⟩ := hD (x, y) xs hcap
        let yv : Value := .func (.yield l) #[] #[]
        let V : Nat → Value := fun t => (yv :: us).getD t undef
        have hlm : psh.sl.length = m := Nat.eq_of_beq_eq_true hT.lenm
        have hul : us.length = m := (RelL_length hv).trans (hal.trans hlm)
        have hmk : m < fn.ntmps := Nat.le_of_ble_eq_true hT.len
        have hTV : ∀ t, RelV w (okb X w ι C) ι (getT (numT 1 cs) t) (V t) := by
          intro t
          cases t with
          | zero =>
            rw [(getT_numT cs us 1 0 hv).2 0 (by omega)]
            simp only [RelV]
          | succ t =>
            have := (getT_numT cs us 1 t hv).1
            rw [Nat.add_comm] at this
            simpa [V] using this
        obtain ⟨_, _, _, hbl, hbk, hbk', hrel⟩ := takeC_sound h hTV e1 e2 (by show meetN ρ [] = false; exact meetN_nil ρ)
        have hbk : ∀ j b, bk (fun j => (ρ[j]?).bind ι) (getB (putB psh.bl y)) j = some b → ∃ i, ρ[j]? = some i ∧ bk ι C i = some b := hbk
        have hrel : ∀ ok' : Nat → Prop, (∀ g, okb X w ι C g → ok' g) → (∀ j, RelB w ok' (fun j => (ρ[j]?).bind ι) j (getB (putB psh.bl y) j)) ∧ ∀ t, RelV w ok' (fun j => (ρ[j]?).bind ι) (getT (putS psh.sl x) t) (V t) := hrel
        let Cp := Capt ι C cs
        -- what the kept slots point to is captured
        have hCp : ∀ t ∈ rangeN 1 m, ∀ b o, V t = .pointer (some ⟨b, o, none⟩) → Cp b := by
          intro t ht b o hvt
          have ht' := mem_rangeN.1 ht
          have hts : t ∈ slotsOf psh.sl := slotsFrom_mem hT.slots ht'.1 (by omega)
          obtain ⟨j', o', i, q1, q2, q3⟩ := takeS_pt e1 hT.ptp t hts
          have hl : j' < psh.bl.length := by rw [hbl]; exact (List.getElem?_eq_some_iff.1 q3).1
          obtain ⟨⟨cs', q4⟩, _⟩ := rooted_iff hT.rootp j' hl
          obtain ⟨vs, q5⟩ := takeB_box e2 j' i cs' q4 q3
          have q6 := hTV t
          rw [q2, hvt] at q6
          simp only [RelV] at q6
          obtain ⟨g, g1, g2⟩ := q6
          injection g2 with g2
          injection g2 with g2
          injection g2 with g2 _
          refine ⟨i, getT_numT_mem q2, ?_⟩
          unfold bk
          rw [q5, g1, g2]
        -- the frame
        let ι' : Nat → Option Value := fun j => (ρ[j]?).bind ι
        let C' := getB (putB psh.bl y)
        have hown : ∀ b, owned ι' C' b → owned ι C b := by
          rintro b ⟨j', hj⟩
          obtain ⟨i, _, hi⟩ := hbk j' b hj
          exact ⟨i, hi⟩
        let X0 : Nat → Prop := fun b => b < w.heap.size ∧ ¬ okb X w ι C b ∧ ¬ owned ι' C' b
        have hokc : ∀ b, okb X w ι C b → okb X0 w ι' C' b := fun b hb => ⟨hb.1, fun ho => hb.2.1 (hown b ho), fun hx => hx.2.1 hb⟩
        obtain ⟨hB, hTt⟩ := hrel (okb X0 w ι' C') hokc
        have Hc : HRel X0 (fun b => b < w.heap.size ∧ ¬ owned ι' C' b) w ι' C' w := ⟨hB, fun j j' b h1 h2 => by
            obtain ⟨i, hi, hb⟩ := hbk j b h1
            obtain ⟨i', hi', hb'⟩ := hbk j' b h2
            have e := h.inj i i' b hb hb'
            subst e
            have hlt := (List.getElem?_eq_some_iff.1 hi).1
            exact (List.getElem?_inj hlt hnd).1 (hi.trans hi'.symm), Kept.refl _ _, fun b hb hk => hk.2 hb, fun b hb => hb.1, fun b hb hx => hx.2.2 hb, fun b hb => hb.1⟩
        let args : Array Value := #[yv] ++ us.toArray
        let a0 : Act := { tmps := args ++ Array.replicate (fn.ntmps - args.size) undef, defers := [] }
        have hasz : args.size = m + 1 := by simp only [args, Array.size_append, List.size_toArray, hul]; simp; omega
        have ha0 : ∀ t, a0.tmps.getD t undef = V t := by
          intro t
          have hargs : args = (yv :: us).toArray := by simp [args]
          show (args ++ Array.replicate (fn.ntmps - args.size) undef).getD t undef = (yv :: us).getD t undef
          rw [hargs, Array.getD_eq_getD_getElem?, List.getD_eq_getElem?_getD]
          rcases Nat.lt_or_ge t (yv :: us).length with ht | ht
          · rw [Array.getElem?_append_left (by simpa using ht)]
            simp
          · rw [Array.getElem?_append_right (by simpa using ht), List.getElem?_eq_none ht, Array.getElem?_replicate]
            split <;> rfl
        let n : Slots := roundSlots (iterSlots W.heap.size fn.ntmps) (rangeN 0 (m + 1)) a0
        have hsz0 : a0.tmps.size = fn.ntmps := by
          simp only [a0, Array.size_append, Array.size_replicate]
          omega
        have hn0 : ∀ tm, n.G tm → tm.getD 0 undef = .func (.yield l) #[] #[] := fun tm hg => by
          rw [hg.2 0 (mem_rangeN.2 ⟨Nat.le_refl _, by omega⟩), ha0]
          rfl
        have hpin : ∀ tm, n.G tm → ∀ t ∈ rangeN 1 m, tm.getD t undef = V t := fun tm hg t ht => by
          have := mem_rangeN.1 ht
          rw [hg.2 t (mem_rangeN.2 ⟨by omega, by omega⟩), ha0]
        have hcapt : ∀ {X' keep' w0' w' ι'' sh} {z : Shape.den sh} {a'}, SRel X' keep' w0' n ι'' (sh.put z) a' w' → rooted (rangeN 1 m) sh.sl 0 sh.bl = true → nodupS sh.sl = true → ∀ b, owned ι'' (getB (sh.put z).bl) b → Cp b := by
          intro X' keep' w0' w' ι'' sh z a' S hr hn b hb
          obtain ⟨t, ht, o, hv⟩ := rooted_owned S hr hn hb
          exact hCp t ht b o ((hpin _ S.f.size t ht).symm.trans hv)
        have hCpw : ∀ b, Cp b → b < w.heap.size := by rintro b ⟨k, _, hb⟩; exact h.lt ⟨k, hb⟩
        have hCpO : ∀ b, Cp b → ¬ O b := hcO
        -- the state at the start
        have hownCp : ∀ b, owned ι' C' b → Cp b := by
          rintro b ⟨j', hj⟩
          have hl : j' < psh.bl.length := by
            rcases Nat.lt_or_ge j' psh.bl.length with q | q
            · exact q
            · have : C' j' = .dead := getB_out _ _ (by rw [putB_length]; exact q)
              rw [bk_dead this] at hj
              cases hj
          obtain ⟨i, hi, hb⟩ := hbk j' b hj
          obtain ⟨⟨cs', q4⟩, q5⟩ := rooted_iff hT.rootp j' hl
          rw [Nat.zero_add] at q5
          obtain ⟨t, o, q6, q7⟩ := rootIn_iff q5
          have ht' := mem_rangeN.1 q7
          have hts : t ∈ slotsOf psh.sl := slotsFrom_mem hT.slots ht'.1 (by omega)
          have q8 : getT (putS psh.sl x) t = .pt j' o := by
            obtain ⟨yy, hyy⟩ := getT_putS psh.sl x t _ hT.ndp q6
            exact hyy
          have q9 := (hrel (okb X0 w ι' C') hokc).2 t
          rw [q8] at q9
          simp only [RelV] at q9
          obtain ⟨g, g1, g2⟩ := q9
          have g3 : (ρ[j']?).bind ι = some (.pointer (some ⟨g, 0, none⟩)) := g1
          rw [hi] at g3
          have g3 : ι i = some (.pointer (some ⟨g, 0, none⟩)) := g3
          obtain ⟨vs, q10⟩ := takeB_box e2 j' i cs' q4 hi
          unfold bk at hb
          rw [q10, g3] at hb
          injection hb with hb
          have hb : g = b := hb
          subst hb
          exact hCp t q7 g o g2
        let keepV : World → Nat → Prop := fun V b => b < V.heap.size ∧ ¬ Cp b
        obtain ⟨HW, HWv⟩ := Hc.jump hwW (fun b hb _ => hsame b hb) (keepV W) (fun b hb => ⟨hb.1, fun ho => hb.2 (hownCp b ho)⟩)
        obtain ⟨XW, hXW⟩ : ∃ XW : Nat → Prop, XW = fun b => b < W.heap.size ∧ ¬ okb X0 w ι' C' b ∧ ¬ owned ι' C' b := ⟨_, rfl⟩
        rw [← hXW] at HW HWv
        have hjl : (psh.put (x, y)).bl.length = ρ.length := by rw [← hbl]; exact putB_length _ _
        have SW : SRel XW (keepV W) W n ι' (psh.put (x, y)) a0 W := by
          refine ⟨⟨HW, fun t => ?_, ⟨hsz0, fun _ _ => rfl⟩, Nat.le_refl _, fun _ => rfl, trivial⟩, fun j' hj => ?_⟩
          · rw [ha0 t]; exact HWv _ _ (hTt t)
          · show (ρ[j']?).bind ι = none
            rw [List.getElem?_eq_none (by omega)]
            rfl
        have hXWO : ∀ b, b < W.heap.size → ¬ XW b → ¬ O b ∧ b ≠ l := by
          intro b hb hx
          have hcase : okb X0 w ι' C' b ∨ owned ι' C' b := Classical.byContradiction fun q => hx (by rw [hXW]; exact ⟨hb, fun q1 => q (.inl q1), fun q1 => q (.inr q1)⟩)
          rcases hcase with q | q
          · have hbw := q.1
            have hq2 : okb X w ι C b ∨ owned ι' C' b := Classical.byContradiction fun q1 => q.2.2 ⟨hbw, fun q2 => q1 (.inl q2), fun q2 => q1 (.inr q2)⟩
            refine ⟨?_, by omega⟩
            rcases hq2 with q1 | q1
            · exact hokO b q1
            · exact hcO b (hownCp b q1)
          · have := hownCp b q
            exact ⟨hcO b this, by have := hCpw b this; omega⟩
        let R : Ending → World → Prop := fun e W' => (∃ v, e = .returned v) ∧ ((∃ O', J xs O' W') ∨ Jx W')
        have fin : ∀ {X' keep' w0' w' ι'' s' a'}, SRel X' keep' w0' n ι'' s' a' w' → ((∃ O', J xs O' w') ∨ Jx w') → a'.defers = [] ∧ ∃ v, (results fn a'.tmps).run P w' = .ok v w' ∧ R (.returned v) w' := by
          intro X' keep' w0' w' ι'' s' a' S hR
          obtain ⟨_, v, r1, _⟩ := results_sound (fn := fn) (vs := []) hP S (by rw [hT.res]; rfl)
          exact ⟨S.f.defers.2.1 rfl, v, r1, ⟨v, rfl⟩, hR⟩
        -- ahead of a round
        let step := stepY TT Δ (roundOk (upTo fn.ntmps) (rangeN 0 (m + 1))) Λ rid j mid head elOf id c
        let Inv : Nat → Act → World → Prop := fun k a w => ∃ pre rest x ι X V O, SRel X (keepV V) V n ι (head.put x) a w ∧ xs = pre ++ rest ∧ colY step k x = some rest ∧ J pre O V ∧ W.heap.size ≤ V.heap.size ∧ l < V.heap.size ∧ (∀ b, b < V.heap.size → ¬ X b → ¬ O b ∧ b ≠ l) ∧ ∀ b, Cp b → ¬ O b
        have turned : ∀ {X' keep' w0' w' ι'' s' a' V}, SRel X' keep' w0' n ι'' s' a' w' → Later (keepV V) V keep' w0' → Turned Cp V w' := by
          intro X' keep' w0' w' ι'' s' a' V S hlat
          refine ⟨S.f.h.fr.os.trans hlat.kept.os, S.f.h.fr.tape.trans hlat.kept.tape, S.f.h.fr.output.trans hlat.kept.output, Nat.le_trans hlat.kept.size S.f.h.fr.size, fun b hb hc => ?_⟩
          exact (S.f.h.fr.block b (hlat.mono b ⟨hb, hc⟩) (Nat.lt_of_lt_of_le hb hlat.kept.size)).trans (hlat.kept.block b ⟨hb, hc⟩ hb)
        have back : ∀ {X' keep' w0' w' ι'' s' a' V}, SRel X' keep' w0' n ι'' s' a' w' → Later (keepV V) V keep' w0' → (∀ b, X' b → b < V.heap.size) → W.heap.size ≤ V.heap.size → SRel X' (keepV V) V n ι'' s' a' w' := by
          intro X' keep' w0' w' ι'' s' a' V S hlat hXl hWV
          have hd := S.f.defers.2.1 rfl
          exact ⟨⟨S.f.h.weaken hlat.mono hlat.kept (fun b hb => hb.1) hXl, S.f.tm, S.f.size, hWV, fun _ => hd, by rw [hd]; trivial⟩, S.dom⟩
        obtain ⟨hLc, hLp⟩ := hL n rfl
        have loop : ∀ k a w', Inv k a w' → (Code.loop c).wpIn (WF none) 2 P (Exit.inBlock id (bodyPost P fn R)) a w' := by
          intro k a w' hI
          refine wp_loop_ix Inv ?_ ?_ hI
          · rintro a w ⟨pre, rest, x, ι, X, V, O, _, _, hc, _⟩
            cases hc
          · rintro k a w ⟨pre, rest, x, ι1, X1, V1, O1, S1, hxs, hc, hJ1, hWV, hlV, hX1, hC1⟩
            simp only [colY] at hc
            have hXl : ∀ b, X1 b → b < V1.heap.size := fun b hb => S1.f.h.xl b hb
            have hJl1 : ∀ b, O1 b → b < V1.heap.size := hJl _ _ _ hJ1
            cases hsx : step x with
            | none => rw [hsx] at hc; cases hc
            | some r =>
              rw [hsx] at hc
              have hst' := hsx
              refine evY_sound (n := n) (rid := rid) (j := j) (mid := mid) (l := l) hm hP hΔ hn0 c hLc _ _ _ _ _ a w ι1 (keepV V1) V1 S1 hst' (fun e s' a' w' ι2 k2 v2 hlat hk S2 => ?_) fun args vals res z a' w' ι2 k2 v2 hlat S2 hargs hY => ?_
              · -- no element is handed over
                have ht := turned S2 hlat
                cases e with
                | nm =>
                  simp only at hk
                  split at hk
                  · rename_i y hy
                    injection hk with hk
                    subst hk
                    obtain ⟨ι3, S3⟩ := Shape.take_sound S2 hy
                    exact ⟨pre, rest, y, ι3, X1, V1, O1, back S3 hlat hXl hWV, hxs, hc, hJ1, hWV, hlV, hX1, hC1⟩
                  · cases hk
                | ex i =>
                  simp only at hk
                  split at hk
                  · rename_i hi
                    injection hk with hk
                    subst hk
                    injection hc with hc
                    subst hc
                    rw [List.append_nil] at hxs
                    show (Exit.inBlock id (bodyPost P fn R)) (.exit i) a' w'
                    simp only [Exit.inBlock]
                    rw [if_pos (Nat.eq_of_beq_eq_true hi)]
                    exact fin S2 (.inl ⟨O1, by rw [hxs]; exact hJm _ _ _ _ hJ1 ht⟩)
                  · cases hk
                | rt =>
                  simp only at hk
                  injection hk with hk
                  subst hk
                  injection hc with hc
                  subst hc
                  rw [List.append_nil] at hxs
                  exact fin S2 (.inl ⟨O1, by rw [hxs]; exact hJm _ _ _ _ hJ1 ht⟩)
              · -- an element is handed over
                split at hY
                · rename_i e he
                  split at hY
                  · rename_i y hrt hrf
                    injection hY with hY
                    subst hY
                    simp only at hc
                    split at hc
                    · rename_i rest' hrest
                      injection hc with hc
                      subst hc
                      have ht := turned S2 hlat
                      have hJ2 := hJm _ _ _ _ hJ1 ht
                      obtain ⟨ok3, ι3, hr3⟩ := hargs
                      rw [hel args e w' ok3 ι3 vals he hr3]
                      obtain ⟨fy, tmps, assign, body, q1, q2⟩ := hyield pre e ⟨rest', by rw [hxs]; simp⟩ O1 w' hJ2
                      refine ⟨fy, tmps, assign, body, q1, q2.mono ?_⟩
                      have hcm : ∀ b, owned ι2 (getB (mid.put z).bl) b → Cp b := hcapt S2 hT.rootm hT.ndm
                      have hV1w : V1.heap.size ≤ w'.heap.size := ht.size
                      have hokm : ∀ b, b < w'.heap.size → okb X1 w' ι2 (getB (mid.put z).bl) b ∨ owned ι2 (getB (mid.put z).bl) b → ¬ O1 b ∧ b ≠ l := by
                        intro b hb hor
                        rcases hor with q | q
                        · rcases Nat.lt_or_ge b V1.heap.size with q3 | q3
                          · exact hX1 b q3 q.2.2
                          · exact ⟨fun ho => absurd (hJl1 b ho) (by omega), by omega⟩
                        · have := hcm b q
                          exact ⟨hC1 b this, by have := hCpw b this; omega⟩
                      have hW2 : W.heap.size ≤ w'.heap.size := Nat.le_trans hWV hV1w
                      have hd2 := S2.f.defers.2.1 rfl
                      -- behind it
                      have after : ∀ W'', w'.heap.size ≤ W''.heap.size → (∀ b, b < w'.heap.size → okb X1 w' ι2 (getB (mid.put z).bl) b ∨ owned ι2 (getB (mid.put z).bl) b → W''.heap[b]? = w'.heap[b]?) →
                          ∃ X2 : Nat → Prop, SRel X2 (keepV W'') W'' n ι2 (mid.put z) a' W'' ∧ ∀ b, b < W''.heap.size → ¬ X2 b → okb X1 w' ι2 (getB (mid.put z).bl) b ∨ owned ι2 (getB (mid.put z).bl) b := by
                        intro W'' hs hsm
                        obtain ⟨H3, H3v⟩ := S2.f.h.jump hs hsm (keepV W'') (fun b hb => ⟨hb.1, fun ho => hb.2 (hcm b ho)⟩)
                        refine ⟨_, ⟨⟨H3, fun t => H3v _ _ (S2.f.tm t), S2.f.size, Nat.le_trans hW2 hs, fun _ => hd2, by rw [hd2]; trivial⟩, S2.dom⟩, fun b hb hx => ?_⟩
                        exact Classical.byContradiction fun q => hx ⟨hb, fun q1 => q (.inl q1), fun q1 => q (.inr q1)⟩
                      rintro e' W'' (⟨rfl, O2, hJ3, hys⟩ | ⟨rfl, hJx3, hys⟩)
                      · obtain ⟨X2, S3, hX2⟩ := after W'' hys.size (fun b hb hor => by
                          obtain ⟨q3, q4⟩ := hokm b hb hor
                          exact hys.block b hb q3 q4)
                        refine ⟨true, rfl, X2, keepV W'', W'', .go y, hrt, S3, fun e3 s3 a3 w3 ι3 k3 v3 hl3 hk3 S4 => ?_⟩
                        cases e3 with
                        | nm =>
                          simp only at hk3
                          split at hk3
                          · rename_i y' hy'
                            injection hk3 with hk3
                            injection hk3 with hk3
                            subst hk3
                            obtain ⟨ι4, S5⟩ := Shape.take_sound S4 hy'
                            have hlW2 : l < W''.heap.size := Nat.lt_of_lt_of_le (Nat.lt_of_lt_of_le hlV hV1w) hys.size
                            refine ⟨pre ++ [e], rest', y', ι4, X2, W'', O2, back S5 hl3 (fun b hb => S3.f.h.xl b hb) (Nat.le_trans hW2 hys.size), by rw [hxs]; simp, hrest, hJ3, Nat.le_trans hW2 hys.size, hlW2, fun b hb hx => ?_, fun b hb ho => ?_⟩
                            · have q3 := hX2 b hb hx
                              have hbw : b < w'.heap.size := by
                                rcases q3 with q3 | q3
                                · exact q3.1
                                · exact Nat.lt_of_lt_of_le (hCpw b (hcm b q3)) (Nat.le_trans hwW hW2)
                              obtain ⟨q4, q5⟩ := hokm b hbw q3
                              exact ⟨fun ho => q4 (hys.own b hbw ho), q5⟩
                            · exact hC1 b hb (hys.own b (Nat.lt_of_lt_of_le (hCpw b hb) (Nat.le_trans hwW hW2)) ho)
                          · cases hk3
                        | ex i =>
                          simp only at hk3
                          split at hk3
                          · cases hk3
                          · cases hk3
                        | rt => cases hk3
                      · obtain ⟨X2, S3, hX2⟩ := after W'' hys.size (fun b hb hor => by
                          obtain ⟨q3, q4⟩ := hokm b hb hor
                          exact hys.block b hb q3 q4)
                        refine ⟨false, rfl, X2, keepV W'', W'', .done, hrf, S3, fun e3 s3 a3 w3 ι3 k3 v3 hl3 hk3 S4 => ?_⟩
                        have hJx4 : Jx w3 := hJxm _ _ hJx3 (turned S4 hl3)
                        cases e3 with
                        | nm =>
                          simp only at hk3
                          split at hk3
                          · cases hk3
                          · cases hk3
                        | ex i =>
                          simp only at hk3
                          split at hk3
                          · rename_i hi
                            show (Exit.inBlock id (bodyPost P fn R)) (.exit i) a3 w3
                            simp only [Exit.inBlock]
                            rw [if_pos (Nat.eq_of_beq_eq_true hi)]
                            exact fin S4 (.inr hJx4)
                          · cases hk3
                        | rt => exact fin S4 (.inr hJx4)
                    · cases hc
                  · cases hY
                · cases hY
        have start : ∀ {X' keep' w0' w' ι'' a'}, SRel X' keep' w0' n ι'' (head.put x0) a' w' → Later (keepV W) W keep' w0' → (∀ b, X' b → XW b) → (∀ b, XW b → X' b) → (Code.loop c).wpIn (WF none) 2 P (Exit.inBlock id (bodyPost P fn R)) a' w' := by
          intro X' keep' w0' w' ι'' a' S hlat hX1 hX2
          refine loop k0 a' w' ⟨[], xs, x0, ι'', X', W, O, back S hlat (fun b hb => by have := hX1 b hb; rw [hXW] at this; exact this.1) (Nat.le_refl _), rfl, hcol, hJ, Nat.le_refl _, hlW, fun b hb hx => hXWO b hb (fun q => hx (hX2 b q)), hCpO⟩
        refine callsIn_of_wp (F := WF none) (n := 2) hT.at_ hT.body trivial ?_ rfl
        cases hpre : pre with
        | none =>
          rw [hpre] at hst
          simp only [startY] at hst
          obtain ⟨ι3, S3⟩ := Shape.take_sound SW hst
          exact wpIn_block (start S3 (Later.refl _ _) (fun _ q => q) (fun _ q => q))
        | some p =>
          rw [hpre] at hst
          simp only [startY] at hst
          refine wpIn_seq (evC_sound (n := n) hm hP hΔ p (hLp p hpre) _ _ _ a0 W ι' (keepV W) W SW hst fun e s' a' w1 ι1 k1 v1 hlat hk S1 => ?_)
          cases e with
          | nm =>
            obtain ⟨ι3, S3⟩ := Shape.take_sound S1 hk
            exact wpIn_block (start S3 hlat (fun _ q => q) (fun _ q => q))
          | ex i => cases hk
          | rt => cases hk
      · cases hcap
    · cases hcap
  · cases hcap
end
end Go.Proofs.Rf
