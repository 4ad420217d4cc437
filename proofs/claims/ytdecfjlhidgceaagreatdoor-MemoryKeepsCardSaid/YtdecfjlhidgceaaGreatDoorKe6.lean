/- Texts put together: M10, M11, K12, Z12, M12, Gg, Gh, M13, M14, M15, M16, M17, Gx12. -/
import Derived.Test.YtdecfjlhidgceaaGreatDoorKe5
import Derived.Below
import Derived.WalkKit
import Derived.ProofKit
import Derived.OpenShut
import Derived.ChangeOld
import Derived.ChangeArms
import Derived.Carry
import Derived.Test.YtdecfjlhidgceaaGreatDoorRows
import Derived.LaidMore
import Derived.LaidSub
import Derived.LaidLaws
import Derived.Lib.LaidU8
import Derived.Stop.Joined
namespace Go.Proofs.Rf
open Go Go.RowKit
def eIni (m : List Bp) (n off many : Int) : Int :=
 if z5W m n = 0 then (if off < 0 ∨ ((m.getD n.toNat dB).2.length : Int) < off ∨ ((m.getD n.toNat dB).2.length : Int) - off < many then 26 else 0) else z5W m n
theorem eIni_0 {m : List Bp} {n off many : Int} (h : eIni m n off many = 0) : 0 ≤ n ∧ n < m.length ∧ 0 ≤ off ∧ off ≤ (m.getD n.toNat dB).2.length ∧ off + many ≤ (m.getD n.toNat dB).2.length := by
 unfold eIni at h
 split at h
 ·rename_i hl
  obtain ⟨p1, p2⟩ := z7d hl
  split at h
  ·cases h
  ·omega
 ·contradiction
theorem L89_val {m : List Bp} (hI : Inv m) (u : Int) (n off : Int) {many : Int} (h0 : 0 ≤ many) :
  L89 (((), n, off, many, ()), ((), u, ()), m, ()) = some (((), (if eIni m n off many = 0 then (n.toNat, off.toNat, many.toNat) else (0, 0, 0)), eIni m n off many, ()), ((), u, ()), m, ()) := by
 refine (F89_eq L84 n off many u m).trans ?_
 rw [show L84 ((m, u, ()), n, ()) = _ from L84_val m u n]
 simp only [Option.bind_some]
 unfold eIni
 by_cases hl : z5W m n = 0
 ·obtain ⟨p1, p2⟩ := z7d hl
  have hB := (hI.at n.toNat).1
  have hB : (m.getD n.toNat ((0, 0, false, false), [])).2.length ≤ 65536 := hB
  rw [if_neg (by rw [hl]; decide)]
  simp only [if_pos hl]
  rw [if_pos p1, if_pos p2]
  by_cases h1 : off < 0
  ·rw [if_pos (decide_eq_true h1), if_pos (show off < 0 ∨ _ from .inl h1), if_neg (by decide)]
  ·rw [if_neg (by rw [decide_eq_true_eq]; exact h1)]
   by_cases h2 : ((m.getD n.toNat ((0, 0, false, false), [])).2.length : Int) < off
   ·rw [if_pos (decide_eq_true h2), if_pos (show off < 0 ∨ ((m.getD n.toNat dB).2.length : Int) < off ∨ _ from .inr (.inl h2)), if_neg (by decide)]
   ·rw [if_neg (by rw [decide_eq_true_eq]; exact h2), wi (by omega) (by omega)]
    by_cases h3 : ((m.getD n.toNat ((0, 0, false, false), [])).2.length : Int) - off < many
    ·rw [if_pos (decide_eq_true h3), if_pos (show off < 0 ∨ ((m.getD n.toNat dB).2.length : Int) < off ∨ ((m.getD n.toNat dB).2.length : Int) - off < many from .inr (.inr h3)), if_neg (by decide)]
    ·have hno : ¬ (off < 0 ∨ ((m.getD n.toNat dB).2.length : Int) < off ∨ ((m.getD n.toNat dB).2.length : Int) - off < many) := by
      rintro (q | q | q)
      ·exact h1 q
      ·exact h2 q
      ·exact h3 q
     rw [if_neg (by rw [decide_eq_true_eq]; exact h3), if_neg hno, if_pos rfl, if_pos (by omega), if_pos (by omega), if_pos (Int.le_refl _), if_pos trivial, if_pos h0]
     refine (if_pos (by omega)).trans ?_
     rw [Nat.zero_add]
 ·rw [if_pos (by rw [Bool.not_eq_true', beq_eq_false_iff_ne]; exact hl)]
  simp only [if_neg hl]
theorem fst2z (x y : Int) : fstZ 0 [x, y] = if x = 0 then y else x := by
 unfold fstZ
 split
 ·unfold fstZ
  split
  ·rename_i q; rw [q]; rfl
  ·rfl
 ·rfl
def pc (b : List Int) (un : List Bool) (i : Nat) : Cl := if 0 < un.length ∧ un.getD i false = true then zC else (1, b.getD i 0, 0, 0)
def puE (m : List Bp) (n off : Int) (b : List Int) (un : List Bool) : Int := fstZ 0 [eIni m n off b.length, if 0 < un.length ∧ un.length ≠ b.length then 2 else 0]
def puM (m : List Bp) (n off : Int) (b : List Int) (un : List Bool) : Int × List Bp := if puE m n off b un = 0 then (0, Wg m n.toNat off.toNat ((List.range b.length).map (pc b un))) else (puE m n off b un, m)
theorem puE_0 {m : List Bp} {n off : Int} {b : List Int} {un : List Bool} (h : puE m n off b un = 0) : eIni m n off b.length = 0 ∧ (0 < un.length → un.length = b.length) := by
 unfold puE at h
 rw [fst2z] at h
 by_cases h1 : eIni m n off b.length = 0
 ·rw [if_pos h1] at h
  refine ⟨h1, fun q => Decidable.byContradiction fun q2 => ?_⟩
  rw [if_pos ⟨q, q2⟩] at h
  cases h
 ·rw [if_neg h1] at h
  exact absurd h h1
theorem pc_wf (b : List Int) (un : List Bool) (i : Nat) : wfC (pc b un i) := by
 unfold pc
 split
 ·exact .inl rfl
 ·exact .inr (.inl ⟨rfl, rfl⟩)
theorem puM_stp {m : List Bp} (hI : Inv m) (n off : Int) (b : List Int) (un : List Bool) {u : Int} {hp : Prop} : Stp m u hp (puM m n off b un).2 u := by
 unfold puM
 split
 ·rename_i h
  obtain ⟨h1, _⟩ := puE_0 h
  obtain ⟨_, _, p3, p4, p5⟩ := eIni_0 h1
  have p5 : off + (b.length : Int) ≤ ((m.getD n.toNat dG).2.length : Int) := p5
  refine W_stp hI (by rw [List.length_map, List.length_range]; omega) fun c hc => ?_
  obtain ⟨i, _, rfl⟩ := List.mem_map.1 hc
  exact pc_wf b un i
 ·exact .same hI
theorem Lg43_6_val {m : List Bp} (u : Int) {n off : Nat} {b : List Int} {un : List Bool} (hb : b.length ≤ 1000) (hu : 0 < un.length → un.length = b.length) (hn : n < m.length) (ho : off + b.length ≤ (m.getD n dG).2.length) :
  Lg43_6 (((), un, (n, off, b.length), b, (b.length : Int), 0, ()), ((), u, ()), m, ()) = some (((), ()), ((), u, ()), Wg m n off ((List.range b.length).map (pc b un)), ()) := by
 obtain ⟨z, h1, rfl⟩ := z0P (f := S43_6) (fun t => b.length - t.1.2.2.2.2.2.1.toNat)
  (fun t => ∃ i : Nat, i ≤ b.length ∧ t = (((), un, (n, off, b.length), b, (b.length : Int), (i : Int), ()), ((), u, ()), Wg m n off ((List.range i).map (pc b un)), ()))
  (fun z => z = (((), ()), ((), u, ()), Wg m n off ((List.range b.length).map (pc b un)), ())) (by
  rintro t ⟨i, hi, rfl⟩
  rw [S43_6_eq]
  by_cases h : i < b.length
  ·have q1 : (0 : Int) ≤ (i : Int) := by omega
   have q2 : (i : Int) < (b.length : Int) := by omega
   have hs := fun c => Wg_step (m := m) (k := n) (off := off) (cs := (List.range i).map (pc b un)) hn (by rw [List.length_map, List.length_range]; omega) c
   rw [List.length_map, List.length_range] at hs
   have hW : Wg m n off ((List.range i).map (pc b un) ++ [pc b un i]) = Wg m n off ((List.range (i + 1)).map (pc b un)) := by
    rw [List.range_succ, List.map_append]
    rfl
   rw [if_pos (decide_eq_true q2)]
   simp only [if_pos q1, if_pos q2, Int.toNat_natCast]
   rw [wi (by omega) (by omega)]
   refine .inl ⟨(((), un, (n, off, b.length), b, (b.length : Int), ((i + 1 : Nat) : Int), ()), ((), u, ()), Wg m n off ((List.range (i + 1)).map (pc b un)), ()), ?_, ⟨i + 1, by omega, rfl⟩, ?_⟩
   ·rw [← hW, ← hs (pc b un i)]
    by_cases h0 : 0 < un.length
    ·have hul := hu h0
     have q3 : (i : Int) < (un.length : Int) := by omega
     rw [if_pos (by rw [decide_eq_true_eq]; omega), if_pos q3]
     by_cases hun : un.getD i false = true
     ·have hpc : pc b un i = zC := by unfold pc; rw [if_pos ⟨h0, hun⟩]
      rw [if_pos hun, hpc]
      have hg : (Wg m n off ((List.range i).map (pc b un))).length = m.length := z2d _ _ _ _
      have e := fun X => z6d (Wg m n off ((List.range i).map (pc b un))) n n X dB (by rw [hg]; exact hn)
      have e := fun X => (e X).trans (if_pos rfl)
      simp only [e, List.set_set]
      rfl
     ·have hpc : pc b un i = (1, b.getD i 0, 0, 0) := by unfold pc; rw [if_neg fun q => hun q.2]
      rw [if_neg hun, hpc]
      rfl
    ·have hpc : pc b un i = (1, b.getD i 0, 0, 0) := by unfold pc; rw [if_neg fun q => h0 q.1]
     rw [if_neg (by rw [decide_eq_true_eq]; omega), hpc]
     rfl
   ·show b.length - ((i + 1 : Nat) : Int).toNat < b.length - (i : Int).toNat
    omega
  ·have : i = b.length := by omega
   subst this
   rw [if_neg (by rw [decide_eq_true_eq]; omega)]
   exact .inr ⟨_, rfl, rfl⟩) (((), un, (n, off, b.length), b, (b.length : Int), ((0 : Nat) : Int), ()), ((), u, ()), Wg m n off ((List.range 0).map (pc b un)), ()) ⟨0, by omega, rfl⟩
 rw [show (List.range 0).map (pc b un) = [] from rfl, z2h] at h1
 exact h1
theorem L43_val {m : List Bp} (hI : Inv m) (u : Int) (n off : Int) {b : List Int} {un : List Bool} (hb : b.length ≤ 1000) : L43 (((), n, off, b, un, ()), ((), u, ()), m, ()) = some (((), (puM m n off b un).1, ()), ((), u, ()), (puM m n off b un).2, ()) := by
 refine (F43_eq L48 L49 L89 Lg43_6 n off b un u m).trans ?_
 rw [z1g]
 have h89 : L89 (((), n, off, (b.length : Int), ()), ((), u, ()), m, ()) = _ := L89_val hI u n off (by omega)
 rw [h89]
 simp only [Option.bind_some]
 have key : ∀ e2 : Int, e2 = (if 0 < un.length ∧ un.length ≠ b.length then 2 else 0) → ((L48 ([eIni m n off b.length, e2], ())).bind fun y =>
   if (!y.1.1 == 0) = true then some (((), y.1.1, ()), ((), u, ()), m, ())
   else (Lg43_6 (((), un, ((if eIni m n off b.length = 0 then (n.toNat, off.toNat, (b.length : Int).toNat) else (0, 0, 0)).1, (if eIni m n off b.length = 0 then (n.toNat, off.toNat, (b.length : Int).toNat) else (0, 0, 0)).2.1, (if eIni m n off b.length = 0 then (n.toNat, off.toNat, (b.length : Int).toNat) else (0, 0, 0)).2.2), b, (b.length : Int), 0, ()), ((), u, ()), m, ())).bind fun y => some (((), 0, ()), ((), y.2.1.2.1, ()), y.2.2.1, ()) : Option rs43.den) = some (((), (puM m n off b un).1, ()), ((), u, ()), (puM m n off b un).2, ()) := by
  rintro e2 rfl
  rw [show L48 ([eIni m n off b.length, if 0 < un.length ∧ un.length ≠ b.length then 2 else 0], ()) = some ((puE m n off b un, ()), ()) from L48_val _ (by simp)]
  simp only [Option.bind_some]
  unfold puM
  by_cases h : puE m n off b un = 0
  ·obtain ⟨h1, h2⟩ := puE_0 h
   obtain ⟨p1, p2, p3, p4, p5⟩ := eIni_0 h1
   have p5 : off + (b.length : Int) ≤ ((m.getD n.toNat dG).2.length : Int) := p5
   rw [if_neg (by rw [h]; decide), if_pos h]
   simp only [if_pos h1, Int.toNat_natCast]
   rw [Lg43_6_val u hb h2 (by omega) (by omega)]
   rfl
  ·rw [if_pos (by rw [Bool.not_eq_true', beq_eq_false_iff_ne]; exact h), if_neg h]
 by_cases h0 : 0 < un.length
 ·rw [if_pos (by rw [decide_eq_true_eq]; omega), z7w]
  simp only [Option.bind_some]
  refine key _ ?_
  by_cases h1 : un.length = b.length
  ·rw [if_neg (show ¬ (0 < un.length ∧ un.length ≠ b.length) from fun q => q.2 h1), if_neg (by simp; omega)]
  ·rw [if_pos (show 0 < un.length ∧ un.length ≠ b.length from ⟨h0, h1⟩), if_pos (by simp; omega)]
 ·rw [if_neg (by rw [decide_eq_true_eq]; omega), z7w]
  simp only [Option.bind_some]
  refine key _ ?_
  rw [if_neg (show ¬ (0 < un.length ∧ un.length ≠ b.length) from fun q => h0 q.1), if_neg (by decide)]
def pk (b : List Int) (un : List Bool) (i : Nat) : Kl := if 0 < un.length ∧ un.getD i false = true then zK else (1, b.getD i 0, (0, 0), 0)
theorem pc_cv (b : List Int) (un : List Bool) (i : Nat) : cvC (pc b un i) = pk b un i := by
 unfold pc pk
 by_cases h : 0 < un.length ∧ un.getD i false = true
 ·rw [if_pos h, if_pos h]; rfl
 ·rw [if_neg h, if_neg h]; rfl
theorem Lg80_10_val {m : List Br} (u : Int) {n off : Nat} {b : List Int} {un : List Bool} (hb : b.length ≤ 1000) (hu : 0 < un.length → un.length = b.length) (hn : n < m.length) (hL : (m.getD n dG).2.length ≤ 65536) (ho : off + b.length ≤ (m.getD n dG).2.length) :
  Lg80_10 (((), (off : Int), b, un, (n, 0, (m.getD n dG).2.length), 0, ()), ((), u, ()), m, ()) = some (((), ()), ((), u, ()), Wg m n off ((List.range b.length).map (pk b un)), ()) := by
 generalize hLL : (m.getD n dG).2.length = L at hL ho
 obtain ⟨z, h1, rfl⟩ := z0P (f := S80_10) (fun t => b.length - t.1.2.2.2.2.2.1.toNat)
  (fun t => ∃ i : Nat, i ≤ b.length ∧ t = (((), (off : Int), b, un, (n, 0, L), (i : Int), ()), ((), u, ()), Wg m n off ((List.range i).map (pk b un)), ()))
  (fun z => z = (((), ()), ((), u, ()), Wg m n off ((List.range b.length).map (pk b un)), ())) (by
  rintro t ⟨i, hi, rfl⟩
  rw [S80_10_eq]
  by_cases h : i < b.length
  ·have q1 : (0 : Int) ≤ (i : Int) := by omega
   have q2 : (i : Int) < (b.length : Int) := by omega
   have hs := fun c => Wg_step (m := m) (k := n) (off := off) (cs := (List.range i).map (pk b un)) hn (by rw [List.length_map, List.length_range]; omega) c
   rw [List.length_map, List.length_range] at hs
   have hW : Wg m n off ((List.range i).map (pk b un) ++ [pk b un i]) = Wg m n off ((List.range (i + 1)).map (pk b un)) := by
    rw [List.range_succ, List.map_append]
    rfl
   have e0 : IntKind.i64.wrap ((off : Int) + (i : Int)) = ((off + i : Nat) : Int) := by rw [wi (by omega) (by omega)]; omega
   have q3 : (0 : Int) ≤ ((off + i : Nat) : Int) := by omega
   have q4 : ((off + i : Nat) : Int) < (L : Int) := by omega
   rw [if_pos (decide_eq_true q2)]
   simp only [if_pos q1, if_pos q2, Int.toNat_natCast, e0, if_pos q3, if_pos q4, Nat.zero_add]
   rw [wi (by omega) (by omega)]
   refine .inl ⟨(((), (off : Int), b, un, (n, 0, L), ((i + 1 : Nat) : Int), ()), ((), u, ()), Wg m n off ((List.range (i + 1)).map (pk b un)), ()), ?_, ⟨i + 1, by omega, rfl⟩, ?_⟩
   ·rw [← hW, ← hs (pk b un i)]
    by_cases h0 : 0 < un.length
    ·have hul := hu h0
     have q5 : (i : Int) < (un.length : Int) := by omega
     rw [if_pos (by rw [decide_eq_true_eq]; omega), if_pos q5]
     by_cases hun : un.getD i false = true
     ·have hpc : pk b un i = zK := by unfold pk; rw [if_pos ⟨h0, hun⟩]
      rw [if_pos hun, hpc]
      rfl
     ·have hpc : pk b un i = (1, b.getD i 0, (0, 0), 0) := by unfold pk; rw [if_neg fun q => hun q.2]
      rw [if_neg hun, hpc]
      rfl
    ·have hpc : pk b un i = (1, b.getD i 0, (0, 0), 0) := by unfold pk; rw [if_neg fun q => h0 q.1]
     rw [if_neg (by rw [decide_eq_true_eq]; omega), hpc]
     rfl
   ·show b.length - ((i + 1 : Nat) : Int).toNat < b.length - (i : Int).toNat
    omega
  ·have : i = b.length := by omega
   subst this
   rw [if_neg (by rw [decide_eq_true_eq]; omega)]
   exact .inr ⟨_, rfl, rfl⟩) (((), (off : Int), b, un, (n, 0, L), ((0 : Nat) : Int), ()), ((), u, ()), Wg m n off ((List.range 0).map (pk b un)), ()) ⟨0, by omega, rfl⟩
 rw [show (List.range 0).map (pk b un) = [] from rfl, z2h] at h1
 exact h1
theorem L80_val {m : List Bp} (hI : Inv m) (u : Int) (n off : Int) {b : List Int} {un : List Bool} (hb : b.length ≤ 1000) : L80 (((), n, off, b, un, ()), ((), u, ()), cv m, ()) = some (((), (puM m n off b un).1, ()), ((), u, ()), cv (puM m n off b un).2, ()) := by
 refine (F80_eq L108 Lg80_10 n off b un u (cv m)).trans ?_
 rw [z1g, show L108 ((cv m, u, ()), n, ()) = _ from L108_val m u n]
 simp only [Option.bind_some]
 have e2 : ∀ x y : Int, fstZ 0 [x, y] = if x = 0 then y else x := by
  intro x y
  unfold fstZ
  split
  ·unfold fstZ
   split
   ·rename_i q; rw [q]; rfl
   ·rfl
  ·rfl
 unfold puM puE
 rw [e2]
 unfold eIni
 by_cases hl : z5W m n = 0
 ·obtain ⟨p1, p2⟩ := z7d hl
  have hB := (hI.at n.toNat).1
  have hk : n.toNat < m.length := by omega
  rw [if_neg (by rw [hl]; decide), if_pos p1, z0y, if_pos p2, z4Y hk]
  simp only [if_pos hl]
  by_cases h1 : off < 0
  ·rw [if_pos (decide_eq_true h1)]
   simp only [if_pos (show off < 0 ∨ ((m.getD n.toNat dB).2.length : Int) < off ∨ ((m.getD n.toNat dB).2.length : Int) - off < (b.length : Int) from .inl h1)]
   rfl
  ·rw [if_neg (by rw [decide_eq_true_eq]; exact h1)]
   by_cases h2 : ((m.getD n.toNat dB).2.length : Int) < off
   ·rw [if_pos (decide_eq_true h2)]
    simp only [if_pos (show off < 0 ∨ ((m.getD n.toNat dB).2.length : Int) < off ∨ ((m.getD n.toNat dB).2.length : Int) - off < (b.length : Int) from .inr (.inl h2))]
    rfl
   ·rw [if_neg (by rw [decide_eq_true_eq]; exact h2), wi (by omega) (by omega)]
    by_cases h3 : ((m.getD n.toNat dB).2.length : Int) - off < (b.length : Int)
    ·rw [if_pos (decide_eq_true h3)]
     simp only [if_pos (show off < 0 ∨ ((m.getD n.toNat dB).2.length : Int) < off ∨ ((m.getD n.toNat dB).2.length : Int) - off < (b.length : Int) from .inr (.inr h3))]
     rfl
    ·have hno : ¬ (off < 0 ∨ ((m.getD n.toNat dB).2.length : Int) < off ∨ ((m.getD n.toNat dB).2.length : Int) - off < (b.length : Int)) := by
      rintro (q | q | q)
      ·exact h1 q
      ·exact h2 q
      ·exact h3 q
     rw [if_neg (by rw [decide_eq_true_eq]; exact h3)]
     simp only [if_neg hno, if_true]
     have hgo : (0 < un.length → un.length = b.length) → (Lg80_10 (((), off, b, un, (n.toNat, 0, (m.getD n.toNat dB).2.length), 0, ()), ((), u, ()), cv m, ())) = some (((), ()), ((), u, ()), cv (Wg m n.toNat off.toNat ((List.range b.length).map (pc b un))), ()) := by
      intro hu
      have hcl : ((cv m).getD n.toNat dG).2.length = (m.getD n.toNat dB).2.length := z4Y hk
      have := Lg80_10_val (m := cv m) u (n := n.toNat) (off := off.toNat) hb hu (by rw [z0y]; exact hk) (by rw [hcl]; exact hB) (by rw [hcl]; omega)
      rw [hcl, show ((off.toNat : Nat) : Int) = off by omega] at this
      rw [this, cv_W hk, List.map_map]
      congr 5
      refine List.map_congr_left fun i _ => (pc_cv b un i).symm
     by_cases h0 : 0 < un.length
     ·rw [if_pos (by rw [decide_eq_true_eq]; omega)]
      by_cases h4 : un.length = b.length
      ·rw [if_neg (by simp; omega), if_neg (show ¬ (0 < un.length ∧ un.length ≠ b.length) from fun q => q.2 h4), hgo fun _ => h4]
       rfl
      ·rw [if_pos (by simp; omega), if_pos (show 0 < un.length ∧ un.length ≠ b.length from ⟨h0, h4⟩)]
       rfl
     ·rw [if_neg (by rw [decide_eq_true_eq]; omega), if_neg (show ¬ (0 < un.length ∧ un.length ≠ b.length) from fun q => h0 q.1), hgo fun q => absurd q h0]
      rfl
 ·rw [if_pos (by rw [Bool.not_eq_true', beq_eq_false_iff_ne]; exact hl)]
  simp only [if_neg hl]
def rfE (m : List Bp) (n off : Int) (t : Int × Int) : Int := fstZ 0 [eIni m n off 8, if fm m.length t = true then 0 else 1]
def rfM (m : List Bp) (n off : Int) (t : Int × Int) : Int × List Bp := if rfE m n off t = 0 then (0, Wg m n.toNat off.toNat (scL m.length pS 64 (2, 0, t))) else (rfE m n off t, m)
theorem rfE_0 {m : List Bp} {n off : Int} {t : Int × Int} (h : rfE m n off t = 0) : eIni m n off 8 = 0 ∧ fm m.length t = true := by
 unfold rfE at h
 rw [fst2z] at h
 split at h
 ·rename_i h1
  refine ⟨h1, ?_⟩
  split at h
  ·assumption
  ·cases h
 ·contradiction
theorem rfM_stp {m : List Bp} (hI : Inv m) (n off : Int) (t : Int × Int) {u : Int} {hp : Prop} : Stp m u hp (rfM m n off t).2 u := by
 unfold rfM
 split
 ·rename_i h
  obtain ⟨h1, _⟩ := rfE_0 h
  obtain ⟨_, _, p3, p4, p5⟩ := eIni_0 h1
  have p5 : off + 8 ≤ ((m.getD n.toNat dG).2.length : Int) := p5
  exact W_stp hI (by rw [z2l]; omega) (sc_wf _ _ _ _)
 ·exact .same hI
theorem L46_val {m : List Bp} (hI : Inv m) (u : Int) (n off : Int) (t : Int × Int) : L46 (((), n, off, t, ()), ((), u, ()), m, ()) = some (((), (rfM m n off t).1, ()), ((), u, ()), (rfM m n off t).2, ()) := by
 refine (F46_eq L48 L49 L58 L65 L89 n off t.1 t.2 u m).trans ?_
 rw [z1g]
 have h89 : L89 (((), n, off, 8, ()), ((), u, ()), m, ()) = _ := L89_val hI u n off (by omega)
 have h65 : L65 ((m, u, ()), (t.1, t.2), ()) = _ := z5C m u t
 rw [h89]
 simp only [Option.bind_some]
 rw [h65]
 simp only [Option.bind_some]
 rw [z7w]
 simp only [Option.bind_some]
 have e1 : (if (!fm m.length t) = true then (1 : Int) else 0) = (if fm m.length t = true then 0 else 1) := by cases fm m.length t <;> rfl
 rw [e1, show L48 ([eIni m n off 8, if fm m.length t = true then 0 else 1], ()) = some ((rfE m n off t, ()), ()) from L48_val _ (by simp)]
 simp only [Option.bind_some]
 unfold rfM
 by_cases h : rfE m n off t = 0
 ·obtain ⟨h1, h2⟩ := rfE_0 h
  obtain ⟨p1, p2, p3, p4, p5⟩ := eIni_0 h1
  have h58 : L58 ((m, u, ()), pS, 8, (2, 0, t.1, t.2), ()) = _ := L58_val z5j (by decide) m u (2, 0, t)
  rw [if_neg (by rw [h]; decide), if_pos h, h58]
  simp only [Option.bind_some, if_pos h1]
  have hl : (scL m.length pS 64 (2, 0, t)).length = 8 := z2l _ _ _ _
  show some (((), 0, ()), ((), u, ()), List.set m n.toNat (_, List.take off.toNat _ ++ List.take 8 (scL m.length pS 64 (2, 0, t)) ++ List.drop (off.toNat + min (scL m.length pS 64 (2, 0, t)).length 8) _), ()) = _
  rw [hl, List.take_of_length_le (l := scL m.length pS 64 (2, 0, t)) (by omega)]
  unfold Wg
  rw [hl]
  rfl
 ·rw [if_pos (by rw [Bool.not_eq_true', beq_eq_false_iff_ne]; exact h), if_neg h]
theorem L81_val {m : List Bp} (hI : Inv m) (u : Int) (n off : Int) (t : Int × Int) : L81 (((), n, off, t, ()), ((), u, ()), cv m, ()) = some (((), (rfM m n off t).1, ()), ((), u, ()), cv (rfM m n off t).2, ()) := by
 refine (F81_eq L106 L108 L112 n off t.1 t.2 u (cv m)).trans ?_
 rw [z1g, show L108 ((cv m, u, ()), n, ()) = _ from L108_val m u n]
 simp only [Option.bind_some]
 unfold rfM rfE
 rw [fst2z]
 unfold eIni
 by_cases hl : z5W m n = 0
 ·obtain ⟨p1, p2⟩ := z7d hl
  have hB := (hI.at n.toNat).1
  have hk : n.toNat < m.length := by omega
  rw [if_neg (by rw [hl]; decide), if_pos p1, z0y, if_pos p2, z4Y hk]
  simp only [if_pos hl]
  by_cases h1 : off < 0
  ·rw [if_pos (decide_eq_true h1)]
   simp only [if_pos (show off < 0 ∨ ((m.getD n.toNat dB).2.length : Int) < off ∨ ((m.getD n.toNat dB).2.length : Int) - off < 8 from .inl h1)]
   rfl
  ·rw [if_neg (by rw [decide_eq_true_eq]; exact h1)]
   by_cases h2 : ((m.getD n.toNat dB).2.length : Int) < off
   ·rw [if_pos (decide_eq_true h2)]
    simp only [if_pos (show off < 0 ∨ ((m.getD n.toNat dB).2.length : Int) < off ∨ ((m.getD n.toNat dB).2.length : Int) - off < 8 from .inr (.inl h2))]
    rfl
   ·rw [if_neg (by rw [decide_eq_true_eq]; exact h2), wi (by omega) (by omega)]
    by_cases h3 : ((m.getD n.toNat dB).2.length : Int) - off < 8
    ·rw [if_pos (decide_eq_true h3)]
     simp only [if_pos (show off < 0 ∨ ((m.getD n.toNat dB).2.length : Int) < off ∨ ((m.getD n.toNat dB).2.length : Int) - off < 8 from .inr (.inr h3))]
     rfl
    ·have hno : ¬ (off < 0 ∨ ((m.getD n.toNat dB).2.length : Int) < off ∨ ((m.getD n.toNat dB).2.length : Int) - off < 8) := by
      rintro (q | q | q)
      ·exact h1 q
      ·exact h2 q
      ·exact h3 q
     have h106 : L106 ((cv m, u, ()), (t.1, t.2), ()) = _ := z3O m u t
     rw [if_neg (by rw [decide_eq_true_eq]; exact h3), h106]
     simp only [Option.bind_some, if_neg hno, if_true]
     cases hf : fm m.length t with
     | false => rfl
     | true =>
      have h112 : L112 (pS, (2, 0, t.1, t.2), ()) = _ := L112_val z5j (2, 0, t)
      have q1 : (0 : Int) ≤ off := by omega
      have q2 : off ≤ ((m.getD n.toNat dB).2.length : Int) := by omega
      rw [if_neg (by decide), if_pos q1, if_pos q2, if_pos (Int.le_refl _), h112]
      simp only [Option.bind_some, if_true]
      have hcl : ((cv m).getD n.toNat dG).2.length = (m.getD n.toNat dB).2.length := z4Y hk
      have href := ref_copy (cv m) n.toNat off.toNat ((List.range 8).map (scK pS 64 (2, 0, t))) (by rw [hcl, List.length_map, List.length_range]; omega)
      rw [z4Y hk] at href
      have hcv : (scL m.length pS 64 (2, 0, t)).map cvC = (List.range 8).map (scK pS 64 (2, 0, t)) := by
       have := scL_cv (s := pS) (b := 64) (n := m.length) (2, 0, t)
       have hr : refW m.length (2, 0, t) = (2, 0, t) := by unfold refW; rw [if_neg (by rintro ⟨_, q⟩; rw [hf] at q; cases q)]
       rwa [hr] at this
      rw [cv_W hk, hcv]
      exact congrArg (fun q => some (((), 0, ()), ((), u, ()), q, ())) href
 ·rw [if_pos (by rw [Bool.not_eq_true', beq_eq_false_iff_ne]; exact hl)]
  simp only [if_neg hl]
def ins (m : List Bp) (a : Int × Int) : Bool := isN a || decide (0 ≤ a.2 ∧ a.2 ≤ ((m.getD a.1.toNat dB).2.length : Int))
theorem L66_val {m : List Bp} (u : Int) {a : Int × Int} (hf : fm m.length a = true) : L66 ((m, u, ()), a, ()) = some ((ins m a, ()), ()) := by
 refine (F66_eq L51 m u a.1 a.2).trans ?_
 rw [show L51 () = _ from z1M]
 simp only [Option.bind_some]
 rw [z3d]
 unfold ins
 cases hn : isN (a.1, a.2) with
 | true => rw [if_pos rfl, Bool.true_or]
 | false =>
  obtain ⟨p1, p2, _⟩ := z5Q hf hn
  rw [if_neg (by decide), Bool.false_or]
  by_cases h0 : 0 ≤ a.2
  ·rw [if_pos (decide_eq_true h0), if_pos p1, if_pos p2]
   congr 3
   rw [decide_eq_decide]
   exact ⟨fun q => ⟨h0, q⟩, fun q => q.2⟩
  ·rw [if_neg (by rw [decide_eq_true_eq]; exact h0), decide_eq_false fun q => h0 q.1]
theorem L113_val {m : List Bp} (u : Int) {a : Int × Int} (hf : fm m.length a = true) : L113 ((cv m, u, ()), a, ()) = some ((ins m a, ()), ()) := by
 refine (F113_eq (cv m) u a.1 a.2).trans ?_
 unfold ins
 cases hn : isN a with
 | true => rw [if_pos (decide_eq_true ((z6X hf).2 hn)), Bool.true_or]
 | false =>
  obtain ⟨p1, p2, _⟩ := z5Q hf hn
  rw [if_neg (by rw [decide_eq_true_eq]; omega), Bool.false_or]
  by_cases h0 : 0 ≤ a.2
  ·rw [if_pos (decide_eq_true h0), if_pos p1, z0y, if_pos p2, z4Y (by omega)]
   congr 3
   rw [decide_eq_decide]
   exact ⟨fun q => ⟨h0, q⟩, fun q => q.2⟩
  ·rw [if_neg (by rw [decide_eq_true_eq]; exact h0), decide_eq_false fun q => h0 q.1]
def eqR (m : List Bp) (a b : Int × Int) : Bool × Int × Unit :=
 if fm m.length a = true ∧ fm m.length b = true ∧ (isN a || isN b) = true ∧ ins m a = true ∧ ins m b = true then ((isN a && isN b), -1, ()) else (false, 14, ())
theorem L25_val (m : List Bp) (u : Int) (a b : Int × Int) : L25 ((m, u, ()), a, b, ()) = some (eqR m a b, ()) := by
 refine (F25_eq L51 L65 L66 m u a.1 a.2 b.1 b.2).trans ?_
 have h65 : ∀ c : Int × Int, L65 ((m, u, ()), (c.1, c.2), ()) = _ := fun c => z5C m u c
 rw [show L51 () = _ from z1M]
 simp only [Option.bind_some]
 rw [z3d, z3d, h65 a, h65 b]
 simp only [Option.bind_some]
 unfold eqR
 cases ha : fm m.length a with
 | false => rfl
 | true =>
  cases hb : fm m.length b with
  | false => rfl
  | true =>
   have h66 : L66 ((m, u, ()), (a.1, a.2), ()) = _ := L66_val u ha
   have h66b : L66 ((m, u, ()), (b.1, b.2), ()) = _ := L66_val u hb
   rw [h66, h66b]
   simp only [Option.bind_some]
   have e1 : isN (a.1, a.2) = isN a := rfl
   have e2 : isN (b.1, b.2) = isN b := rfl
   rw [e1, e2]
   cases isN a <;> cases isN b <;> cases ins m (a.1, a.2) <;> cases ins m (b.1, b.2) <;> rfl
theorem L82_val (m : List Bp) (u : Int) (a b : Int × Int) : L82 ((cv m, u, ()), a, b, ()) = some (eqR m a b, ()) := by
 refine (F82_eq L106 L113 (cv m) u a.1 a.2 b.1 b.2).trans ?_
 have h65 : ∀ c : Int × Int, L106 ((cv m, u, ()), (c.1, c.2), ()) = _ := fun c => z3O m u c
 rw [h65 a, h65 b]
 simp only [Option.bind_some]
 unfold eqR
 cases ha : fm m.length a with
 | false => rfl
 | true =>
  cases hb : fm m.length b with
  | false => rfl
  | true =>
   have h66 : L113 ((cv m, u, ()), (a.1, a.2), ()) = _ := L113_val u ha
   have h66b : L113 ((cv m, u, ()), (b.1, b.2), ()) = _ := L113_val u hb
   rw [h66, h66b]
   simp only [Option.bind_some]
   have d1 : decide (a.1 ≥ 0) = !isN a := by
    have := z6X ha
    cases hn : isN a with
    | true => rw [hn] at this; rw [decide_eq_false (by have := this.2 rfl; omega)]; rfl
    | false => rw [hn] at this; rw [decide_eq_true (show a.1 ≥ 0 from Int.not_lt.1 fun q => by have := this.1 q; cases this)]; rfl
   have d2 : decide (b.1 ≥ 0) = !isN b := by
    have := z6X hb
    cases hn : isN b with
    | true => rw [hn] at this; rw [decide_eq_false (by have := this.2 rfl; omega)]; rfl
    | false => rw [hn] at this; rw [decide_eq_true (show b.1 ≥ 0 from Int.not_lt.1 fun q => by have := this.1 q; cases this)]; rfl
   have d3 : (isN a || isN b) = true → (a.1 == b.1 && (a.2 == b.2 && true)) = (isN a && isN b) := by
    intro h
    rw [Bool.and_true, Bool.eq_iff_iff, Bool.and_eq_true, Bool.and_eq_true, beq_iff_eq, beq_iff_eq]
    have q : ∀ c : Int × Int, isN c = true ↔ c.1 = -1 ∧ c.2 = 0 := fun c => by unfold isN; rw [decide_eq_true_eq]
    rw [Bool.or_eq_true] at h
    rw [q, q] at h ⊢
    omega
   rw [d1, d2]
   cases hna : isN a <;> cases hnb : isN b
   ·rfl
   all_goals
    have d3 := d3 (by rw [hna, hnb]; rfl)
    rw [hna, hnb] at d3
    have e : ∀ c : Int × Int, ins m (c.1, c.2) = ins m c := fun _ => rfl
    rw [d3, e, e]
    cases ins m a <;> cases ins m b <;> rfl
def ofR (m : List Bp) (a : Int × Int) (n : Int) : (Int × Int) × Int × Unit :=
 if fm m.length a = true ∧ ¬ (isN a = true ∧ n ≠ 0) ∧ -2199023255552 ≤ n ∧ n ≤ 2199023255552 ∧ fm m.length (a.1, IntKind.i64.wrap (a.2 + n)) = true then ((a.1, IntKind.i64.wrap (a.2 + n)), -1, ()) else ((-1, 0), 14, ())
theorem L47_val (m : List Bp) (u : Int) (a : Int × Int) (n : Int) : L47 ((m, u, ()), a, n, ()) = some (ofR m a n, ()) := by
 refine (F47_eq L51 L65 m u a.1 a.2 n).trans ?_
 have h65 : ∀ c : Int × Int, L65 ((m, u, ()), c, ()) = _ := fun c => z5C m u c
 have h51 : L51 () = _ := z1M
 rw [h51, h65 (a.1, a.2), h65 (a.1, IntKind.i64.wrap (a.2 + n))]
 simp only [Option.bind_some]
 rw [z3d]
 unfold ofR
 have ea : (a.1, a.2) = a := rfl
 rw [ea]
 cases ha : fm m.length a with
 | false =>
  rw [if_pos (by decide), if_neg (by rintro ⟨q, _⟩; cases q)]
 | true =>
  rw [if_neg (by decide)]
  cases hn : isN a with
  | true =>
   rw [if_pos rfl]
   by_cases h0 : n = 0
   ·rw [if_neg (by rw [h0]; decide), if_neg (by rw [decide_eq_true_eq]; omega), if_neg (by rw [decide_eq_true_eq]; omega)]
    cases hf : fm m.length (a.1, IntKind.i64.wrap (a.2 + n)) with
    | false => rw [if_pos (by decide), if_neg (by rintro ⟨_, _, _, _, q⟩; cases q)]
    | true => rw [if_neg (by decide), if_pos ⟨rfl, fun q => q.2 h0, by omega, by omega, rfl⟩]
   ·rw [if_pos (by rw [Bool.not_eq_true', beq_eq_false_iff_ne]; exact h0), if_neg (by rintro ⟨_, q, _⟩; exact q ⟨rfl, h0⟩)]
  | false =>
   rw [if_neg (by decide)]
   by_cases h1 : n < -2199023255552
   ·rw [if_pos (by rw [decide_eq_true_eq]; exact h1), if_neg (by rintro ⟨_, _, q, _⟩; omega)]
   ·rw [if_neg (by rw [decide_eq_true_eq]; exact h1)]
    by_cases h2 : n > 2199023255552
    ·rw [if_pos (by rw [decide_eq_true_eq]; exact h2), if_neg (by rintro ⟨_, _, _, q, _⟩; omega)]
    ·rw [if_neg (by rw [decide_eq_true_eq]; exact h2)]
     cases hf : fm m.length (a.1, IntKind.i64.wrap (a.2 + n)) with
     | false => rw [if_pos (by decide), if_neg (by rintro ⟨_, _, _, _, q⟩; cases q)]
     | true => rw [if_neg (by decide), if_pos ⟨rfl, fun q => (by cases q.1), by omega, by omega, rfl⟩]
theorem L83_val (m : List Bp) (u : Int) (a : Int × Int) (n : Int) : L83 ((cv m, u, ()), a, n, ()) = some (ofR m a n, ()) := by
 refine (F83_eq L103 L106 (cv m) u a.1 a.2 n).trans ?_
 have h65 : L106 ((cv m, u, ()), (a.1, a.2), ()) = _ := z3O m u a
 have h51 : L103 () = _ := z3P
 rw [h51, h65]
 simp only [Option.bind_some]
 unfold ofR
 cases ha : fm m.length a with
 | false =>
  rw [if_pos (by decide), if_neg (by rintro ⟨q, _⟩; cases q)]
 | true =>
  rw [if_neg (by decide)]
  have hneg := z6X ha
  have tail : ¬ (isN a = true ∧ n ≠ 0) → -2199023255552 ≤ n → n ≤ 2199023255552 → (if decide (IntKind.i64.wrap (a.2 + n) < -1099511627776) = true then some (((-1, 0), 14, ()), ()) else if decide (IntKind.i64.wrap (a.2 + n) > 1099511627776) = true then some (((-1, 0), 14, ()), ()) else some (((a.1, IntKind.i64.wrap (a.2 + n)), -1, ()), ()) : Option rs83.den) = some (if true = true ∧ ¬ (isN a = true ∧ n ≠ 0) ∧ -2199023255552 ≤ n ∧ n ≤ 2199023255552 ∧ fm m.length (a.1, IntKind.i64.wrap (a.2 + n)) = true then ((a.1, IntKind.i64.wrap (a.2 + n)), -1, ()) else ((-1, 0), 14, ()), ()) := by
   intro t1 t2 t3
   have hiff : fm m.length (a.1, IntKind.i64.wrap (a.2 + n)) = true ↔ -1099511627776 ≤ IntKind.i64.wrap (a.2 + n) ∧ IntKind.i64.wrap (a.2 + n) ≤ 1099511627776 := by
    cases hn : isN a with
    | true =>
     have h0 : n = 0 := Decidable.byContradiction fun q => t1 ⟨hn, q⟩
     unfold isN at hn
     rw [decide_eq_true_eq] at hn
     rw [h0, hn.2]
     have e0 : IntKind.i64.wrap (0 + 0) = 0 := by decide
     rw [e0]
     unfold fm
     rw [decide_eq_true_eq]
     constructor
     ·intro _; omega
     ·intro _; exact .inl ⟨hn.1, rfl⟩
    | false =>
     obtain ⟨p1, p2, _⟩ := z5Q ha hn
     unfold fm
     rw [decide_eq_true_eq]
     constructor
     ·rintro (q | q)
      ·have q1 : a.1 = -1 := q.1
       omega
      ·exact ⟨q.2.2.1, q.2.2.2⟩
     ·rintro ⟨q1, q2⟩
      exact .inr ⟨p1, p2, q1, q2⟩
   by_cases g1 : IntKind.i64.wrap (a.2 + n) < -1099511627776
   ·rw [if_pos (by rw [decide_eq_true_eq]; exact g1), if_neg (by rintro ⟨_, _, _, _, q⟩; have := hiff.1 q; omega)]
   ·rw [if_neg (by rw [decide_eq_true_eq]; exact g1)]
    by_cases g2 : IntKind.i64.wrap (a.2 + n) > 1099511627776
    ·rw [if_pos (by rw [decide_eq_true_eq]; exact g2), if_neg (by rintro ⟨_, _, _, _, q⟩; have := hiff.1 q; omega)]
    ·rw [if_neg (by rw [decide_eq_true_eq]; exact g2), if_pos ⟨rfl, t1, t2, t3, hiff.2 ⟨by omega, by omega⟩⟩]
  cases hn : isN a with
  | true =>
   rw [hn] at hneg tail
   rw [if_pos (by rw [decide_eq_true_eq]; exact hneg.2 rfl)]
   by_cases h0 : n = 0
   ·rw [if_neg (by rw [h0]; decide), if_neg (by rw [decide_eq_true_eq]; omega), if_neg (by rw [decide_eq_true_eq]; omega)]
    exact tail (fun q => q.2 h0) (by omega) (by omega)
   ·rw [if_pos (by rw [Bool.not_eq_true', beq_eq_false_iff_ne]; exact h0), if_neg (by rintro ⟨_, q, _⟩; exact q ⟨rfl, h0⟩)]
  | false =>
   rw [hn] at hneg tail
   rw [if_neg (by rw [decide_eq_true_eq]; intro q; have := hneg.1 q; cases this)]
   by_cases h1 : n < -2199023255552
   ·rw [if_pos (by rw [decide_eq_true_eq]; exact h1), if_neg (by rintro ⟨_, _, q, _⟩; omega)]
   ·rw [if_neg (by rw [decide_eq_true_eq]; exact h1)]
    by_cases h2 : n > 2199023255552
    ·rw [if_pos (by rw [decide_eq_true_eq]; exact h2), if_neg (by rintro ⟨_, _, _, q, _⟩; omega)]
    ·rw [if_neg (by rw [decide_eq_true_eq]; exact h2)]
     exact tail (fun q => by cases q.1) (by omega) (by omega)
end Go.Proofs.Rf
namespace Go.Proofs.Rf
open Go Go.RowKit
theorem L38_val (a : Int × Int) : L38 (a, ()) = some ((a, ()), ()) := F38_eq a.1 a.2
theorem z2f (a : Int × Int) : L39 (a, ()) = some ((a, ()), ()) := F39_eq a.1 a.2
theorem L18_val (w : Wd) : L18 (w, ()) = some ((w, ()), ()) := by
 refine (F18_eq L39 w.1 w.2.1 w.2.2.1 w.2.2.2).trans ?_
 rw [show L39 ((w.2.2.1, w.2.2.2), ()) = _ from z2f w.2.2]
 rfl
theorem L41_val (w : Wd) : L41 (w, ()) = some ((w, ()), ()) := by
 refine (F41_eq L38 w.1 w.2.1 w.2.2.1 w.2.2.2).trans ?_
 rw [show L38 ((w.2.2.1, w.2.2.2), ()) = _ from L38_val w.2.2]
 rfl
theorem L44_val {l : List Int} (h : l.length ≤ 1000) : L44 (l, ()) = some (((), ()), l, ()) := (F44_eq l).trans (if_pos (by omega))
theorem L45_val {l : List Bool} (h : l.length ≤ 1000) : L45 (l, ()) = some (((), ()), l, ()) := (F45_eq l).trans (if_pos (by omega))
structure ActOK (a : Ac) : Prop where
 sz : 0 ≤ a.2.2.2.2.2.2.2.1
 ty : a.2.1.length ≤ 1000
 by_ : a.2.2.2.2.2.2.2.2.2.1.length ≤ 1000
 un : a.2.2.2.2.2.2.2.2.2.2.length ≤ 1000
def ActGo (m : List Bp) (u : Int) (a : Ac) (ans : Ans) (m' : List Bp) (u' : Int) : Prop :=
 L13 (((), a, ()), ((), u, ()), m, ()) = some (((), ans, ()), ((), u', ()), m', ()) ∧ L31 (((), a, ()), ((), u, ()), cv m, ()) = some (((), ans, ()), ((), u', ()), cv m', ()) ∧ Stp m u (a.1 = 0 ∧ a.2.2.2.2.1 = 0) m' u'
theorem act_ok {m : List Bp} (hI : Inv m) (hl : m.length < 1000) {u : Int} (hu0 : -1000000000 ≤ u) (hu1 : u ≤ 1000000000) (a : Ac) (hok : ActOK a) : ∃ ans m' u', ActGo m u a ans m' u' := by
 obtain ⟨k, t, ⟨p0, p1⟩, ⟨q0, q1⟩, n, al, c, s, ⟨w0, w1, w2, w3⟩, b, un⟩ := a
 have hsz : 0 ≤ s := hok.sz
 have hty : t.length ≤ 1000 := hok.ty
 have hby : b.length ≤ 1000 := hok.by_
 have hun : un.length ≤ 1000 := hok.un
 have e1 : L13 (((), (k, t, (p0, p1), (q0, q1), n, al, c, s, (w0, w1, w2, w3), b, un), ()), ((), u, ()), m, ()) = _ := F13_eq L14 L16 L17 L18 L19 L20 L25 L26 L27 L38 L39 L40 L41 L42 L43 L44 L45 L46 L47 k t p0 p1 q0 q1 n al c s w0 w1 w2 w3 b un u m
 have e2 : L31 (((), (k, t, (p0, p1), (q0, q1), n, al, c, s, (w0, w1, w2, w3), b, un), ()), ((), u, ()), cv m, ()) = _ := F31_eq L71 L72 L73 L74 L75 L76 L77 L78 L79 L80 L81 L82 L83 k t p0 p1 q0 q1 n al c s w0 w1 w2 w3 b un u (cv m)
 rw [z1g] at e1 e2
 unfold ActGo
 by_cases h0 : k = 0
 ·subst h0
  rw [if_pos (by decide)] at e1 e2
  obtain ⟨ad, e, m', u', g1, g2, g3⟩ := add_ok hI hl (k := n) (s := IntKind.i64.wrap s) (al := al) (c := c) hu0 hu1
  rw [g1] at e1
  rw [g2] at e2
  simp only [Option.bind_some] at e1 e2
  rw [show L38 ((ad.1, ad.2), ()) = _ from L38_val ad] at e1
  refine ⟨_, _, _, e1, e2, g3.inv, g3.len, g3.lo, g3.hi, fun q => g3.cap fun q2 => q ⟨rfl, q2⟩⟩
 by_cases h1 : k = 1
 ·subst h1
  rw [if_neg (by decide), if_pos (by decide)] at e1 e2
  obtain ⟨ad, e, m', u', g1, g2, g3⟩ := alloc_ok hI hl (al := al) hsz hu0 hu1
  rw [g1] at e1
  rw [g2] at e2
  simp only [Option.bind_some] at e1 e2
  rw [show L38 ((ad.1, ad.2), ()) = _ from L38_val ad] at e1
  refine ⟨_, _, _, e1, e2, g3.inv, g3.len, g3.lo, g3.hi, fun _ => g3.cap fun q2 => q2⟩
 by_cases h2 : k = 2
 ·subst h2
  rw [if_neg (by decide), if_neg (by decide), if_pos (by decide)] at e1 e2
  obtain ⟨e, m', u', g1, g2, g3⟩ := free_ok hI (p0, p1) hu0 hu1
  rw [z2f] at e1
  simp only [Option.bind_some] at e1
  rw [g1] at e1
  rw [g2] at e2
  refine ⟨_, _, _, e1, e2, g3.inv, g3.len, g3.lo, g3.hi, fun _ => g3.cap fun q2 => q2⟩
 by_cases h3 : k = 3
 ·subst h3
  rw [if_neg (by decide), if_neg (by decide), if_neg (by decide), if_pos (by decide)] at e1 e2
  obtain ⟨e, m', u', g1, g2, g3⟩ := drop_ok hI n hu0 hu1
  rw [g1] at e1
  rw [g2] at e2
  refine ⟨_, _, _, e1, e2, g3.inv, g3.len, g3.lo, g3.hi, fun _ => g3.cap fun q2 => q2⟩
 by_cases h4 : k = 4
 ·subst h4
  rw [if_neg (by decide), if_neg (by decide), if_neg (by decide), if_neg (by decide), if_pos (by decide)] at e1 e2
  rw [z2f] at e1
  simp only [Option.bind_some] at e1
  rw [show L16 ((m, u, ()), t, (p0, p1), ()) = _ from z5E hI u hty (p0, p1)] at e1
  rw [show L75 ((cv m, u, ()), t, (p0, p1), ()) = _ from L75_val hI u (p0, p1)] at e2
  simp only [Option.bind_some] at e1 e2
  rw [show L41 (((ldW m t (p0, p1)).1.1, (ldW m t (p0, p1)).1.2.1, (ldW m t (p0, p1)).1.2.2.1, (ldW m t (p0, p1)).1.2.2.2), ()) = _ from L41_val (ldW m t (p0, p1)).1] at e1
  exact ⟨_, _, _, e1, e2, .same hI⟩
 by_cases h5 : k = 5
 ·subst h5
  rw [if_neg (by decide), if_neg (by decide), if_neg (by decide), if_neg (by decide), if_neg (by decide), if_pos (by decide)] at e1 e2
  rw [z2f] at e1
  simp only [Option.bind_some] at e1
  rw [show L18 ((w0, w1, w2, w3), ()) = _ from L18_val (w0, w1, w2, w3)] at e1
  simp only [Option.bind_some] at e1
  rw [show L17 (((), t, (p0, p1), (w0, w1, w2, w3), ()), ((), u, ()), m, ()) = _ from L17_val hI u hty (p0, p1) (w0, w1, w2, w3)] at e1
  rw [show L76 (((), t, (p0, p1), (w0, w1, w2, w3), ()), ((), u, ()), cv m, ()) = _ from L76_val hI u (p0, p1) (w0, w1, w2, w3)] at e2
  exact ⟨_, _, _, e1, e2, stM_stp hI t (p0, p1) (w0, w1, w2, w3)⟩
 by_cases h6 : k = 6
 ·subst h6
  rw [if_neg (by decide), if_neg (by decide), if_neg (by decide), if_neg (by decide), if_neg (by decide), if_neg (by decide), if_pos (by decide)] at e1 e2
  rw [z2f, z2f] at e1
  simp only [Option.bind_some] at e1
  rw [show L19 (((), (p0, p1), (q0, q1), n, ()), ((), u, ()), m, ()) = _ from L19_val hI u (p0, p1) (q0, q1) n] at e1
  rw [show L77 (((), (p0, p1), (q0, q1), n, ()), ((), u, ()), cv m, ()) = _ from L77_val hI u (p0, p1) (q0, q1) n] at e2
  exact ⟨_, _, _, e1, e2, cpM_stp hI (p0, p1) (q0, q1) n⟩
 by_cases h7 : k = 7
 ·subst h7
  rw [if_neg (by decide), if_neg (by decide), if_neg (by decide), if_neg (by decide), if_neg (by decide), if_neg (by decide), if_neg (by decide), if_pos (by decide)] at e1 e2
  rw [z2f] at e1
  simp only [Option.bind_some] at e1
  rw [show L20 (((), (p0, p1), n, ()), ((), u, ()), m, ()) = _ from L20_val hI u (p0, p1) n] at e1
  rw [show L78 (((), (p0, p1), n, ()), ((), u, ()), cv m, ()) = _ from L78_val hI u (p0, p1) n] at e2
  exact ⟨_, _, _, e1, e2, erM_stp hI (p0, p1) n⟩
 by_cases h8 : k = 8
 ·subst h8
  rw [if_neg (by decide), if_neg (by decide), if_neg (by decide), if_neg (by decide), if_neg (by decide), if_neg (by decide), if_neg (by decide), if_neg (by decide), if_pos (by decide)] at e1 e2
  rw [z2f] at e1
  simp only [Option.bind_some] at e1
  rw [show L42 ((m, u, ()), (p0, p1), n, ()) = _ from L42_val hI u (p0, p1) n] at e1
  rw [show L79 ((cv m, u, ()), (p0, p1), n, ()) = _ from L79_val hI u (p0, p1) n] at e2
  exact ⟨_, _, _, e1, e2, .same hI⟩
 by_cases h9 : k = 9
 ·subst h9
  rw [if_neg (by decide), if_neg (by decide), if_neg (by decide), if_neg (by decide), if_neg (by decide), if_neg (by decide), if_neg (by decide), if_neg (by decide), if_neg (by decide), if_pos (by decide)] at e1 e2
  rw [L44_val hby, L45_val hun] at e1
  simp only [Option.bind_some] at e1
  rw [show L43 (((), p0, p1, b, un, ()), ((), u, ()), m, ()) = _ from L43_val hI u p0 p1 hby] at e1
  rw [show L80 (((), p0, p1, b, un, ()), ((), u, ()), cv m, ()) = _ from L80_val hI u p0 p1 hby] at e2
  exact ⟨_, _, _, e1, e2, puM_stp hI p0 p1 b un⟩
 by_cases h10 : k = 10
 ·subst h10
  rw [if_neg (by decide), if_neg (by decide), if_neg (by decide), if_neg (by decide), if_neg (by decide), if_neg (by decide), if_neg (by decide), if_neg (by decide), if_neg (by decide), if_neg (by decide), if_pos (by decide)] at e1 e2
  rw [z2f] at e1
  simp only [Option.bind_some] at e1
  rw [show L46 (((), p0, p1, (q0, q1), ()), ((), u, ()), m, ()) = _ from L46_val hI u p0 p1 (q0, q1)] at e1
  rw [show L81 (((), p0, p1, (q0, q1), ()), ((), u, ()), cv m, ()) = _ from L81_val hI u p0 p1 (q0, q1)] at e2
  exact ⟨_, _, _, e1, e2, rfM_stp hI p0 p1 (q0, q1)⟩
 by_cases h11 : k = 11
 ·subst h11
  rw [if_neg (by decide), if_neg (by decide), if_neg (by decide), if_neg (by decide), if_neg (by decide), if_neg (by decide), if_neg (by decide), if_neg (by decide), if_neg (by decide), if_neg (by decide), if_neg (by decide), if_pos (by decide)] at e1 e2
  rw [z2f, z2f] at e1
  simp only [Option.bind_some] at e1
  rw [show L25 ((m, u, ()), (p0, p1), (q0, q1), ()) = _ from L25_val m u (p0, p1) (q0, q1)] at e1
  rw [show L82 ((cv m, u, ()), (p0, p1), (q0, q1), ()) = _ from L82_val m u (p0, p1) (q0, q1)] at e2
  exact ⟨_, _, _, e1, e2, .same hI⟩
 by_cases h12 : k = 12
 ·subst h12
  rw [if_neg (by decide), if_neg (by decide), if_neg (by decide), if_neg (by decide), if_neg (by decide), if_neg (by decide), if_neg (by decide), if_neg (by decide), if_neg (by decide), if_neg (by decide), if_neg (by decide), if_neg (by decide), if_pos (by decide)] at e1 e2
  rw [z2f] at e1
  simp only [Option.bind_some] at e1
  rw [show L47 ((m, u, ()), (p0, p1), n, ()) = _ from L47_val m u (p0, p1) n] at e1
  rw [show L83 ((cv m, u, ()), (p0, p1), n, ()) = _ from L83_val m u (p0, p1) n] at e2
  simp only [Option.bind_some] at e1 e2
  rw [show L38 (((ofR m (p0, p1) n).1.1, (ofR m (p0, p1) n).1.2), ()) = _ from L38_val (ofR m (p0, p1) n).1] at e1
  exact ⟨_, _, _, e1, e2, .same hI⟩
 rw [if_neg (by rw [beq_iff_eq]; exact h0), if_neg (by rw [beq_iff_eq]; exact h1), if_neg (by rw [beq_iff_eq]; exact h2), if_neg (by rw [beq_iff_eq]; exact h3), if_neg (by rw [beq_iff_eq]; exact h4), if_neg (by rw [beq_iff_eq]; exact h5), if_neg (by rw [beq_iff_eq]; exact h6), if_neg (by rw [beq_iff_eq]; exact h7), if_neg (by rw [beq_iff_eq]; exact h8), if_neg (by rw [beq_iff_eq]; exact h9), if_neg (by rw [beq_iff_eq]; exact h10), if_neg (by rw [beq_iff_eq]; exact h11), if_neg (by rw [beq_iff_eq]; exact h12)] at e1 e2
 exact ⟨_, _, _, e1, e2, .same hI⟩
end Go.Proofs.Rf
set_option linter.unusedVariables false
namespace Go.Proofs.Rf
open Go Go.RowKit
noncomputable def K12 : TF12 := F12
theorem okK12 : z0a Tryz.prog 12 (mkCall ps12 rs12 K12) := call12
noncomputable def Kg48_2 : z3V.den → Option (denX w48_2) := iterL (S48_2) 100
noncomputable def K48 : TF48 := F48 Kg48_2
theorem okK48 : z0a Tryz.prog 48 (mkCall ps48 rs48 K48) := call48 (z1J _ _)
noncomputable def K49 : TF49 := F49
theorem okK49 : z0a Tryz.prog 49 (mkCall ps49 rs49 K49) := call49
noncomputable def Kg115_2 : z2I.den → Option (denX z4q) := iterL (S115_2) 100
noncomputable def K115 : TF115 := F115 Kg115_2
theorem okK115 : z0a Tryz.prog 115 (mkCall ps115 rs115 K115) := call115 (z1J _ _)
noncomputable def K90 : TF90 := F90 K115
theorem okK90 : z0a Tryz.prog 90 (mkCall ps90 rs90 K90) := call90 okK115
noncomputable def K50 : TF50 := F50 K90
theorem okK50 : z0a Tryz.prog 50 (mkCall ps50 rs50 K50) := call50 okK90
noncomputable def K51 : TF51 := F51
theorem z5U : z0a Tryz.prog 51 (mkCall ps51 rs51 K51) := call51
noncomputable def K68 : TF68 := F68
theorem okK68 : z0a Tryz.prog 68 (mkCall ps68 rs68 K68) := call68
noncomputable def K52 : TF52 := F52 K51 K68
theorem okK52 : z0a Tryz.prog 52 (mkCallB z6C rs52 m52 1 K52) := call52 z5U okK68
noncomputable def K14 : TF14 := F14 K48 K49 K50 K51 K52
theorem okK14 : z0a Tryz.prog 14 (mkCallB z4J rs14 m14 1 K14) := call14 okK48 okK49 okK50 z5U okK52
noncomputable def K98 : TF98 := F98
theorem okK98 : z0a Tryz.prog 98 (mkCall ps98 rs98 K98) := call98
abbrev K99 : TF99 := F99
theorem okK99 : z0a Tryz.prog 99 (mkCall ps99 rs99 K99) := call99
noncomputable def Kg69_7 : z3Q.den → Option (denX w69_7) := iterL (S69_7) 100
noncomputable def K69 : TF69 := F69 K98 K99 Kg69_7
theorem okK69 : z0a Tryz.prog 69 (mkCall ps69 rs69 K69) := call69 okK98 okK99 (z1J _ _)
noncomputable def K28 : TF28 := F28 K69
theorem okK28 : z0a Tryz.prog 28 (mkCall ps28 rs28 K28) := call28 okK69
noncomputable def Kg70_2 : z4w.den → Option (denX w70_2) := iterL (S70_2) 100
noncomputable def K70 : TF70 := F70 Kg70_2
theorem okK70 : z0a Tryz.prog 70 (mkCall ps70 rs70 K70) := call70 (z1J _ _)
noncomputable def K54 : TF54 := F54 K28 K70
theorem okK54 : z0a Tryz.prog 54 (mkCall ps54 rs54 K54) := call54 okK28 okK70
noncomputable def K92 : TF92 := F92
theorem okK92 : z0a Tryz.prog 92 (mkCall ps92 rs92 K92) := call92
noncomputable def K65 : TF65 := F65 K51
theorem okK65 : z0a Tryz.prog 65 (mkCall ps65 rs65 K65) := call65 z5U
noncomputable def K117 : TF117 := F117 K51 K65
theorem okK117 : z0a Tryz.prog 117 (mkCall ps117 rs117 K117) := call117 z5U okK65
noncomputable def K118 : TF118 := F118
theorem okK118 : z0a Tryz.prog 118 (mkCall ps118 rs118 K118) := call118
noncomputable def K119 : TF119 := F119
theorem okK119 : z0a Tryz.prog 119 (mkCall ps119 rs119 K119) := call119
noncomputable def K120 : TF120 := F120
theorem okK120 : z0a Tryz.prog 120 (mkCall ps120 rs120 K120) := call120
noncomputable def Kg55_4 : z3U.den → Option (denX w55_4) := iterL (S55_4 K117 K118 K119 K120) 100
noncomputable def K55 : TF55 := F55 K92 Kg55_4
theorem okK55 : z0a Tryz.prog 55 (mkCall ps55 rs55 K55) := call55 okK117 okK118 okK119 okK120 okK92 (z1J _ _)
noncomputable def K96 : TF96 := F96
theorem okK96 : z0a Tryz.prog 96 (mkCall ps96 rs96 K96) := call96
noncomputable def KD121 : z7J := colK (B121) (Y121) 100
theorem okKI121 : z5f Tryz.prog 121 z4m (z7j KD121) := it121 (coll_colK _ _ _)
noncomputable def Kg93_5 : List z2W → z2s.den → Option (z2s.den ⊕ denX w93_5) := foldR (S93_5 K51)
noncomputable def K93 : TF93 := F93 K51 K96 KD121 Kg93_5
theorem okK93 : z0a Tryz.prog 93 (mkCall ps93 rs93 K93) := call93 okKI121 z5U okK96 rfl
noncomputable def K94 : TF94 := F94 K69
theorem okK94 : z0a Tryz.prog 94 (mkCall ps94 rs94 K94) := call94 okK69
noncomputable def Kg56_9 : z3T.den → Option (denX w56_9) := iterL (S56_9) 100
noncomputable def K56 : TF56 := F56 K51 K93 K94 Kg56_9
theorem okK56 : z0a Tryz.prog 56 (mkCall ps56 rs56 K56) := call56 z5U okK93 okK94 (z1J _ _)
noncomputable def K57v : TF57v := F57v
theorem okK57v : z0a Tryz.prog 57 (mkCall z6F z5T K57v) := call57v
noncomputable def K16 : TF16 := F16 K51 K54 K55 K56 K57v
theorem okK16 : z0a Tryz.prog 16 (mkCall ps16 rs16 K16) := call16 z5U okK54 okK55 okK56 okK57v
noncomputable def K57 : TF57 := F57
theorem okK57 : z0a Tryz.prog 57 (mkCallB z4G rs57 m57 1 K57) := call57
noncomputable def K95 : TF95 := F95 K65 K94
theorem okK95 : z0a Tryz.prog 95 (mkCall ps95 rs95 K95) := call95 okK65 okK94
noncomputable def K126 : TF126 := F126
theorem okK126 : z0a Tryz.prog 126 (mkCall ps126 rs126 K126) := call126
noncomputable def K122 : TF122 := F122 K126
theorem okK122 : z0a Tryz.prog 122 (mkCall ps122 rs122 K122) := call122 okK126
noncomputable def Kg97_8 : z4t.den → Option (denX w97_8) := iterL (S97_8) 100
noncomputable def K97 : TF97 := F97 K122 Kg97_8
theorem okK97 : z0a Tryz.prog 97 (mkCall ps97 rs97 K97) := call97 okK122 (z1J _ _)
noncomputable def Kg58_10 : List z2W → z1H.den → Option (z1H.den ⊕ denX z5G) := foldR (S58_10)
noncomputable def Kg58_3 : z3S.den → Option (denX w58_3) := iterL (S58_3) 100
noncomputable def K58 : TF58 := F58 K51 K95 K96 K97 KD121 Kg58_10 Kg58_3
theorem okK58 : z0a Tryz.prog 58 (mkCall ps58 rs58 K58) := call58 okKI121 z5U okK95 okK96 okK97 rfl (z1J _ _)
noncomputable def K17 : TF17 := F17 K54 K55 K57 K58
theorem okK17 : z0a Tryz.prog 17 (mkCallB z4I rs17 m17 1 K17) := call17 okK54 okK55 okK57 okK58
noncomputable def Kg59_2 : z3R.den → Option (denX w59_2) := iterL (S59_2) 100
noncomputable def K59 : TF59 := F59 Kg59_2
theorem okK59 : z0a Tryz.prog 59 (mkCall ps59 rs59 K59) := call59 (z1J _ _)
noncomputable def K60 : TF60 := F60
theorem okK60 : z0a Tryz.prog 60 (mkCall ps60 rs60 K60) := call60
noncomputable def K19 : TF19 := F19 K55 K57 K59 K60
theorem okK19 : z0a Tryz.prog 19 (mkCallB z4H rs19 m19 1 K19) := call19 okK55 okK57 okK59 okK60
noncomputable def K22 : TF22 := F22
theorem okK22 : z0a Tryz.prog 22 (mkCall ps22 rs22 K22) := call22
noncomputable def K24 : TF24 := F24
theorem okK24 : z0a Tryz.prog 24 (mkCall ps24 rs24 K24) := call24
noncomputable def K66 : TF66 := F66 K51
theorem okK66 : z0a Tryz.prog 66 (mkCall ps66 rs66 K66) := call66 z5U
noncomputable def K25 : TF25 := F25 K51 K65 K66
theorem okK25 : z0a Tryz.prog 25 (mkCall ps25 rs25 K25) := call25 z5U okK65 okK66
noncomputable def K67 : TF67 := F67 K68
theorem okK67 : z0a Tryz.prog 67 (mkCallB z6B rs67 m67 1 K67) := call67 okK68
noncomputable def K26 : TF26 := F26 K51 K65 K67
theorem okK26 : z0a Tryz.prog 26 (mkCallB z6E rs26 m26 1 K26) := call26 z5U okK65 okK67
noncomputable def K27 : TF27 := F27 K50 K51 K52 K68
theorem okK27 : z0a Tryz.prog 27 (mkCallB z6D rs27 m27 1 K27) := call27 okK50 z5U okK52 okK68
noncomputable def K29 : TF29 := F29 K28 K70
theorem okK29 : z0a Tryz.prog 29 (mkCall ps29 rs29 K29) := call29 okK28 okK70
noncomputable def K9 : TF9 := F9 K12 K14 K16 K17 K19 K22 K24 K25 K26 K27 K28 K29
theorem okK9 : z0a Tryz.prog 9 (mkCall ps9 rs9 K9) := call9 okK12 okK14 okK16 okK17 okK19 okK22 okK24 okK25 okK26 okK27 okK28 okK29
end Go.Proofs.Rf
namespace Go.Proofs.Rf
open Go Go.RowKit
theorem K9_val : K9 () = some ((true, ()), ()) := by kernel_rfl
end Go.Proofs.Rf
namespace Go.Proofs.Rf
open Go Go.RowKit
structure Sh (a : Ac) : Prop where
 ty : a.2.1.length ≤ 100
 by_ : a.2.2.2.2.2.2.2.2.2.1.length ≤ 100
 un : a.2.2.2.2.2.2.2.2.2.2.length ≤ 100
theorem S8_4_step (l : List Ac) {i : Nat} (hi : i < l.length) (hl : l.length ≤ 60) :
  (S8_4 ((l, (l.length : Int), (i : Int), ()), ()) = some (.inl ((l, (l.length : Int), ((i + 1 : Nat) : Int), ()), ())) ∧ Sh (l.getD i dAc)) ∨ S8_4 ((l, (l.length : Int), (i : Int), ()), ()) = some (.inr (.inl ((false, ()), ()))) := by
 have e := S8_4_eq l (l.length : Int) (i : Int)
 have e1 : IntKind.i64.wrap ((i : Int) + 1) = ((i + 1 : Nat) : Int) := by rw [wi (by omega) (by omega)]; omega
 rw [if_pos (by rw [decide_eq_true_eq]; omega), if_pos (by omega), if_pos (by omega), Int.toNat_natCast, e1] at e
 have fin : ∀ {x : Option (z7C.den ⊕ denX w8_4)}, x = (if decide (((l.getD i dAc).2.1.length : Int) > 100) = true then some (Sum.inr (Sum.inl ((false, ()), ())))
   else if decide (((l.getD i dAc).2.2.2.2.2.2.2.2.2.1.length : Int) > 100) = true then some (Sum.inr (Sum.inl ((false, ()), ())))
   else if decide (((l.getD i dAc).2.2.2.2.2.2.2.2.2.2.length : Int) > 100) = true then some (Sum.inr (Sum.inl ((false, ()), ())))
   else some (Sum.inl ((l, (l.length : Int), ((i + 1 : Nat) : Int), ()), ()))) → (x = some (.inl ((l, (l.length : Int), ((i + 1 : Nat) : Int), ()), ())) ∧ Sh (l.getD i dAc)) ∨ x = some (.inr (.inl ((false, ()), ()))) := by
  intro x hx
  by_cases h1 : ((l.getD i dAc).2.1.length : Int) > 100
  ·rw [if_pos (decide_eq_true h1)] at hx
   exact .inr hx
  ·rw [if_neg (by rw [decide_eq_true_eq]; exact h1)] at hx
   by_cases h2 : ((l.getD i dAc).2.2.2.2.2.2.2.2.2.1.length : Int) > 100
   ·rw [if_pos (decide_eq_true h2)] at hx
    exact .inr hx
   ·rw [if_neg (by rw [decide_eq_true_eq]; exact h2)] at hx
    by_cases h3 : ((l.getD i dAc).2.2.2.2.2.2.2.2.2.2.length : Int) > 100
    ·rw [if_pos (decide_eq_true h3)] at hx
     exact .inr hx
    ·rw [if_neg (by rw [decide_eq_true_eq]; exact h3)] at hx
     exact .inl ⟨hx, by omega, by omega, by omega⟩
 split at e
 ·split at e
  ·split at e
   ·exact .inr e
   ·exact fin e
  ·exact fin e
 ·exact fin e
theorem L8_val (l : List Ac) : ∃ b : Bool, L8 (l, ()) = some ((b, ()), ()) ∧ (b = true → l.length ≤ 60 ∧ ∀ i, i < l.length → Sh (l.getD i dAc)) := by
 have e : L8 (l, ()) = _ := F8_eq Lg8_4 l
 by_cases hl : (l.length : Int) > 60
 ·rw [if_pos (decide_eq_true hl)] at e
  exact ⟨false, e, fun q => by cases q⟩
 ·rw [if_neg (by rw [decide_eq_true_eq]; exact hl)] at e
  obtain ⟨z, h1, h2⟩ := z0P (f := S8_4) (fun t => l.length - t.1.2.2.1.toNat)
   (fun t => ∃ i : Nat, i ≤ l.length ∧ t = ((l, (l.length : Int), (i : Int), ()), ()) ∧ ∀ j, j < i → Sh (l.getD j dAc))
   (fun z => z = .inl ((false, ()), ()) ∨ (z = .inr ((), ()) ∧ ∀ j, j < l.length → Sh (l.getD j dAc))) (by
   rintro t ⟨i, hi, rfl, hs⟩
   by_cases h : i < l.length
   ·rcases S8_4_step l h (by omega) with ⟨h1, h2⟩ | h1
    ·refine .inl ⟨_, h1, ⟨i + 1, by omega, rfl, fun j hj => ?_⟩, ?_⟩
     ·by_cases hji : j = i
      ·subst hji; exact h2
      ·exact hs j (by omega)
     ·show l.length - ((i + 1 : Nat) : Int).toNat < l.length - (i : Int).toNat
      omega
    ·exact .inr ⟨_, h1, .inl rfl⟩
   ·have : i = l.length := by omega
    subst this
    rw [S8_4_eq, if_neg (by rw [decide_eq_true_eq]; omega)]
    exact .inr ⟨_, rfl, .inr ⟨rfl, hs⟩⟩) ((l, (l.length : Int), ((0 : Nat) : Int), ()), ()) ⟨0, by omega, rfl, fun j hj => by omega⟩
  have h1 : Lg8_4 ((l, (l.length : Int), 0, ()), ()) = some z := h1
  rw [h1] at e
  rcases h2 with rfl | ⟨rfl, h2⟩
  ·exact ⟨false, e, fun q => by cases q⟩
  ·exact ⟨true, e, fun _ => ⟨by omega, h2⟩⟩
theorem capA_ok {a : Ac} (h : Sh a) : ActOK (capA a) := ⟨by show (0 : Int) ≤ 1099511627776; decide, by have := h.ty; show a.2.1.length ≤ 1000; omega, by have := h.by_; show a.2.2.2.2.2.2.2.2.2.1.length ≤ 1000; omega, by have := h.un; show a.2.2.2.2.2.2.2.2.2.2.length ≤ 1000; omega⟩
theorem act_sh {a : Ac} (h : Sh a) (h0 : 0 ≤ a.2.2.2.2.2.2.2.1) : ActOK a := ⟨h0, by have := h.ty; omega, by have := h.by_; omega, by have := h.un; omega⟩
structure At (m : List Bp) (u : Int) (i : Nat) : Prop where
 inv : Inv m
 len : m.length ≤ i
 lo : -70000 * (i : Int) ≤ u
 hi : u ≤ 70000 * (i : Int)
theorem At.next {m m' : List Bp} {u u' : Int} {i : Nat} {hp : Prop} (h : At m u i) (s : Stp m u hp m' u') : At m' u' (i + 1) :=
 ⟨s.inv, by have := s.len; have := h.len; omega, by have := s.lo; have := h.lo; omega, by have := s.hi; have := h.hi; omega⟩
end Go.Proofs.Rf
namespace Go.Proofs.Rf
open Go Go.RowKit
def iNone : Nat → Option Value := fun _ => none
def cDead : Nat → Blk := fun _ => .dead
theorem z3I {ι : Nat → Option Value} {b : Nat} : ¬ owned ι cDead b := by
 rintro ⟨k, hk⟩
 rw [z0S rfl] at hk
 cases hk
theorem HRel.start (w : World) (hg : GlOK w (fun b => b < w.heap.size)) : HRel (fun _ => False) (fun b => b < w.heap.size) w iNone cDead w :=
 ⟨fun k => trivial, fun k k' b h1 _ => (by rw [z0S rfl] at h1; cases h1), Kept.refl _ _, fun b hb => (z3I hb).elim, fun b hb => hb, fun b hb => (z3I hb).elim, fun b hb => hb.elim, hg.mono fun g q => ⟨⟨q, z3I, fun q => q⟩, rfl⟩⟩
theorem law_walk {P : Program} {f : Nat} {ps : List SV} {F : SV.denL ps → Option (Shape.den ⟨[(0, .d false .bool)], []⟩)} (h : z0a P f (mkCall ps ⟨[(0, .d false .bool)], []⟩ F)) (w : World) {args : List AV} {vs : List Value} {x : SV.denL ps} {fz : List (Nat × Blk)}
  (ht : SV.takeL cDead [] ps args = some (x, fz)) (hF : F x = some ((true, ()), ())) (hrel : RelL w (fun b => b < w.heap.size) iNone args vs) (hg : GlOK w (fun b => b < w.heap.size)) : Calls P f vs.toArray w fun e w' => e = .returned (.bool true) ∧ Below w.heap.size w w' := by
 have hok : okb (fun _ => False) w iNone cDead = fun b => b < w.heap.size := by
  funext b
  exact propext ⟨fun q => q.1, fun q => ⟨q, z3I, fun q => q⟩⟩
 have hco : mkCall ps ⟨[(0, .d false .bool)], []⟩ F args cDead 0 Eff some = some ⟨.d .bool true, [], []⟩ := by
  unfold mkCall
  rw [ht]
  simp only [hF]
  rfl
 refine (h.run _ _ w w iNone cDead 0 args vs _ (HRel.start w hg) (by rw [hok]; exact hrel) hco (fun _ _ _ => rfl)).mono ?_
 rintro e w' ⟨v, rfl, ι', H, E, hv, _⟩
 have hv := z0s.1 hv
 exact ⟨by rw [hv], H.fr.os, H.fr.tape, H.fr.output, H.fr.size, fun i hi => H.fr.block i hi hi⟩
end Go.Proofs.Rf
namespace Go.Proofs.Rf
open Go Go.RowKit Go.ChangeShapes Go.WideShapes
def fitK (k : IntKind) (n : Int) : Prop := k.min ≤ n ∧ n ≤ k.max
def Ty.fit : (t : Ty) → t.den → Prop
 | .int k, n => fitK k n
 | .str, s => s.length ≤ maxLen
 | .sl t, xs => xs.length ≤ maxLen ∧ ∀ x ∈ xs, t.fit x
 | .pr a b, x => a.fit x.1 ∧ b.fit x.2
 | _, _ => True
def tyFs (g : Nat → Option Ty) (c : Nat → Nat) : Nat → List Field → Option (List Ty)
 | _, [] => some []
 | o, f :: r => match g f.type with
  | some ty => if (Nat.beq f.offset o && Nat.beq (c f.type) ty.size) = true then (match tyFs g c (o + ty.size) r with
   | some ts => some (ty :: ts)
   | none => none) else none
  | none => none
def goodTy (P : Program) : Nat → Nat → Option Ty
 | 0, _ => none
 | k + 1, t => match P.underlying t with
  | some (.int i) => some (.int i)
  | some .bool => some .bool
  | some .string => some .str
  | some (.slice e) => (match goodTy P k e with
   | some ty => if (Nat.blt 0 ty.size && Nat.beq (P.cellsOf e) ty.size) = true then some (.sl ty) else none
   | none => none)
  | some (.struct fields) => (match tyFs (goodTy P k) P.cellsOf 0 fields.toList with
   | some ts => if Nat.beq (P.cellsOf t) (prL ts).size = true then some (prL ts) else none
   | none => none)
  | _ => none
section
variable {H : Type} {enc : TypeId × Value → H} {P : Program} {w : World} {sp : Nat → Bool} {held : Bool}
theorem cells_get {a : Addr} {n : Nat} {cs : List Value} (h : w.cells? 0 a n = some cs) : cs.length = n ∧ ∀ j u, cs[j]? = some u → w.cell? (a.add j) = some u := by
 unfold World.cells? at h
 rw [if_pos (Nat.zero_le _)] at h
 have hl := mapM_some_length h
 rw [List.length_range] at hl
 refine ⟨hl, fun j u hu => ?_⟩
 have hj : j < n := by
  rw [← hl]
  exact (List.getElem?_eq_some_iff.1 hu).1
 have := mapM_some_get h j j (by simp [hj])
 rw [hu] at this
 exact this
theorem add_plain (g o j : Nat) : Addr.add ⟨g, o, none⟩ j = ⟨g, o + j, none⟩ := by
 unfold Addr.add
 split
 ·rename_i h
  rw [h]; rfl
 ·rfl
theorem add_two (a : Addr) {m r j : Nat} (h : m + r = j) : (a.add m).add r = a.add j := by
 subst h
 unfold Addr.add
 by_cases h1 : m = 0
 ·subst h1
  simp
 ·by_cases h2 : r = 0
  ·subst h2
   simp [h1]
  ·rw [if_neg h1, if_neg h2, if_neg (by omega), Nat.add_assoc]
theorem cell_place {a : Addr} {u : Value} (h : w.cell? a = some u) : a.spot = none ∧ a.block < w.heap.size := by
 refine ⟨World.cell?_spot h, ?_⟩
 unfold World.cell? at h
 split at h
 ·rename_i h1
  exact (Array.getElem?_eq_some_iff.1 h1).1
 ·cases h
theorem rowL {α : Type} {D : α → List Value → Prop} {Q : α → Prop} {n : Nat} (at_ : Nat → Option (List Value)) : ∀ (len k : Nat), (∀ i, i < len → ∃ cs x, at_ (k + i) = some cs ∧ cs.length = n ∧ D x cs ∧ Q x) →
  ∃ (xs : List α) (cs : List Value), xs.length = len ∧ RzL D xs cs ∧ cs.length = len * n ∧ (∀ x ∈ xs, Q x) ∧ ∀ i j c, i < len → at_ (k + i) = some c → j < n → cs[i * n + j]? = c[j]?
 | 0, k, _ => ⟨[], [], rfl, rfl, by simp, by simp, fun i j c hi => by omega⟩
 | len + 1, k, h => by
  obtain ⟨c0, x0, h0, hl0, hd0, hq0⟩ := h 0 (by omega)
  obtain ⟨xs, cs, hxl, hr, hcl, hq, hg⟩ := rowL at_ len (k + 1) (fun i hi => by
   obtain ⟨c, x, h1, h2⟩ := h (i + 1) (by omega)
   exact ⟨c, x, by rw [show k + 1 + i = k + (i + 1) by omega]; exact h1, h2⟩)
  refine ⟨x0 :: xs, c0 ++ cs, by simp [hxl], ⟨c0, cs, rfl, hd0, hr⟩, by rw [List.length_append, hl0, hcl, Nat.add_mul]; omega, ?_, ?_⟩
  ·intro x hx
   rcases List.mem_cons.1 hx with rfl | hx
   ·exact hq0
   ·exact hq x hx
  ·intro i j c hi hc hj
   cases i with
   | zero =>
    rw [Nat.add_zero] at h0 hc
    rw [h0] at hc
    cases hc
    rw [Nat.zero_mul, Nat.zero_add, List.getElem?_append_left (by omega)]
   | succ i =>
    rw [List.getElem?_append_right (by rw [hl0, Nat.add_mul]; omega), show (i + 1) * n + j - c0.length = i * n + j by rw [hl0, Nat.add_mul]; omega]
    exact hg i j c (by omega) (by rw [show k + 1 + i = k + (i + 1) by omega]; exact hc) hj
theorem z6Y {g : Nat → Option Ty} {c : Nat → Nat} {cs : List Value} {D : Nat → List Value → Prop} (ho : ∀ t ty us, g t = some ty → D t us → ∃ x : ty.den, Rz w (fun b => b < w.heap.size) ty x us ∧ ty.fit x) :
  ∀ (fs : List Field) (ts : List Ty) (o : Nat), tyFs g c o fs = some ts → (∀ f ∈ fs, D f.type ((cs.drop f.offset).take (c f.type))) → (cs.drop o).length = (prL ts).size →
   ∃ x : (prL ts).den, Rz w (fun b => b < w.heap.size) (prL ts) x (cs.drop o) ∧ (prL ts).fit x
 | [], ts, o, ht, _, hl => by
  cases ht
  exact ⟨(), List.eq_nil_of_length_eq_zero hl, trivial⟩
 | f :: r, ts, o, ht, hD, hl => by
  unfold tyFs at ht
  split at ht
  ·rename_i ty hty
   split at ht
   ·rename_i hc
    split at ht
    ·rename_i ts' hts
     cases ht
     simp only [Bool.and_eq_true] at hc
     have ho' := Nat.eq_of_beq_eq_true hc.1
     have hs := Nat.eq_of_beq_eq_true hc.2
     have hd := hD f (by simp)
     rw [ho', hs] at hd
     obtain ⟨x, hx, hf⟩ := ho _ _ _ hty hd
     cases ts' with
     | nil =>
      have hl : _ = ty.size := hl
      rw [List.take_of_length_le (by omega)] at hx
      exact ⟨x, hx, hf⟩
     | cons b r' =>
      have hl : _ = ty.size + (prL (b :: r')).size := hl
      obtain ⟨y, hy, hg⟩ := z6Y ho r (b :: r') (o + ty.size) hts (fun f hf => hD f (by simp [hf])) (by rw [← List.drop_drop, List.length_drop]; omega)
      exact ⟨(x, y), ⟨_, _, by rw [← List.drop_drop, List.take_append_drop], hx, hy⟩, hf, hg⟩
    ·cases ht
   ·cases ht
  ·cases ht
theorem z5p : ∀ (k : Nat) (t : Nat) (ty : Ty), goodTy P k t = some ty → ∀ (fuel : Nat) (cs : List Value) (d : DataW H × List MemPlace), DataW.trod enc P w 0 sp held fuel t cs = some d →
  ∃ x : ty.den, Rz w (fun b => b < w.heap.size) ty x cs ∧ ty.fit x
 | 0, t, ty, hty, _, _, _, _ => by cases hty
 | k + 1, t, ty, hty, fuel, cs, d, h => by
  unfold goodTy at hty
  split at hty
  ·rename_i i hu
   cases hty
   obtain ⟨n, rfl, _, hw⟩ := DataW.trod_int hu h
   simp only [Lit.wf, Bool.and_eq_true, decide_eq_true_eq] at hw
   exact ⟨n, rfl, hw⟩
  ·rename_i hu
   cases hty
   obtain ⟨b, rfl, _⟩ := DataW.trod_bool hu h
   exact ⟨b, rfl, trivial⟩
  ·rename_i hu
   cases hty
   obtain ⟨s, rfl, _, hs⟩ := DataW.trod_string hu h
   refine ⟨s.data.toList, ?_, ?_⟩
   ·show _ = _
    cases s
    rfl
   ·show _ ≤ _
    rw [Array.length_toList]
    exact hs
  ·rename_i e hu
   split at hty
   ·rename_i te hte
    split at hty
    ·rename_i hc
     cases hty
     simp only [Bool.and_eq_true] at hc
     have hpos : 0 < te.size := Nat.le_of_ble_eq_true hc.1
     have hsz := Nat.eq_of_beq_eq_true hc.2
     rcases DataW.trod_slice hu h with ⟨rfl, _⟩ | ⟨a, len, cap, elems, rest, n, _, rfl, _, _, hlc, hcm, hel, hget, _, _⟩
     ·exact ⟨[], ⟨none, 0, rfl, Nat.le_refl _, fun hp => by simp at hp⟩, by simp [Ty.fit]⟩
     ·have hrow : ∀ i, i < len → ∃ cs x, (fun i => w.cells? 0 (a.add (i * te.size)) te.size) (0 + i) = some cs ∧ cs.length = te.size ∧ Rz w (fun b => b < w.heap.size) te x cs ∧ te.fit x := by
       intro i hi
       have hg := hget i hi
       rw [hsz, List.getElem?_eq_getElem (by omega)] at hg
       obtain ⟨c, h1, h2⟩ := Option.bind_eq_some_iff.1 hg
       obtain ⟨x, hx, hf⟩ := z5p k e te hte n c _ h2
       exact ⟨c, x, by rw [Nat.zero_add]; exact h1, (cells_get h1).1, hx, hf⟩
      obtain ⟨xs, cs, hxl, hr, hcl, hq, hg⟩ := rowL (fun i => w.cells? 0 (a.add (i * te.size)) te.size) len 0 hrow
      refine ⟨xs, ⟨some a, cap, by rw [hxl], by rw [hxl]; exact hlc, fun hp => ?_⟩, by rw [hxl]; omega, hq⟩
      rw [hxl] at hp
      have hcell : ∀ j u, cs[j]? = some u → w.cell? (a.add j) = some u := by
       intro j u hu
       have hj : j < len * te.size := by rw [← hcl]; exact (List.getElem?_eq_some_iff.1 hu).1
       have hi : j / te.size < len := Nat.div_lt_of_lt_mul (by rw [Nat.mul_comm]; exact hj)
       obtain ⟨c, _, h1, hl, _⟩ := hrow (j / te.size) hi
       have hjm : j % te.size < te.size := Nat.mod_lt _ hpos
       have e1 : j / te.size * te.size + j % te.size = j := by rw [Nat.mul_comm]; exact Nat.div_add_mod _ _
       have := hg (j / te.size) (j % te.size) c hi h1 hjm
       rw [e1, hu] at this
       rw [Nat.zero_add] at h1
       have h3 := (cells_get h1).2 (j % te.size) u this.symm
       have e2 : (a.add (j / te.size * te.size)).add (j % te.size) = a.add j := add_two a e1
       rw [← e2]
       exact h3
      have h0 : ∃ u, cs[0]? = some u := by
       refine ⟨_, List.getElem?_eq_getElem ?_⟩
       rw [hcl]
       exact Nat.mul_pos hp hpos
      obtain ⟨u, hu⟩ := h0
      have hp := cell_place (hcell 0 u hu)
      obtain ⟨g, o, s⟩ := a
      obtain ⟨hp1, hp2⟩ := hp
      have hs : s = none := hp1
      subst hs
      exact ⟨g, o, cs, rfl, hp2, hr, fun j u hu => by rw [← add_plain]; exact hcell j u hu⟩
    ·cases hty
   ·cases hty
  ·rename_i fields hu
   split at hty
   ·rename_i ts hts
    split at hty
    ·rename_i hc
     cases hty
     obtain ⟨xs, n, _, _, hlen, _, hf⟩ := DataW.trod_struct hu h
     rw [Nat.eq_of_beq_eq_true hc] at hlen
     have hf : ∀ f ∈ fields.toList, ∃ y, DataW.trod enc P w 0 sp held n f.type ((cs.drop f.offset).take (P.cellsOf f.type)) = some y := by
      intro f hm
      obtain ⟨i, hi, e⟩ := List.getElem_of_mem hm
      have hi' : i < fields.size := by simpa using hi
      have e' : fields[i]? = some f := by rw [Array.getElem?_eq_getElem hi']; simp only [← e, Array.getElem_toList]
      have := hf i f e'
      rw [this]
      exact ⟨xs[i]'(by omega), List.getElem?_eq_getElem _⟩
     have := z6Y (cs := cs) (D := fun t us => ∃ y, DataW.trod enc P w 0 sp held n t us = some y) (fun t ty us h1 ⟨y, h2⟩ => z5p k t ty h1 n us y h2) fields.toList ts 0 hts hf (by rw [List.drop_zero]; exact hlen)
     rw [List.drop_zero] at this
     exact this
    ·cases hty
   ·cases hty
  ·cases hty
def aggB (P : Program) (t : Nat) : Bool := match P.underlying t with
 | some (.struct _) => true
 | _ => false
theorem z3g : ∀ (t : Ty), t.eqv t = some ⟨rfl⟩
 | .int k => by
  have : ikEq k k = true := by cases k <;> rfl
  simp [Ty.eqv, this]
 | .bool => rfl
 | .str => rfl
 | .sl t => by
  unfold Ty.eqv
  rw [z3g t]
 | .pr a b => by
  unfold Ty.eqv
  rw [z3g a, z3g b]
 | .un => rfl
 | .ic => rfl
 | .fv => rfl
 | .fk f => by simp [Ty.eqv]
 | .tr a b => by
  unfold Ty.eqv
  rw [z3g a, z3g b]
theorem z3c (C : Nat → Blk) : ∀ (t : Ty) (x : t.den) (r : List AV), pack C t (unpack t x ++ r) = some (x, r, [])
 | .int k, x, r => by
  have : dat1 C (.int k) (.d (.int k) x) = some (x, []) := by
   show (if ikEq k k = true then some (x, []) else none) = _
   rw [if_pos (by cases k <;> rfl)]
  show (match dat1 C (.int k) (.d (.int k) x) with | some (x, f) => some (x, r, f) | none => none) = _
  rw [this]
 | .bool, x, r => rfl
 | .str, x, r => rfl
 | .sl t, x, r => by
  have : dat1 C (.sl t) (.d (.sl t) x) = some (x, []) := by
   simp only [dat1, z3g]
   rfl
  show (match dat1 C (.sl t) (.d (.sl t) x) with | some (x, f) => some (x, r, f) | none => none) = _
  rw [this]
 | .pr a b, x, r => by
  show pack C (.pr a b) ((unpack a x.1 ++ unpack b x.2) ++ r) = _
  rw [List.append_assoc]
  unfold pack
  rw [z3c C a x.1]
  simp only
  rw [z3c C b x.2]
  rfl
 | .un, x, r => rfl
 | .ic, x, r => rfl
 | .fv, x, r => rfl
 | .fk f, x, r => by
  have : dat1 C (.fk f) (.fn f []) = some ((), []) := by
   show (if Nat.beq f f = true then some ((), []) else none) = _
   rw [if_pos (Nat.beq_refl f)]
  show (match dat1 C (.fk f) (.fn f []) with | some (x, f) => some (x, r, f) | none => none) = _
  rw [this]
 | .tr a b, x, r => by
  have : dat1 C (.tr a b) (.d (.tr a b) x) = some (x, []) := by
   simp only [dat1, z3g]
   rfl
  show (match dat1 C (.tr a b) (.d (.tr a b) x) with | some (x, f) => some (x, r, f) | none => none) = _
  rw [this]
theorem dat_ag (C : Nat → Blk) (t : Ty) (x : t.den) : dat C t (.ag (unpack t x)) = some (x, []) := by
 have := z3c C t x []
 rw [List.append_nil] at this
 show (match pack C t (unpack t x) with | some (x, [], f) => some (x, f) | _ => none) = _
 rw [this]
theorem take_ag (C : Nat → Blk) (t : Ty) (x : t.den) : SV.take C [] (.d true t) (.ag (unpack t x)) = some (x, []) := dat_ag C t x
theorem take_one (C : Nat → Blk) (t : Ty) (x : t.den) (h : unpack t x = [.d t x]) : SV.take C [] (.d false t) (.d t x) = some (x, []) := by
 have := z3c C t x []
 rw [List.append_nil, h] at this
 show (match pack C t [.d t x] with | some (x, [], f) => some (x, f) | _ => none) = _
 rw [this]
theorem open_arg {r : Reach} {b0 k t : Nat} {ty : Ty} {v : Value} {d : DataW H} {ps : List MemPlace} (hg : goodTy P (k + 1) t = some ty) (hv : Value.okWide P w r b0 t v) (hd : DataW.Trod enc P w 0 sp held t v d ps) :
  ∃ (a : AV) (x : ty.den), RelV w (fun b => b < w.heap.size) iNone a v ∧ SV.take cDead [] (.d (aggB P t) ty) a = some (x, []) ∧ ty.fit x := by
 obtain ⟨fuel, hf⟩ := hd
 obtain ⟨x, hx, hfit⟩ := z5p (k + 1) t ty hg fuel _ _ hf
 unfold goodTy at hg
 unfold aggB
 split at hg
 ·rename_i i hu
  cases hg
  obtain ⟨n, rfl⟩ := okWide_int hu hv
  rw [hu]
  exact ⟨_, x, by simp only [RelV]; exact hx, take_one _ _ x rfl, hfit⟩
 ·rename_i hu
  cases hg
  obtain ⟨n, rfl⟩ := okWide_bool hu hv
  rw [hu]
  exact ⟨_, x, by simp only [RelV]; exact hx, take_one _ _ x rfl, hfit⟩
 ·rename_i hu
  cases hg
  obtain ⟨n, rfl⟩ := okWide_string hu hv
  rw [hu]
  exact ⟨_, x, by simp only [RelV]; exact hx, take_one _ _ x rfl, hfit⟩
 ·rename_i e hu
  split at hg
  ·split at hg
   ·cases hg
    obtain ⟨a, l, c, rfl⟩ := okWide_slice hu hv
    rw [hu]
    exact ⟨_, x, by simp only [RelV]; exact hx, take_one _ _ x rfl, hfit⟩
   ·cases hg
  ·cases hg
 ·rename_i fs hu
  split at hg
  ·split at hg
   ·cases hg
    obtain ⟨cs, rfl, _⟩ := okWide_struct hu hv
    rw [hu]
    have hx : Rz _ _ _ x cs.toList := hx
    exact ⟨_, x, by simp only [RelV]; exact ⟨cs.toList, by simp, z0E _ _ _ hx⟩, take_ag _ _ x, hfit⟩
   ·cases hg
  ·cases hg
 ·cases hg
def argsOf (P : Program) : List Nat → Option (List SV)
 | [] => some []
 | t :: r => match goodTy P 16 t with
  | some ty => match argsOf P r with
   | some s => some (.d (aggB P t) ty :: s)
   | none => none
  | none => none
def fitDL : (l : List SV) → SV.denL l → Prop
 | [], _ => True
 | .d _ t :: r, x => t.fit x.1 ∧ fitDL r x.2
 | _ :: _, _ => False
theorem open_args {r : Reach} {b0 : Nat} : ∀ (ts : List TypeId) (vs : List Value) (ds : List (DataW H)) (ps : List MemPlace), DataW.TrodAll enc P w 0 sp held ts vs ds ps →
  (∀ (j : Nat) t v, ts[j]? = some t → vs[j]? = some v → Value.okWide P w r b0 t v) → ∀ (svs : List SV), argsOf P ts = some svs →
  ∃ (avs : List AV) (x : SV.denL svs), RelL w (fun b => b < w.heap.size) iNone avs vs ∧ SV.takeL cDead [] svs avs = some (x, []) ∧ fitDL svs x
 | [], vs, ds, ps, h, _, svs, hs => by
  obtain ⟨rfl, _, _⟩ := trodAll_nil h
  cases hs
  exact ⟨[], (), z0d.2 rfl, rfl, trivial⟩
 | t :: ts, vs, ds, ps, h, hv, svs, hs => by
  obtain ⟨v, vs', d, ds', p, q, rfl, rfl, rfl, hd, hr⟩ := trodAll_cons h
  unfold argsOf at hs
  split at hs
  ·rename_i ty hty
   split at hs
   ·rename_i s hs'
    cases hs
    obtain ⟨a, x, h1, h2, h3⟩ := open_arg hty (hv 0 t v rfl rfl) hd
    obtain ⟨avs, y, h4, h5, h6⟩ := open_args ts vs' ds' q hr (fun j t' v' h7 h8 => hv (j + 1) t' v' h7 h8) s hs'
    refine ⟨a :: avs, (x, y), z0b.2 ⟨v, vs', rfl, h1, h4⟩, ?_, h3, h6⟩
    unfold SV.takeL
    rw [h2]
    simp only
    rw [h5]
    rfl
   ·cases hs
  ·cases hs
theorem shut_args {W W' : World} (hl : laidOutB P = true) (hb : Below W.heap.size W W') : ∀ (ts : List TypeId) (vs : List Value) (ds : List (DataW H)) (ps : List MemPlace), (∀ t ∈ ts, P.readableRec t = true ∧ t < P.types.size) →
  DataW.TrodAll enc P W 0 (fun _ => true) true ts vs ds ps → DataW.TrodAll enc P W' 0 (fun b => decide (b < W.heap.size)) true ts vs ds ps
 | [], vs, ds, ps, _, h => by
  obtain ⟨rfl, rfl, rfl⟩ := trodAll_nil h
  exact trodAll_mk0
 | t :: ts, vs, ds, ps, ht, h => by
  obtain ⟨v, vs', d, ds', p, q, rfl, rfl, rfl, hd, hr⟩ := trodAll_cons h
  have lt : ∀ x ∈ p, x.block < W.heap.size := by
   obtain ⟨m, hm⟩ := hd
   exact DataW.trod_lt m _ _ _ hm
  exact trodAll_cons_mk (Below.trod hl (ht t (by simp)).1 (ht t (by simp)).2 hd hb lt) (shut_args hl hb ts vs' ds' q (fun t' h' => ht t' (by simp [h'])) hr)
end
end Go.Proofs.Rf
namespace Go.Proofs.Rf
open Go Go.RowKit
theorem u64_lo {n : Int} (h : fitK .u64 n) : 0 ≤ n := h.1
theorem u64_hi {n : Int} (h : fitK .u64 n) : n < 18446744073709551616 := by
 have h1 : n ≤ 18446744073709551615 := h.2
 omega
end Go.Proofs.Rf
namespace Go.Proofs.Rf
open Go Go.RowKit
theorem At.zero : At [] 0 0 := ⟨⟨by simp, fun b hb => by cases hb⟩, by simp, by omega, by omega⟩
end Go.Proofs.Rf
namespace Go.Proofs.Rf
open Go Go.RowKit
theorem w64 {n : Int} (h0 : 0 ≤ n) (h1 : n < 18446744073709551616) : IntKind.u64.wrap n = n := by
 simp [IntKind.wrap, IntKind.bits, IntKind.signed]
 omega
theorem z2O (n x : Nat) (h : x < 2 ^ n) : (BitVec.ofInt n (x : Int)).toNat = x := by
 rw [BitVec.ofInt_natCast, BitVec.toNat_ofNat, Nat.mod_eq_of_lt h]
theorem bor {x y : Nat} (hx : x < 18446744073709551616) (hy : y < 18446744073709551616) : bitop .or .u64 (x : Int) (y : Int) = ((x ||| y : Nat) : Int) := by
 show IntKind.u64.wrap ((((BitVec.ofInt 64 (x : Int)) ||| (BitVec.ofInt 64 (y : Int))).toNat : Nat) : Int) = _
 rw [BitVec.toNat_or, z2O 64 x hx, z2O 64 y hy]
 have : x ||| y < 2 ^ 64 := Nat.or_lt_two_pow hx hy
 exact w64 (by omega) (by omega)
theorem band {x y : Nat} (hx : x < 18446744073709551616) (hy : y < 18446744073709551616) : bitop .and .u64 (x : Int) (y : Int) = ((x &&& y : Nat) : Int) := by
 show IntKind.u64.wrap ((((BitVec.ofInt 64 (x : Int)) &&& (BitVec.ofInt 64 (y : Int))).toNat : Nat) : Int) = _
 rw [BitVec.toNat_and, z2O 64 x hx, z2O 64 y hy]
 have : x &&& y ≤ x := Nat.and_le_left
 exact w64 (by omega) (by omega)
theorem bandNot {x y : Nat} (hx : x < 18446744073709551616) (hy : y < 18446744073709551616) : bitop .andNot .u64 (x : Int) (y : Int) = ((x - (x &&& y) : Nat) : Int) := by
 show IntKind.u64.wrap ((((BitVec.ofInt 64 (x : Int)) &&& ~~~ (BitVec.ofInt 64 (y : Int))).toNat : Nat) : Int) = _
 have e : ((BitVec.ofInt 64 (x : Int)) &&& ~~~ (BitVec.ofInt 64 (y : Int))).toNat = x - (x &&& y) := by
  have h1 : (BitVec.ofInt 64 (x : Int)).toNat = x := z2O 64 x hx
  have h2 : (BitVec.ofInt 64 (y : Int)).toNat = y := z2O 64 y hy
  generalize BitVec.ofInt 64 (x : Int) = a at *
  generalize BitVec.ofInt 64 (y : Int) = b at *
  subst h1
  subst h2
  rw [← BitVec.toNat_and]
  have h3 : a = (a &&& b) + (a &&& ~~~ b) := by
   have h4 : (a &&& b) &&& (a &&& ~~~ b) = 0#64 := by
    ext i
    simp
    grind
   rw [BitVec.add_eq_or_of_and_eq_zero _ _ h4]
   ext i
   simp
   grind
  have h5 : (a &&& b).toNat + (a &&& ~~~ b).toNat < 2 ^ 64 := by
   have h4 : (a &&& b) &&& (a &&& ~~~ b) = 0#64 := by
    ext i
    simp
    grind
   have := BitVec.toNat_add_of_and_eq_zero h4
   rw [← this]
   exact BitVec.isLt _
  have h6 : a.toNat = (a &&& b).toNat + (a &&& ~~~ b).toNat := by
   conv => lhs; rw [h3]
   rw [BitVec.toNat_add, Nat.mod_eq_of_lt h5]
  omega
 rw [e]
 exact w64 (by omega) (by omega)
theorem pow_le64 {n : Nat} (h : n ≤ 64) : 2 ^ n ≤ 18446744073709551616 := Nat.pow_le_pow_right (n := 2) (by decide) h
theorem mk_nat {b : Nat} (h : b ≤ 64) : mk b = ((2 ^ b - 1 : Nat) : Int) := by
 unfold mk
 by_cases h64 : b = 64
 ·subst h64
  rfl
 ·have h1 : 2 ^ b ≤ 2 ^ 63 := Nat.pow_le_pow_right (by decide) (by omega)
  have h2 : 0 < 2 ^ b := Nat.two_pow_pos b
  have e : (1 * 2 ^ min b 64 : Int) = ((2 ^ b : Nat) : Int) := by
   rw [Nat.min_eq_left h, Int.one_mul]
   push_cast
   rfl
  rw [if_neg h64, e, w64 (n := ((2 ^ b : Nat) : Int)) (by omega) (by omega), w64 (by omega) (by omega)]
  omega
theorem fit_lt {v b : Nat} (hv : v < 18446744073709551616) (hb : b ≤ 64) (h : bitop .andNot .u64 (v : Int) (mk b) = 0) : v < 2 ^ b := by
 have h2 := pow_le64 hb
 have h3 := Nat.two_pow_pos b
 rw [mk_nat hb, bandNot hv (by omega), Nat.and_two_pow_sub_one_eq_mod] at h
 have h4 := Nat.mod_lt v h3
 have h5 := Nat.mod_le v (2 ^ b)
 omega
theorem nb_nat {v : Nat} {k : Nat} (hk : k ≤ 8) : nb (v : Int) k = ((v / 2 ^ (8 * k) % 256 : Nat) : Int) := by
 unfold nb
 rw [Nat.min_eq_left (by omega)]
 have e : (v : Int).fdiv (2 ^ (8 * k)) = ((v / 2 ^ (8 * k) : Nat) : Int) := by
  rw [Int.fdiv_eq_ediv_of_nonneg _ (by exact Int.le_of_lt (Int.pow_pos (by decide)))]
  push_cast
  rfl
 rw [e]
 show (((v / 2 ^ (8 * k) : Nat) : Int) % 256) = _
 omega
theorem gF_nums (v : Nat) : ∀ (r k : Nat), k + r ≤ 8 → gF ((List.range' k r).map fun i => ((1, nb (v : Int) i, 0, 0) : Cl)) k ((v % 2 ^ (8 * k) : Nat) : Int) = ((v % 2 ^ (8 * (k + r)) : Nat) : Int)
 | 0, k, _ => by simp [gF]
 | r + 1, k, h => by
  rw [List.range'_succ, List.map_cons]
  show gF ((List.range' (k + 1) r).map fun i => ((1, nb (v : Int) i, 0, 0) : Cl)) (k + 1) (bitop .or .u64 ((v % 2 ^ (8 * k) : Nat) : Int) (IntKind.u64.wrap (IntKind.u64.wrap (nb (v : Int) k) * 2 ^ min (8 * k) 64))) = _
  have hp : 2 ^ (8 * k) ≤ 2 ^ 56 := Nat.pow_le_pow_right (by decide) (by omega)
  have hp0 : 0 < 2 ^ (8 * k) := Nat.two_pow_pos _
  have hm := Nat.mod_lt v hp0
  have hq : v / 2 ^ (8 * k) % 256 < 256 := Nat.mod_lt _ (by decide)
  have hmul : v / 2 ^ (8 * k) % 256 * 2 ^ (8 * k) ≤ 255 * 2 ^ 56 := Nat.mul_le_mul (by omega) hp
  have e1 : IntKind.u64.wrap (IntKind.u64.wrap (nb (v : Int) k) * 2 ^ min (8 * k) 64) = ((v / 2 ^ (8 * k) % 256 * 2 ^ (8 * k) : Nat) : Int) := by
   rw [nb_nat (by omega), w64 (n := ((v / 2 ^ (8 * k) % 256 : Nat) : Int)) (by omega) (by omega), Nat.min_eq_left (by omega)]
   have : (((v / 2 ^ (8 * k) % 256 : Nat) : Int) * 2 ^ (8 * k)) = ((v / 2 ^ (8 * k) % 256 * 2 ^ (8 * k) : Nat) : Int) := by rw [Int.natCast_mul, Int.natCast_pow]; rfl
   rw [this]
   exact w64 (by omega) (by omega)
  have e2 : v % 2 ^ (8 * k) ||| v / 2 ^ (8 * k) % 256 * 2 ^ (8 * k) = v % 2 ^ (8 * (k + 1)) := by
   have h1 := Nat.shiftLeft_add_eq_or_of_lt hm (v / 2 ^ (8 * k) % 256)
   rw [Nat.shiftLeft_eq] at h1
   rw [Nat.or_comm, ← h1, show 8 * (k + 1) = 8 * k + 8 by omega, Nat.pow_add, Nat.mod_mul, show (2 : Nat) ^ 8 = 256 from rfl, Nat.mul_comm (2 ^ (8 * k)), Nat.add_comm]
  rw [e1, bor (by omega) (by omega), e2]
  have := gF_nums v r (k + 1) (by omega)
  rw [this, show k + 1 + r = k + (r + 1) by omega]
theorem gF_all {v : Nat} {b : Nat} (hb : b ≤ 64) (hv : v < 2 ^ b) : bitop .and .u64 (gF ((List.range ((b + 7) / 8)).map fun i => ((1, nb (v : Int) i, 0, 0) : Cl)) 0 0) (mk b) = (v : Int) := by
 have h := gF_nums v ((b + 7) / 8) 0 (by omega)
 rw [← List.range_eq_range'] at h
 have h0 : ((v % 2 ^ (8 * 0) : Nat) : Int) = 0 := by simp [Nat.mod_one]
 rw [h0] at h
 rw [h, Nat.zero_add]
 have h2 := pow_le64 hb
 have h3 := Nat.two_pow_pos b
 have h4 : 2 ^ b ≤ 2 ^ (8 * ((b + 7) / 8)) := Nat.pow_le_pow_right (by decide) (by omega)
 rw [Nat.mod_eq_of_lt (Nat.lt_of_lt_of_le hv h4), mk_nat hb, band (by omega) (by omega), Nat.and_two_pow_sub_one_eq_mod, Nat.mod_eq_of_lt hv]
theorem numW_back {s : List UInt8} {v : Nat} {b n : Nat} (hb : b ≤ 64) (hv : v < 2 ^ b) (hs : s ≠ pS) (x y : Int) (hf : bitop .andNot .u64 (v : Int) (mk b) = 0) : gaW s b (scL n s b (1, (v : Int), x, y)) = (1, (v : Int), -1, 0) := by
 have hfit : fit n s b (1, (v : Int), x, y) = true := by
  unfold fit
  rw [if_neg (show ¬ (1 : Int) = 2 by decide), if_pos rfl]
  simp only
  rw [decide_eq_true hf, decide_eq_true hs]
  rfl
 have e : scL n s b (1, (v : Int), x, y) = (List.range ((b + 7) / 8)).map fun i => ((1, nb (v : Int) i, 0, 0) : Cl) := by
  unfold scL
  refine List.map_congr_left fun k _ => ?_
  unfold scC
  rw [if_pos hfit, if_neg (show ¬ (1 : Int) = 2 by decide)]
 rw [e]
 unfold gaW numW
 have ha : all1 ((List.range ((b + 7) / 8)).map fun i => ((1, nb (v : Int) i, 0, 0) : Cl)) = true := by
  unfold all1
  rw [List.all_eq_true]
  intro c hc
  obtain ⟨i, _, rfl⟩ := List.mem_map.1 hc
  rfl
 rw [if_neg hs, if_pos ha, gF_all hb hv]
theorem gaW_undef {s : List UInt8} {b n : Nat} (hs : s ≠ pS) (hn : 0 < n) : gaW s b (List.replicate n zC) = (0, 0, -1, 0) := by
 unfold gaW numW
 have ha : all1 (List.replicate n zC) = false := by
  unfold all1
  obtain ⟨k, rfl⟩ : ∃ k, n = k + 1 := ⟨n - 1, by omega⟩
  rw [List.replicate_succ, List.all_cons]
  rfl
 rw [if_neg hs, ha]
 rfl
end Go.Proofs.Rf
namespace Go.Proofs.Rf
open Go Go.RowKit
def Gd (m : List Bp) (k : Nat) (cs : List Cl) : Prop := k < m.length ∧ (∃ t, m.getD k dG = ((t, 16, false, false), cs)) ∧ cs.length = 16
theorem Gd.snoc {m : List Bp} {t : Int} : Gd (m ++ [newB t 16 false 16]) m.length (List.replicate 16 zC) := by
 refine ⟨by simp, ⟨t, ?_⟩, by simp⟩
 rw [z1s _ (by simp)]
 simp [newB]
theorem Gd.keep {m : List Bp} {k : Nat} {cs : List Cl} (h : Gd m k cs) (x : Bp) : Gd (m ++ [x]) k cs := by
 obtain ⟨h1, ⟨t, h2⟩, h3⟩ := h
 refine ⟨by simp; omega, ⟨t, ?_⟩, h3⟩
 rw [z1s _ (by simp; omega), List.getElem_append_left h1, ← h2, z1s _ h1]
theorem Gd.other {m : List Bp} {k j : Nat} {cs : List Cl} (h : Gd m k cs) (hj : k ≠ j) (off : Nat) (xs : List Cl) : Gd (Wg m j off xs) k cs := by
 obtain ⟨h1, ⟨t, h2⟩, h3⟩ := h
 exact ⟨by rw [z2d]; exact h1, ⟨t, by rw [Wg_other hj, h2]⟩, h3⟩
theorem Gd.put {m : List Bp} {k : Nat} {cs : List Cl} (h : Gd m k cs) {xs : List Cl} (hx : xs.length ≤ 16) : Gd (Wg m k 0 xs) k (xs ++ cs.drop xs.length) := by
 obtain ⟨h1, ⟨t, h2⟩, h3⟩ := h
 refine ⟨by rw [z2d]; exact h1, ⟨t, ?_⟩, by simp; omega⟩
 rw [Wg_get h1, h2]
 simp
theorem kd_gd {m : List Bp} {k : Nat} {cs : List Cl} (h : Gd m k cs) {n al : Int} (hn : n ≤ 16) (hal : al ≤ 16) (w : Bool) : kd m ((k : Int), 0) n al w = -1 := by
 obtain ⟨h1, ⟨t, h2⟩, h3⟩ := h
 have hb : blk m ((k : Int), 0) = ((t, 16, false, false), cs) := h2
 have hf : fm m.length ((k : Int), 0) = true := by
  unfold fm
  rw [decide_eq_true_eq]
  right
  show (0 : Int) ≤ (k : Int) ∧ (k : Int) < (m.length : Int) ∧ (-1099511627776 : Int) ≤ 0 ∧ (0 : Int) ≤ 1099511627776
  omega
 unfold kd
 by_cases h0 : n ≤ 0
 ·rw [if_pos h0]
 ·have n1 : ¬ c1 m ((k : Int), 0) n := by
   unfold c1
   rw [hb, hf]
   rintro (q | q | q | q | q)
   ·have q : (k : Int) < 0 := q
    omega
   ·cases q
   ·have q : (0 : Int) < 0 := q
    omega
   ·have q : (cs.length : Int) < 0 := q
    omega
   ·have q : (cs.length : Int) - 0 < n := q
    omega
  have n3 : ¬ c3 m ((k : Int), 0) al := by
   unfold c3
   rw [hb]
   rintro ⟨q1, q | q⟩
   ·have q : al > 16 := q
    omega
   ·exact q (Int.zero_tmod al)
  rw [if_neg h0, if_neg n1, hb, if_neg (show ¬ false = true by decide), if_neg n3, if_neg (show ¬ (w && false) = true by cases w <;> decide)]
theorem cel_gd {m : List Bp} {k : Nat} {cs : List Cl} (h : Gd m k cs) {n : Nat} (hn : 0 < n) : cel m ((k : Int), 0) (n : Int) = cs.take n := by
 obtain ⟨_, ⟨t, h2⟩, _⟩ := h
 unfold cel
 rw [if_neg (by omega), Int.toNat_natCast]
 show List.take n (List.drop 0 (m.getD k dG).2) = _
 rw [h2, List.drop_zero]
theorem alg_le (n : Nat) : alg n ≤ 8 := by
 unfold alg
 split
 ·omega
 ·split
  ·omega
  ·split <;> omega
theorem ld_gd {m : List Bp} {k : Nat} {cs : List Cl} (h : Gd m k cs) (_hl : m.length ≤ 1000) {s : List UInt8} {b : Nat} (hb : tyb s = some b) (h0 : 0 < (b + 7) / 8) : ldW m s ((k : Int), 0) = (gaW s b (cs.take ((b + 7) / 8)), -1, ()) := by
 have h64 := z2q hb
 have ha := alg_le ((b + 7) / 8)
 unfold ldW
 rw [hb]
 dsimp only
 rw [if_pos (kd_gd h (by omega) (by omega) false), cel_gd h h0]
theorem st_gd {m : List Bp} {k : Nat} {cs : List Cl} (h : Gd m k cs) (_hl : m.length ≤ 1000) {s : List UInt8} {b : Nat} (hb : tyb s = some b) (w : Wd) : stM m s ((k : Int), 0) w = (-1, Wg m k 0 (scL m.length s b w)) := by
 have h64 := z2q hb
 have ha := alg_le ((b + 7) / 8)
 unfold stM
 rw [hb]
 dsimp only
 rw [if_pos (kd_gd h (by omega) (by omega) true)]
 rfl
theorem cp_gd {m : List Bp} {k j : Nat} {cs ds : List Cl} (h : Gd m k cs) (hj : Gd m j ds) (_hl : m.length ≤ 1000) : cpM m ((j : Int), 0) ((k : Int), 0) 16 = (-1, Wg m j 0 cs) := by
 unfold cpM
 rw [kd_gd h (by omega) (by omega) false, kd_gd hj (by omega) (by omega) true, if_pos (by decide)]
 have := cel_gd h (n := 16) (by omega)
 rw [show cel m ((k : Int), 0) 16 = _ from this, List.take_of_length_le (by rw [h.2.2]; omega)]
 rfl
theorem er_gd {m : List Bp} {k : Nat} {cs : List Cl} (h : Gd m k cs) (_hl : m.length ≤ 1000) {n : Nat} (hn : n ≤ 16) : erM m ((k : Int), 0) (n : Int) = (-1, Wg m k 0 (List.replicate n zC)) := by
 unfold erM
 rw [if_pos (kd_gd h (by omega) (by omega) true)]
 rfl
theorem S6_5_step {m : List Bp} {u : Int} {i : Nat} (hA : At m u i) {l : List Ac} (hl : l.length ≤ 60) (hi : i < l.length) (hs : Sh (l.getD i dAc)) (h0 : 0 ≤ (l.getD i dAc).2.2.2.2.2.2.2.1) (s : List UInt8) (w : Wd) :
  ∃ m' u', S6_5 L13 ((s, (), (), l, (l.length : Int), (i : Int), ()), (w.1, w.2.1, w.2.2.1, w.2.2.2, ()), ((), u, ()), m, ()) = some (.inl ((s, (), (), l, (l.length : Int), ((i + 1 : Nat) : Int), ()), (w.1, w.2.1, w.2.2.1, w.2.2.2, ()), ((), u', ()), m', ())) ∧ At m' u' (i + 1) := by
 have hlo := hA.lo
 have hhi := hA.hi
 have hlen := hA.len
 have key : ∀ a, ActOK a → ∃ m' u', ((L13 (((), a, ()), ((), u, ()), m, ())).bind fun z => some (Sum.inl ((s, (), (), l, (l.length : Int), IntKind.i64.wrap ((i : Int) + 1), ()), (w.1, w.2.1, w.2.2.1, w.2.2.2, ()), ((), z.2.1.2.1, ()), z.2.2.1, ())) : Option (z7D.den ⊕ denX w6_5)) = some (.inl ((s, (), (), l, (l.length : Int), ((i + 1 : Nat) : Int), ()), (w.1, w.2.1, w.2.2.1, w.2.2.2, ()), ((), u', ()), m', ())) ∧ At m' u' (i + 1) := by
  intro a ha
  obtain ⟨ans, m', u', g1, g2, g3⟩ := act_ok hA.inv (show m.length < 1000 by omega) (show -1000000000 ≤ u by omega) (show u ≤ 1000000000 by omega) a ha
  refine ⟨m', u', ?_, hA.next g3⟩
  rw [g1, wi (by omega) (by omega)]
  rfl
 have e := S6_5_eq L13 s l (l.length : Int) (i : Int) w.1 w.2.1 w.2.2.1 w.2.2.2 u m
 rw [if_pos (by rw [decide_eq_true_eq]; omega), if_pos (by omega), if_pos (by omega), Int.toNat_natCast] at e
 rw [e]
 split
 ·split
  ·exact key _ (capA_ok hs)
  ·exact key _ (act_sh hs h0)
 ·exact key _ (act_sh hs h0)
theorem Lg6_5_val {l : List Ac} (hl : l.length ≤ 60) (hs : ∀ i, i < l.length → Sh (l.getD i dAc)) (h0 : ∀ i, i < l.length → 0 ≤ (l.getD i dAc).2.2.2.2.2.2.2.1) (s : List UInt8) (w : Wd) :
  ∃ m u, Lg6_5 ((s, (), (), l, (l.length : Int), 0, ()), (w.1, w.2.1, w.2.2.1, w.2.2.2, ()), ((), 0, ()), [], ()) = some ((s, (), (), ()), (w.1, w.2.1, w.2.2.1, w.2.2.2, ()), ((), u, ()), m, ()) ∧ At m u l.length := by
 obtain ⟨z, h1, m, u, rfl, h2⟩ := z0P (f := S6_5 L13) (fun t => l.length - t.1.2.2.2.2.2.1.toNat)
  (fun t => ∃ (i : Nat) (m : List Bp) (u : Int), i ≤ l.length ∧ t = ((s, (), (), l, (l.length : Int), (i : Int), ()), (w.1, w.2.1, w.2.2.1, w.2.2.2, ()), ((), u, ()), m, ()) ∧ At m u i)
  (fun z => ∃ m u, z = ((s, (), (), ()), (w.1, w.2.1, w.2.2.1, w.2.2.2, ()), ((), u, ()), m, ()) ∧ At m u l.length) (by
  rintro t ⟨i, m, u, hi, rfl, hA⟩
  by_cases h : i < l.length
  ·obtain ⟨m', u', g1, g2⟩ := S6_5_step hA hl h (hs i h) (h0 i h) s w
   refine .inl ⟨_, g1, ⟨i + 1, m', u', by omega, rfl, g2⟩, ?_⟩
   show l.length - ((i + 1 : Nat) : Int).toNat < l.length - (i : Int).toNat
   omega
  ·have : i = l.length := by omega
   subst this
   rw [S6_5_eq, if_neg (by rw [decide_eq_true_eq]; omega)]
   exact .inr ⟨_, rfl, m, u, rfl, hA⟩) ((s, (), (), l, (l.length : Int), ((0 : Nat) : Int), ()), (w.1, w.2.1, w.2.2.1, w.2.2.2, ()), ((), 0, ()), [], ()) ⟨0, [], 0, by omega, rfl, .zero⟩
 exact ⟨m, u, h1, h2⟩
theorem fine8 (i : Nat) : ([-1, -1, -1, -1, -1, -1, -1, -1] : List Int).getD i 0 = -1 ∨ 8 ≤ i := by
 match i with
 | 0 | 1 | 2 | 3 | 4 | 5 | 6 | 7 => exact .inl rfl
 | n + 8 => exact .inr (by omega)
theorem Lg6_28_val (w a c d e f : Wd) : Lg6_28 (((), (), (), (), (), (), (), 8, 0, ()), (w.1, w.2.1, w.2.2.1, w.2.2.2, ()), (a.1, a.2.1, a.2.2.1, a.2.2.2, ()), (c.1, c.2.1, c.2.2.1, c.2.2.2, ()), (d.1, d.2.1, d.2.2.1, d.2.2.2, ()), (e.1, e.2.1, e.2.2.1, e.2.2.2, ()), (f.1, f.2.1, f.2.2.1, f.2.2.2, ()), [-1, -1, -1, -1, -1, -1, -1, -1], ()) =
  some (.inr (((), (), (), (), (), (), ()), (w.1, w.2.1, w.2.2.1, w.2.2.2, ()), (a.1, a.2.1, a.2.2.1, a.2.2.2, ()), (c.1, c.2.1, c.2.2.1, c.2.2.2, ()), (d.1, d.2.1, d.2.2.1, d.2.2.2, ()), (e.1, e.2.1, e.2.2.1, e.2.2.2, ()), (f.1, f.2.1, f.2.2.1, f.2.2.2, ()), ())) := by
 obtain ⟨z, h1, rfl⟩ := z0P (f := S6_28) (fun t => 8 - t.1.2.2.2.2.2.2.2.2.1.toNat)
  (fun t => ∃ i : Nat, i ≤ 8 ∧ t = (((), (), (), (), (), (), (), 8, (i : Int), ()), (w.1, w.2.1, w.2.2.1, w.2.2.2, ()), (a.1, a.2.1, a.2.2.1, a.2.2.2, ()), (c.1, c.2.1, c.2.2.1, c.2.2.2, ()), (d.1, d.2.1, d.2.2.1, d.2.2.2, ()), (e.1, e.2.1, e.2.2.1, e.2.2.2, ()), (f.1, f.2.1, f.2.2.1, f.2.2.2, ()), [-1, -1, -1, -1, -1, -1, -1, -1], ()))
  (fun z => z = .inr (((), (), (), (), (), (), ()), (w.1, w.2.1, w.2.2.1, w.2.2.2, ()), (a.1, a.2.1, a.2.2.1, a.2.2.2, ()), (c.1, c.2.1, c.2.2.1, c.2.2.2, ()), (d.1, d.2.1, d.2.2.1, d.2.2.2, ()), (e.1, e.2.1, e.2.2.1, e.2.2.2, ()), (f.1, f.2.1, f.2.2.1, f.2.2.2, ()), ())) (by
  rintro t ⟨i, hi, rfl⟩
  rw [S6_28_eq]
  by_cases h : i < 8
  ·have hg : ([-1, -1, -1, -1, -1, -1, -1, -1] : List Int).getD i 0 = -1 := by rcases fine8 i with q | q; exact q; omega
   have q2 : (i : Int) < (([-1, -1, -1, -1, -1, -1, -1, -1] : List Int).length : Int) := by show (i : Int) < 8; omega
   rw [if_pos (by rw [decide_eq_true_eq]; omega), if_pos (by omega), if_pos q2, Int.toNat_natCast, hg, if_neg (by decide), wi (by omega) (by omega)]
   refine .inl ⟨_, rfl, ⟨i + 1, by omega, rfl⟩, ?_⟩
   show 8 - ((i : Int) + 1).toNat < 8 - (i : Int).toNat
   omega
  ·have : i = 8 := by omega
   subst this
   rw [if_neg (by decide)]
   exact .inr ⟨_, rfl, rfl⟩) (((), (), (), (), (), (), (), 8, ((0 : Nat) : Int), ()), (w.1, w.2.1, w.2.2.1, w.2.2.2, ()), (a.1, a.2.1, a.2.2.1, a.2.2.2, ()), (c.1, c.2.1, c.2.2.1, c.2.2.2, ()), (d.1, d.2.1, d.2.2.1, d.2.2.2, ()), (e.1, e.2.1, e.2.2.1, e.2.2.2, ()), (f.1, f.2.1, f.2.2.1, f.2.2.2, ()), [-1, -1, -1, -1, -1, -1, -1, -1], ()) ⟨0, by omega, rfl⟩
 exact h1
def val (s : List UInt8) (w : Wd) : Bool := match tyb s with
 | none => false
 | some b => decide (s ≠ pS) && (decide (w.1 = 1) && decide (bitop .andNot .u64 w.2.1 (mk b) = 0))
theorem L11_val (s : List UInt8) (w : Wd) : L11 (s, w, ()) = some ((val s w, ()), ()) := by
 refine (F11_eq L15 L36 L37 s w.1 w.2.1 w.2.2.1 w.2.2.2).trans ?_
 rw [z5F]
 simp only [Option.bind_some]
 unfold val
 cases hb : tyb s with
 | none => rfl
 | some b =>
  rw [if_pos (by rfl)]
  dsimp only
  by_cases hp : s = pS
  ·rw [if_neg (by rw [Bool.not_eq_true', beq_eq_false_iff_ne]; exact fun q => q hp), decide_eq_false fun q => q hp]
   rfl
  ·rw [if_pos (by rw [Bool.not_eq_true', beq_eq_false_iff_ne]; exact hp), decide_eq_true hp, Bool.true_and]
   by_cases h1 : w.1 = 1
   ·rw [if_pos (by rw [beq_iff_eq]; exact h1), decide_eq_true h1, Bool.true_and, L37_val hb]
    simp only [Option.bind_some]
    rw [L36_val (z2q hb)]
    simp only [Option.bind_some]
    have e0 : (bitop .andNot .u64 w.2.1 (mk b) == 0) = decide (bitop .andNot .u64 w.2.1 (mk b) = 0) := by rw [Bool.eq_iff_iff, beq_iff_eq, decide_eq_true_eq]
    rw [e0]
   ·rw [if_neg (by rw [beq_iff_eq]; exact h1), decide_eq_false h1, Bool.false_and]
noncomputable def law6 : (SV.denL ps6) → Option (rs6).den := F6 L8 K9 L11 L12 L14 L15 L16 L17 L18 L19 L20 Lg6_5 Lg6_28
theorem law6_core {m : List Bp} {u : Int} {j : Nat} (hA : At m u j) (hj : j ≤ 60) {s : List UInt8} {b : Nat} (hb : tyb s = some b) (hs : s.length ≤ 1000) (hp : s ≠ pS) {v : Nat} (hv : v < 18446744073709551616) (x y : Int) (hf : bitop .andNot .u64 (v : Int) (mk b) = 0) :
  ((L14 (((), 2, 16, 16, false, ()), ((), u, ()), m, ())).bind fun z =>
   (L14 (((), 1, 16, 16, false, ()), ((), z.2.1.2.1, ()), z.2.2.1, ())).bind fun z_1 =>
    (L14 (((), 0, 16, 16, false, ()), ((), z_1.2.1.2.1, ()), z_1.2.2.1, ())).bind fun z_2 =>
     (L15 (s, ())).bind fun y_1 =>
      if (!z.1.2.2.1 == 0) = true then some ((false, ()), ())
      else
       if (!z_1.1.2.2.1 == 0) = true then some ((false, ()), ())
       else
        if (!z_2.1.2.2.1 == 0) = true then some ((false, ()), ())
        else
         if (y_1.1.1 == 0) = true then (K9 ()).bind fun y => some ((y.1.1, ()), ())
         else
          (L16 ((z_2.2.2.1, z_2.2.1.2.1, ()), s, (z_2.1.2.1.1, z_2.1.2.1.2), ())).bind fun y_2 =>
           (L18 ((1, (v : Int), x, y), ())).bind fun y_3 =>
            (L17 (((), s, (z.1.2.1.1, z.1.2.1.2), (y_3.1.1.1, y_3.1.1.2.1, y_3.1.1.2.2.1, y_3.1.1.2.2.2), ()), ((), z_2.2.1.2.1, ()), z_2.2.2.1, ())).bind fun z_3 =>
             (L16 ((z_3.2.2.1, z_3.2.1.2.1, ()), s, (z.1.2.1.1, z.1.2.1.2), ())).bind fun y_4 =>
              (L19 (((), (z_1.1.2.1.1, z_1.1.2.1.2), (z.1.2.1.1, z.1.2.1.2), 16, ()), ((), z_3.2.1.2.1, ()), z_3.2.2.1, ())).bind fun z_4 =>
               (L20 (((), (z.1.2.1.1, z.1.2.1.2), y_1.1.1, ()), ((), z_4.2.1.2.1, ()), z_4.2.2.1, ())).bind fun z_5 =>
                (L16 ((z_5.2.2.1, z_5.2.1.2.1, ()), s, (z_1.1.2.1.1, z_1.1.2.1.2), ())).bind fun y_5 =>
                 (L16 ((z_5.2.2.1, z_5.2.1.2.1, ()), s, (z.1.2.1.1, z.1.2.1.2), ())).bind fun y_6 =>
                  (L16 ((z_5.2.2.1, z_5.2.1.2.1, ()), s, (z_2.1.2.1.1, z_2.1.2.1.2), ())).bind fun y_7 =>
                   (Lg6_28 (((), (), (), (), (), (), (), (([y_2.1.2.1, z_3.1.2.1, y_4.1.2.1, z_4.1.2.1, z_5.1.2.1, y_5.1.2.1, y_6.1.2.1, y_7.1.2.1] : List Int).length : Int), 0, ()), (1, (v : Int), x, y, ()), (y_2.1.1.1, y_2.1.1.2.1, y_2.1.1.2.2.1, y_2.1.1.2.2.2, ()), (y_4.1.1.1, y_4.1.1.2.1, y_4.1.1.2.2.1, y_4.1.1.2.2.2, ()), (y_5.1.1.1, y_5.1.1.2.1, y_5.1.1.2.2.1, y_5.1.1.2.2.2, ()), (y_6.1.1.1, y_6.1.1.2.1, y_6.1.1.2.2.1, y_6.1.1.2.2.2, ()), (y_7.1.1.1, y_7.1.1.2.1, y_7.1.1.2.2.1, y_7.1.1.2.2.2, ()), [y_2.1.2.1, z_3.1.2.1, y_4.1.2.1, z_4.1.2.1, z_5.1.2.1, y_5.1.2.1, y_6.1.2.1, y_7.1.2.1], ())).bind fun y =>
                    Sum.elim (fun y => some ((y.1.1, ()), ()))
                     (fun z =>
                      if (z.2.2.2.1.1 == 1) = true then
                       if (z.2.2.2.1.2.1 == z.2.1.2.1) = true then
                        if (z.2.2.2.2.1.1 == z.2.2.2.1.1 && (z.2.2.2.2.1.2.1 == z.2.2.2.1.2.1 && (z.2.2.2.2.1.2.2.1 == z.2.2.2.1.2.2.1 && (z.2.2.2.2.1.2.2.2.1 == z.2.2.2.1.2.2.2.1 && true) && true))) = true then
                         if (z.2.2.2.2.2.1.1 == 0) = true then
                          if (z.2.2.1.1 == z.2.2.2.2.2.2.1.1 && (z.2.2.1.2.1 == z.2.2.2.2.2.2.1.2.1 && (z.2.2.1.2.2.1 == z.2.2.2.2.2.2.1.2.2.1 && (z.2.2.1.2.2.2.1 == z.2.2.2.2.2.2.1.2.2.2.1 && true) && true))) = true then
                           if (z.2.2.1.1 == 0) = true then (K9 ()).bind fun y => some ((y.1.1, ()), ())
                           else some ((false, ()), ())
                          else some ((false, ()), ())
                         else some ((false, ()), ())
                        else some ((false, ()), ())
                       else some ((false, ()), ())
                      else some ((false, ()), ())) y : Option rs6.den) = some ((true, ()), ()) := by
 have hlen := hA.len
 have hlo := hA.lo
 have hhi := hA.hi
 have h64 := z2q hb
 have hlt := fit_lt hv h64 hf
 have c16 : cn 16 = 32 := by decide
 have e14 : ∀ (m' : List Bp) (u' k : Int), m'.length ≤ 70 → -10000000 ≤ u' → u' ≤ 10000000 → (k = 0 ∨ k = 1 ∨ k = 2) → L14 (((), k, 16, 16, false, ()), ((), u', ()), m', ()) = some (((), ((m'.length : Int), 0), 0, ()), ((), plU k 16 u', ()), m' ++ [newB k 16 false 16], ()) := by
  intro m' u' k q1 q2 q3 q4
  have h := L14_val (m := m') (show m'.length < 1000 by omega) (u := u') (k := k) (s := 16) (al := 16) (c := false) (by omega) (by omega)
  have he : eAdd k 16 16 = 0 := by rcases q4 with rfl | rfl | rfl <;> decide
  rw [if_pos he] at h
  exact h
 have hI1 : Inv (m ++ [newB 2 16 false 16]) := hA.inv.new (by omega) (by omega)
 have hI2 : Inv ((m ++ [newB 2 16 false 16]) ++ [newB 1 16 false 16]) := hI1.new (by simp; omega) (by omega)
 have hI3 : Inv (((m ++ [newB 2 16 false 16]) ++ [newB 1 16 false 16]) ++ [newB 0 16 false 16]) := hI2.new (by simp; omega) (by omega)
 have hl1 : (m ++ [newB 2 16 false 16]).length = m.length + 1 := by simp
 have hl2 : ((m ++ [newB 2 16 false 16]) ++ [newB 1 16 false 16]).length = m.length + 2 := by simp
 have hl3 : (((m ++ [newB 2 16 false 16]) ++ [newB 1 16 false 16]) ++ [newB 0 16 false 16]).length = m.length + 3 := by simp
 have ga : Gd (((m ++ [newB 2 16 false 16]) ++ [newB 1 16 false 16]) ++ [newB 0 16 false 16]) m.length (List.replicate 16 zC) := (Gd.snoc.keep _).keep _
 have gb : Gd (((m ++ [newB 2 16 false 16]) ++ [newB 1 16 false 16]) ++ [newB 0 16 false 16]) (m.length + 1) (List.replicate 16 zC) := by
  have := (Gd.snoc (m := m ++ [newB 2 16 false 16]) (t := 1)).keep (newB 0 16 false 16)
  rwa [hl1] at this
 have gc : Gd (((m ++ [newB 2 16 false 16]) ++ [newB 1 16 false 16]) ++ [newB 0 16 false 16]) (m.length + 2) (List.replicate 16 zC) := by
  have := Gd.snoc (m := (m ++ [newB 2 16 false 16]) ++ [newB 1 16 false 16]) (t := 0)
  rwa [hl2] at this
 have p2 : plU 2 16 u = u := rfl
 have p1 : plU 1 16 u = u := rfl
 rw [e14 m u 2 (by omega) (by omega) (by omega) (.inr (.inr rfl))]
 simp only [Option.bind_some]
 rw [p2, e14 _ u 1 (by omega) (by omega) (by omega) (.inr (.inl rfl))]
 simp only [Option.bind_some]
 rw [p1, e14 _ u 0 (by omega) (by omega) (by omega) (.inl rfl)]
 simp only [Option.bind_some]
 rw [hl1, hl2, z5F, hb]
 simp only [Option.bind_some]
 generalize ((m ++ [newB 2 16 false 16]) ++ [newB 1 16 false 16]) ++ [newB 0 16 false 16] = M at hI3 hl3 ga gb gc ⊢
 generalize plU 0 16 u = U
 have hM : M.length ≤ 1000 := by omega
 have ez : szA (some b) = ((((b + 7) / 8 : Nat) : Int), 0, ()) := rfl
 rw [ez]
 simp only
 rw [if_neg (by decide), if_neg (by decide), if_neg (by decide)]
 by_cases h0 : (b + 7) / 8 = 0
 ·rw [if_pos (by rw [h0]; decide), show K9 () = _ from K9_val]
  rfl
 ·have h0' : 0 < (b + 7) / 8 := by omega
  rw [if_neg (show ¬ ((((b + 7) / 8 : Nat) : Int) == 0) = true by rw [beq_iff_eq]; omega)]
  have er : ∀ n : Nat, n ≤ 16 → (List.replicate 16 zC).take n = List.replicate n zC := fun n hn => by rw [List.take_replicate, Nat.min_eq_left hn]
  have undef : gaW s b (List.replicate ((b + 7) / 8) zC) = (0, 0, -1, 0) := gaW_undef hp h0'
  have l1 : L16 ((M, U, ()), s, (((m.length + 2 : Nat) : Int), 0), ()) = some (((0, 0, -1, 0), -1, ()), ()) := by
   rw [z5E hI3 U hs, ld_gd gc hM hb h0', er _ (by omega), undef]
  rw [l1]
  simp only [Option.bind_some]
  rw [L18_val (1, (v : Int), x, y)]
  simp only [Option.bind_some]
  have hscl : (scL M.length s b (1, (v : Int), x, y)).length = (b + 7) / 8 := z2l _ _ _ _
  have hI4 : Inv (Wg M m.length 0 (scL M.length s b (1, (v : Int), x, y))) := by
   have := stM_stp (u := U) (hp := False) hI3 s ((m.length : Int), 0) (1, (v : Int), x, y)
   rw [st_gd ga hM hb] at this
   exact this.inv
  have l2 : L17 (((), s, ((m.length : Int), 0), (1, (v : Int), x, y), ()), ((), U, ()), M, ()) = some (((), -1, ()), ((), U, ()), Wg M m.length 0 (scL M.length s b (1, (v : Int), x, y)), ()) := by
   rw [L17_val hI3 U hs, st_gd ga hM hb]
  rw [l2]
  simp only [Option.bind_some]
  have back : gaW s b (scL M.length s b (1, (v : Int), x, y)) = (1, (v : Int), -1, 0) := numW_back h64 hlt hp x y hf
  generalize scL M.length s b (1, (v : Int), x, y) = W at *
  have ga4 := ga.put (xs := W) (by omega)
  have gb4 := gb.other (j := m.length) (by omega) 0 W
  have gc4 := gc.other (j := m.length) (by omega) 0 W
  have hM4 : (Wg M m.length 0 W).length ≤ 1000 := by rw [z2d]; exact hM
  have tk : (W ++ (List.replicate 16 zC).drop W.length).take ((b + 7) / 8) = W := by
   rw [← hscl, List.take_left]
  have l3 : L16 ((Wg M m.length 0 W, U, ()), s, ((m.length : Int), 0), ()) = some (((1, (v : Int), -1, 0), -1, ()), ()) := by
   rw [z5E hI4 U hs, ld_gd ga4 hM4 hb h0', tk, back]
  rw [l3]
  simp only [Option.bind_some]
  generalize hWW : W ++ (List.replicate 16 zC).drop W.length = WW at ga4 tk
  have hI5 : Inv (Wg (Wg M m.length 0 W) (m.length + 1) 0 WW) := by
   have := cpM_stp (u := U) (hp := False) hI4 (((m.length + 1 : Nat) : Int), 0) ((m.length : Int), 0) 16
   rw [cp_gd ga4 gb4 hM4] at this
   exact this.inv
  have l4 : L19 (((), (((m.length + 1 : Nat) : Int), 0), ((m.length : Int), 0), 16, ()), ((), U, ()), Wg M m.length 0 W, ()) = some (((), -1, ()), ((), U, ()), Wg (Wg M m.length 0 W) (m.length + 1) 0 WW, ()) := by
   rw [L19_val hI4 U, cp_gd ga4 gb4 hM4]
  rw [l4]
  simp only [Option.bind_some]
  have hWl : WW.length = 16 := ga4.2.2
  have ga5 := ga4.other (j := m.length + 1) (by omega) 0 WW
  have gb5 := gb4.put (xs := WW) (by omega)
  have gc5 := gc4.other (j := m.length + 1) (by omega) 0 WW
  have hM5 : (Wg (Wg M m.length 0 W) (m.length + 1) 0 WW).length ≤ 1000 := by rw [z2d]; exact hM4
  generalize Wg (Wg M m.length 0 W) (m.length + 1) 0 WW = M5 at *
  have hI6 : Inv (Wg M5 m.length 0 (List.replicate ((b + 7) / 8) zC)) := by
   have := erM_stp (u := U) (hp := False) hI5 ((m.length : Int), 0) (((b + 7) / 8 : Nat) : Int)
   rw [er_gd ga5 hM5 (by omega)] at this
   exact this.inv
  have l5 : L20 (((), ((m.length : Int), 0), (((b + 7) / 8 : Nat) : Int), ()), ((), U, ()), M5, ()) = some (((), -1, ()), ((), U, ()), Wg M5 m.length 0 (List.replicate ((b + 7) / 8) zC), ()) := by
   rw [L20_val hI5 U, er_gd ga5 hM5 (by omega)]
  rw [l5]
  simp only [Option.bind_some]
  have ga6 := ga5.put (xs := List.replicate ((b + 7) / 8) zC) (by rw [List.length_replicate]; omega)
  have gb6 := gb5.other (j := m.length) (by omega) 0 (List.replicate ((b + 7) / 8) zC)
  have gc6 := gc5.other (j := m.length) (by omega) 0 (List.replicate ((b + 7) / 8) zC)
  have hM6 : (Wg M5 m.length 0 (List.replicate ((b + 7) / 8) zC)).length ≤ 1000 := by rw [z2d]; exact hM5
  have tb : (WW ++ (List.replicate 16 zC).drop WW.length).take ((b + 7) / 8) = W := by
   rw [List.take_append_of_le_length (by omega), tk]
  have ta : (List.replicate ((b + 7) / 8) zC ++ WW.drop (List.replicate ((b + 7) / 8) zC).length).take ((b + 7) / 8) = List.replicate ((b + 7) / 8) zC := by
   rw [List.take_append_of_le_length (by rw [List.length_replicate]; omega), List.take_of_length_le (by rw [List.length_replicate]; omega)]
  have l6 : L16 ((Wg M5 m.length 0 (List.replicate ((b + 7) / 8) zC), U, ()), s, (((m.length + 1 : Nat) : Int), 0), ()) = some (((1, (v : Int), -1, 0), -1, ()), ()) := by
   rw [z5E hI6 U hs, ld_gd gb6 hM6 hb h0', tb, back]
  have l7 : L16 ((Wg M5 m.length 0 (List.replicate ((b + 7) / 8) zC), U, ()), s, ((m.length : Int), 0), ()) = some (((0, 0, -1, 0), -1, ()), ()) := by
   rw [z5E hI6 U hs, ld_gd ga6 hM6 hb h0', ta, undef]
  have l8 : L16 ((Wg M5 m.length 0 (List.replicate ((b + 7) / 8) zC), U, ()), s, (((m.length + 2 : Nat) : Int), 0), ()) = some (((0, 0, -1, 0), -1, ()), ()) := by
   rw [z5E hI6 U hs, ld_gd gc6 hM6 hb h0', er _ (by omega), undef]
  rw [l6]
  simp only [Option.bind_some]
  rw [l7]
  simp only [Option.bind_some]
  rw [l8]
  simp only [Option.bind_some]
  have l9 := Lg6_28_val (1, (v : Int), x, y) (0, 0, -1, 0) (1, (v : Int), -1, 0) (1, (v : Int), -1, 0) (0, 0, -1, 0) (0, 0, -1, 0)
  rw [show (([-1, -1, -1, -1, -1, -1, -1, -1] : List Int).length : Int) = 8 from rfl]
  rw [l9]
  simp only [Option.bind_some, Sum.elim_inr]
  rw [if_pos (by decide), if_pos (by simp), if_pos (by simp), if_pos (by decide), if_pos (by decide), if_pos (by decide), show K9 () = _ from K9_val]
  rfl
theorem law6_true {l : List Ac} {s : List UInt8} {w : Wd} (h0 : ∀ a ∈ l, 0 ≤ a.2.2.2.2.2.2.2.1) (hw0 : 0 ≤ w.2.1) (hw1 : w.2.1 < 18446744073709551616) : law6 (l, s, w, ()) = some ((true, ()), ()) := by
 refine (F6_eq L8 K9 L11 L12 L14 L15 L16 L17 L18 L19 L20 Lg6_5 Lg6_28 l s w.1 w.2.1 w.2.2.1 w.2.2.2).trans ?_
 obtain ⟨b, h1, h2⟩ := L8_val l
 rw [h1, show K9 () = _ from K9_val]
 simp only [Option.bind_some]
 cases b with
 | false => rfl
 | true =>
  obtain ⟨h3, h4⟩ := h2 rfl
  rw [if_neg (by decide)]
  by_cases hs : (s.length : Int) > 100
  ·rw [if_pos (decide_eq_true hs)]
  ·rw [if_neg (by rw [decide_eq_true_eq]; exact hs), show L11 (s, (w.1, w.2.1, w.2.2.1, w.2.2.2), ()) = _ from L11_val s w]
   simp only [Option.bind_some]
   cases hv : val s w with
   | false => rfl
   | true =>
    rw [if_neg (by decide), show L12 () = _ from F12_eq]
    simp only [Option.bind_some]
    obtain ⟨m, u, g1, g2⟩ := Lg6_5_val h3 h4 (fun i hi => h0 _ (by rw [z1s dAc hi]; exact List.getElem_mem hi)) s w
    rw [g1]
    simp only [Option.bind_some]
    unfold val at hv
    cases hb : tyb s with
    | none => rw [hb] at hv; cases hv
    | some b =>
     rw [hb] at hv
     dsimp only at hv
     rw [Bool.and_eq_true, Bool.and_eq_true, decide_eq_true_eq, decide_eq_true_eq, decide_eq_true_eq] at hv
     obtain ⟨k1, k2, k3⟩ := hv
     obtain ⟨wk, wv, wx, wy⟩ := w
     have k2 : wk = 1 := k2
     subst k2
     obtain ⟨v, rfl⟩ : ∃ v : Nat, wv = (v : Int) := ⟨wv.toNat, (Int.toNat_of_nonneg hw0).symm⟩
     have hw1 : (v : Int) < 18446744073709551616 := hw1
     have := law6_core g2 h3 hb (by omega) k1 (v := v) (by omega) wx wy k3
     rw [show K9 () = _ from K9_val] at this
     exact this
theorem law6_ok : z0a Tryz.prog 6 (mkCall ps6 rs6 law6) := call6 okL11 okL12 okL13 okL14 okL15 okL16 okL17 okL18 okL19 okL20 okL8 okK9 (z0T _) (z0T _)
end Go.Proofs.Rf
namespace Go.Proofs.Rf
open Go Go.RowKit
theorem keeps_fit {x : SV.denL ps6} (h : fitDL ps6 x) : law6 x = some ((true, ()), ()) :=
 law6_true (fun a ha => u64_lo ((h.1.2 a ha).2.2.2.2.2.2.2.1)) (u64_lo h.2.2.1.2.1) (u64_hi h.2.2.1.2.1)
end Go.Proofs.Rf
namespace Go.Proofs.Rf
open Go Go.ChangeShapes Go.WideShapes Go.ChangeAt Go.RowKit
abbrev z8c : List (String × DataW Unit) := Go.Proofs.YtdecfjlhidgceaaGreatDoor.Rows.memoryBlocksRow.laid
theorem var_block {W : World} {name : String} {g : Nat} {us : List Value} (hg : Tryz.prog.globalNamed name = some g) (hv : W.var? Tryz.prog name = some us.toArray) : ∃ e fz, W.heap[g]? = some (.cells us.toArray e fz) := by
 unfold World.var? at hv
 rw [hg] at hv
 simp only [Option.bind_some] at hv
 split at hv
 ·rename_i cs' e' fz hh
  injection hv with hv
  subst hv
  exact ⟨e', fz, hh⟩
 ·cases hv
theorem err_var {W : World} (h : laidMetH Tryz.prog z8c W) : ∃ u v, W.var? Tryz.prog "strconv.ErrRange" = some #[.iface u v] := by
 have h1 := (laidMetH_iff.1 h).1
 obtain ⟨g, t, cs, fuel, p, hg, ht, hv, hd⟩ := Go.Lib.laidMet.reads h1 (n := "strconv.ErrRange") (d := _) (List.mem_filter.2 ⟨List.mem_cons_of_mem _ (List.mem_cons_of_mem _ (List.mem_cons_of_mem _ (List.mem_cons_self ..))), rfl⟩)
 obtain rfl := Option.some.inj ((show Tryz.prog.globalNamed "strconv.ErrRange" = some 1 by kernel_rfl).symm.trans hg)
 obtain rfl := Option.some.inj ((show (Tryz.prog.globals[1]?).map (·.type) = some 166 by kernel_rfl).symm.trans ht)
 obtain ⟨_, u, v, hcs, _⟩ := iface_of_trod Tryz.underlying166 hd
 refine ⟨u, v, ?_⟩
 rw [hv]
 congr 1
 apply Array.ext'
 simpa using hcs
theorem gl12 {W : World} (h : laidMetH Tryz.prog z8c W) : GlOK W (fun b => b < W.heap.size) := by
 obtain ⟨u, v, hv⟩ := err_var h
 obtain ⟨e0, fz0, h0⟩ := var_block (g := 1) (us := [.iface u v]) (by kernel_rfl) hv
 refine ⟨fun g us hgl => (by cases hgl), fun g hg => ?_⟩
 unfold globI at hg
 split at hg
 ·exact ⟨(Array.getElem?_eq_some_iff.1 h0).1, _, e0, fz0, .inr ⟨u, v, rfl⟩, h0⟩
 ·cases hg
end Go.Proofs.Rf
