/- Texts put together: M5, M6, M7, M8, M9, M10, M11, K12, Z12, M12, Gg, Gh, M13, Gx12. -/
import Derived.Test.YtdecfjlhidgceaaGreatDoorAd5
import Derived.Below
import Derived.WalkKit
import Derived.ProofKit
import Derived.OpenShut
import Derived.ChangeOld
import Derived.ChangeArms
import Derived.Carry
import Derived.Test.YtdecfjlhidgceaaGreatDoorRows
import Derived.LaidMore
import Derived.LaidSub
import Derived.LaidLaws
import Derived.Lib.LaidU8
import Derived.Stop.Joined
namespace Go.Proofs.Rf
open Go Go.RowKit
theorem z1h {A : Type} (x : Option A) : (x.bind fun z => some z) = x := by cases x <;> rfl
def eAdd (k s al : Int) : Int := if k < 0 ∨ 3 ≤ k then 11 else if s < 0 ∨ 65536 < s ∨ ial al = false then 3 else 0
theorem L14_val {m : List Bp} (hl : m.length < 1000) {u k s al : Int} {c : Bool} (hu0 : -1000000000 ≤ u) (hu1 : u ≤ 1000000000) :
  L14 (((), k, s, al, c, ()), ((), u, ()), m, ()) = some (if eAdd k s al = 0 then (((), ((m.length : Int), 0), 0, ()), ((), plU k s u, ()), m ++ [newB k al c s], ()) else (((), (-1, 0), eAdd k s al, ()), ((), u, ()), m, ())) := by
 have h48 : ∀ a b : Int, L48 ([a, b], ()) = some ((fstZ 0 [a, b], ()), ()) := fun a b => L48_val _ (by simp)
 have h49 : ∀ b e, L49 (b, e, ()) = _ := fun b e => z7T b e
 have h50 : L50 (al, ()) = _ := L50_val al
 have h51 : L51 () = _ := z1L
 have h52 : 0 ≤ s → s ≤ 65536 → L52 (((), (k, al, c), s, ()), ((), u, ()), m, ()) = _ := fun q1 q2 => L52_val hl q1 q2 hu0 hu1
 refine (F14_eq L48 L49 L50 L51 L52 k s al c u m).trans ?_
 rw [z1h]
 unfold eAdd
 by_cases k1 : k < 0
 ·rw [if_pos (decide_eq_true k1), h49]
  simp only [Option.bind_some, if_true]
  rw [if_pos (show k < 0 ∨ 3 ≤ k from .inl k1)]
  have hh : ∀ e : Int, L48 ([11, e], ()) = some ((11, ()), ()) := fun e => h48 11 e
  split
  ·rw [h49]; simp only [Option.bind_some, if_true]; rw [hh]; simp only [Option.bind_some]; rw [h51]; rfl
  ·split
   ·rw [h49]; simp only [Option.bind_some, if_true]; rw [hh]; simp only [Option.bind_some]; rw [h51]; rfl
   ·rw [h50]; simp only [Option.bind_some]; rw [h49]; simp only [Option.bind_some]; rw [hh]; simp only [Option.bind_some]; rw [h51]; rfl
 ·rw [if_neg (by rw [decide_eq_true_eq]; exact k1), h49]
  simp only [Option.bind_some]
  by_cases k2 : 3 ≤ k
  ·rw [if_pos (show decide (k ≥ 3) = true from decide_eq_true k2), if_pos (show k < 0 ∨ 3 ≤ k from .inr k2)]
   have hh : ∀ e : Int, L48 ([11, e], ()) = some ((11, ()), ()) := fun e => h48 11 e
   split
   ·rw [h49]; simp only [Option.bind_some, if_true]; rw [hh]; simp only [Option.bind_some]; rw [h51]; rfl
   ·split
    ·rw [h49]; simp only [Option.bind_some, if_true]; rw [hh]; simp only [Option.bind_some]; rw [h51]; rfl
    ·rw [h50]; simp only [Option.bind_some]; rw [h49]; simp only [Option.bind_some]; rw [hh]; simp only [Option.bind_some]; rw [h51]; rfl
  ·rw [if_neg (show ¬ decide (k ≥ 3) = true by rw [decide_eq_true_eq]; exact k2), if_neg (show ¬ (k < 0 ∨ 3 ≤ k) by omega)]
   have hh : L48 ([0, 3], ()) = some ((3, ()), ()) := h48 0 3
   have hz : L48 ([0, 0], ()) = some ((0, ()), ()) := h48 0 0
   by_cases s1 : s < 0
   ·rw [if_pos (decide_eq_true s1), if_pos (show s < 0 ∨ _ from .inl s1), h49]; simp only [Option.bind_some, if_true]; rw [hh]; simp only [Option.bind_some]; rw [h51]; rfl
   ·rw [if_neg (by rw [decide_eq_true_eq]; exact s1)]
    by_cases s2 : 65536 < s
    ·rw [if_pos (decide_eq_true s2), if_pos (show s < 0 ∨ 65536 < s ∨ _ from .inr (.inl s2)), h49]; simp only [Option.bind_some, if_true]; rw [hh]; simp only [Option.bind_some]; rw [h51]; rfl
    ·rw [if_neg (show ¬ decide (s > 65536) = true by rw [decide_eq_true_eq]; exact s2), h50]
     simp only [Option.bind_some]
     rw [h49]
     simp only [Option.bind_some]
     cases ha : ial al with
     | false =>
      rw [if_pos (show s < 0 ∨ 65536 < s ∨ false = false from .inr (.inr rfl))]
      simp only [Bool.not_false, if_true]
      rw [hh]; simp only [Option.bind_some]; rw [h51]; rfl
     | true =>
      rw [if_neg (show ¬ (s < 0 ∨ 65536 < s ∨ true = false) by rintro (q | q | q); exact s1 q; exact s2 q; cases q)]
      simp only [Bool.not_true, Bool.false_eq_true, if_false]
      rw [hz]; simp only [Option.bind_some]; rw [h52 (by omega) (by omega)]; rfl
theorem L71_val {m : List Bp} (hl : m.length < 1000) {u k s al : Int} {c : Bool} (hu0 : -1000000000 ≤ u) (hu1 : u ≤ 1000000000) :
  L71 (((), k, s, al, c, ()), ((), u, ()), cv m, ()) = some (if eAdd k s al = 0 then (((), ((m.length : Int), 0), 0, ()), ((), plU k s u, ()), cv (m ++ [newB k al c s]), ()) else (((), (-1, 0), eAdd k s al, ()), ((), u, ()), cv m, ())) := by
 have h48 : ∀ a b d : Int, L100 ([a, b, d], ()) = some ((fstZ 0 [a, b, d], ()), ()) := fun a b d => L100_val _ (by simp)
 have h49 : ∀ b e, L101 (b, e, ()) = _ := fun b e => L101_val b e
 have h50 : L102 (al, ()) = _ := L102_val al
 have h51 : L103 () = _ := z3Z
 have h52 : 0 ≤ s → s ≤ 65536 → L104 (((), k, s, al, c, ()), ((), u, ()), cv m, ()) = _ := fun q1 q2 => L104_val hl q1 q2 hu0 hu1
 have hc : L101 (decide (((cv m).length : Int) ≥ 100000), 22, ()) = some ((0, ()), ()) := by
  rw [h49, if_neg (show ¬ decide (((cv m).length : Int) ≥ 100000) = true by rw [decide_eq_true_eq, z0z]; omega)]
 refine (F71_eq L100 L101 L102 L103 L104 k s al c u (cv m)).trans ?_
 rw [z1h]
 unfold eAdd
 by_cases k1 : k < 0
 ·rw [if_pos (decide_eq_true k1), h49 true 11]
  simp only [Option.bind_some, if_true]
  rw [if_pos (show k < 0 ∨ 3 ≤ k from .inl k1)]
  have hh : ∀ e d : Int, L100 ([11, e, d], ()) = some ((11, ()), ()) := fun e d => h48 11 e d
  split
  ·rw [h49 true 3, hc]; simp only [Option.bind_some, if_true]; rw [hh]; simp only [Option.bind_some]; rw [h51]; rfl
  ·split
   ·rw [h49 true 3, hc]; simp only [Option.bind_some, if_true]; rw [hh]; simp only [Option.bind_some]; rw [h51]; rfl
   ·rw [h50, hc]; simp only [Option.bind_some]; rw [h49 _ 3]; simp only [Option.bind_some]; rw [hh]; simp only [Option.bind_some]; rw [h51]; rfl
 ·rw [if_neg (by rw [decide_eq_true_eq]; exact k1), h49 _ 11]
  simp only [Option.bind_some]
  by_cases k2 : 3 ≤ k
  ·rw [if_pos (show decide (k ≥ 3) = true from decide_eq_true k2), if_pos (show k < 0 ∨ 3 ≤ k from .inr k2)]
   have hh : ∀ e d : Int, L100 ([11, e, d], ()) = some ((11, ()), ()) := fun e d => h48 11 e d
   split
   ·rw [h49 true 3, hc]; simp only [Option.bind_some, if_true]; rw [hh]; simp only [Option.bind_some]; rw [h51]; rfl
   ·split
    ·rw [h49 true 3, hc]; simp only [Option.bind_some, if_true]; rw [hh]; simp only [Option.bind_some]; rw [h51]; rfl
    ·rw [h50, hc]; simp only [Option.bind_some]; rw [h49 _ 3]; simp only [Option.bind_some]; rw [hh]; simp only [Option.bind_some]; rw [h51]; rfl
  ·rw [if_neg (show ¬ decide (k ≥ 3) = true by rw [decide_eq_true_eq]; exact k2), if_neg (show ¬ (k < 0 ∨ 3 ≤ k) by omega)]
   have hh : L100 ([0, 3, 0], ()) = some ((3, ()), ()) := h48 0 3 0
   have hz : L100 ([0, 0, 0], ()) = some ((0, ()), ()) := h48 0 0 0
   by_cases s1 : s < 0
   ·rw [if_pos (decide_eq_true s1), if_pos (show s < 0 ∨ _ from .inl s1), h49 true 3, hc]; simp only [Option.bind_some, if_true]; rw [hh]; simp only [Option.bind_some]; rw [h51]; rfl
   ·rw [if_neg (by rw [decide_eq_true_eq]; exact s1)]
    by_cases s2 : 65536 < s
    ·rw [if_pos (decide_eq_true s2), if_pos (show s < 0 ∨ 65536 < s ∨ _ from .inr (.inl s2)), h49 true 3, hc]; simp only [Option.bind_some, if_true]; rw [hh]; simp only [Option.bind_some]; rw [h51]; rfl
    ·rw [if_neg (show ¬ decide (s > 65536) = true by rw [decide_eq_true_eq]; exact s2), h50, hc]
     simp only [Option.bind_some]
     rw [h49 _ 3]
     simp only [Option.bind_some]
     cases ha : ial al with
     | false =>
      rw [if_pos (show s < 0 ∨ 65536 < s ∨ false = false from .inr (.inr rfl))]
      simp only [Bool.not_false, if_true]
      rw [hh]; simp only [Option.bind_some]; rw [h51]; rfl
     | true =>
      rw [if_neg (show ¬ (s < 0 ∨ 65536 < s ∨ true = false) by rintro (q | q | q); exact s1 q; exact s2 q; cases q)]
      simp only [Bool.not_true, Bool.false_eq_true, if_false]
      rw [hz]; simp only [Option.bind_some]; rw [h52 (by omega) (by omega)]; rfl
theorem add_ok {m : List Bp} (hI : Inv m) (hl : m.length < 1000) {u k s al : Int} {c : Bool} (hu0 : -1000000000 ≤ u) (hu1 : u ≤ 1000000000) :
  ∃ ad e m' u', L14 (((), k, s, al, c, ()), ((), u, ()), m, ()) = some (((), ad, e, ()), ((), u', ()), m', ()) ∧ L71 (((), k, s, al, c, ()), ((), u, ()), cv m, ()) = some (((), ad, e, ()), ((), u', ()), cv m', ()) ∧ Stp m u (k = 0) m' u' := by
 have e1 := L14_val hl (u := u) (k := k) (s := s) (al := al) (c := c) hu0 hu1
 have e2 := L71_val hl (u := u) (k := k) (s := s) (al := al) (c := c) hu0 hu1
 by_cases h : eAdd k s al = 0
 ·rw [if_pos h] at e1 e2
  refine ⟨_, _, _, _, e1, e2, ?_⟩
  unfold eAdd at h
  split at h
  ·cases h
  ·split at h
   ·cases h
   ·rename_i q
    exact plU_stp hI hl (by omega) (by omega) (fun q => .inl q)
 ·rw [if_neg h] at e1 e2
  exact ⟨_, _, _, _, e1, e2, .same hI⟩
theorem alloc_ok {m : List Bp} (hI : Inv m) (hl : m.length < 1000) {u s al : Int} (h0 : 0 ≤ s) (hu0 : -1000000000 ≤ u) (hu1 : u ≤ 1000000000) :
  ∃ ad e m' u', L27 (((), s, al, ()), ((), u, ()), m, ()) = some (((), ad, e, ()), ((), u', ()), m', ()) ∧ L72 (((), s, al, ()), ((), u, ()), cv m, ()) = some (((), ad, e, ()), ((), u', ()), cv m', ()) ∧ Stp m u False m' u' := by
 have e1 : L27 _ = _ := F27_eq L50 L51 L52 L68 s al u m
 have e2 : L72 _ = _ := F72_eq L102 L103 L104 L105 s al u (cv m)
 rw [z1h] at e1 e2
 have h50 : L50 (al, ()) = _ := L50_val al
 have h102 : L102 (al, ()) = _ := L102_val al
 rw [h50] at e1
 rw [h102] at e2
 simp only [Option.bind_some] at e1 e2
 have h51 : L51 () = _ := z1L
 have h103 : L103 () = _ := z3Z
 by_cases ha : ial al = true
 ·rw [ha, if_neg (by decide)] at e1 e2
  by_cases hs : s > 65536
  ·rw [if_pos (decide_eq_true hs)] at e1 e2
   rw [h51] at e1
   rw [h103] at e2
   exact ⟨_, _, _, _, e1, e2, .same hI⟩
  ·have hs' : s ≤ 65536 := by omega
   have q1 := cn_lo h0
   have q2 := cn_hi hs'
   rw [if_neg (by rw [decide_eq_true_eq]; exact hs), wi (n := s) (by omega) (by omega)] at e1 e2
   have h68 : L68 (s, ()) = _ := L68_val h0 hs'
   have h105 : L105 (s, ()) = _ := L105_val h0 hs'
   rw [h68] at e1
   rw [h105] at e2
   simp only [Option.bind_some] at e1 e2
   rw [wi (n := u + cn s) (by omega) (by omega)] at e1 e2
   by_cases hc : u + cn s > 65536
   ·rw [if_pos (decide_eq_true hc)] at e1 e2
    rw [h51] at e1
    rw [h103] at e2
    exact ⟨_, _, _, _, e1, e2, .same hI⟩
   ·rw [if_neg (by rw [decide_eq_true_eq]; exact hc)] at e1 e2
    rw [if_neg (show ¬ decide (((cv m).length : Int) ≥ 100000) = true by rw [decide_eq_true_eq, z0z]; omega)] at e2
    have h52 : L52 (((), (0, al, false), s, ()), ((), u, ()), m, ()) = _ := L52_val hl h0 hs' hu0 hu1
    have h104 : L104 (((), 0, s, al, false, ()), ((), u, ()), cv m, ()) = _ := L104_val hl h0 hs' hu0 hu1
    rw [h52] at e1
    rw [h104] at e2
    exact ⟨_, _, _, _, e1, e2, plU_stp hI hl h0 hs' (fun _ => .inr (by omega))⟩
 ·have ha : ial al = false := by simpa using ha
  rw [ha, if_pos (by decide)] at e1 e2
  rw [h51] at e1
  rw [h103] at e2
  exact ⟨_, _, _, _, e1, e2, .same hI⟩
def endB (b : Bp) : Bp := ((b.1.1, b.1.2.1, b.1.2.2.1, true), b.2)
def endM (m : List Bp) (n : Int) : List Bp := m.set n.toNat (endB (m.getD n.toNat dB))
def endU (m : List Bp) (n u : Int) : Int := if (m.getD n.toNat dB).1.1 = 0 then u - cn ((m.getD n.toNat dB).2.length) else u
theorem z6r {A : Type} (l : List A) (k j : Nat) (x d : A) (h : k < l.length) : (l.set k x).getD j d = if j = k then x else l.getD j d := by
 rw [List.getD_eq_getElem?_getD, List.getD_eq_getElem?_getD, List.getElem?_set]
 by_cases hj : j = k
 ·subst hj
  simp [h]
 ·rw [if_neg hj, if_neg (fun q => hj q.symm)]
theorem cv_set (m : List Bp) (k : Nat) (b : Bp) : cv (m.set k b) = (cv m).set k (cvB b) := by
 unfold cv
 rw [List.map_set]
theorem Inv.set {m : List Bp} (h : Inv m) (k : Nat) {b : Bp} (hb : b.2.length ≤ 65536 ∧ ∀ c ∈ b.2, wfC c) : Inv (m.set k b) := by
 refine ⟨by rw [List.length_set]; exact h.len, fun x hx => ?_⟩
 rcases List.mem_or_eq_of_mem_set hx with hx | hx
 ·exact h.bl x hx
 ·subst hx
  exact hb
theorem end_stp {m : List Bp} (hI : Inv m) {u : Int} {hp : Prop} (n : Int) : Stp m u hp (endM m n) (endU m n u) := by
 have hb := hI.at n.toNat
 have q1 := cn_lo (s := ((m.getD n.toNat dB).2.length : Int)) (by omega)
 have q2 := cn_hi (s := ((m.getD n.toNat dB).2.length : Int)) (by omega)
 refine ⟨hI.set _ hb, by unfold endM; rw [List.length_set]; omega, ?_, ?_, fun _ hu => ?_⟩
 all_goals (unfold endU; split <;> omega)
theorem L67_val {m : List Bp} (hI : Inv m) {u n : Int} (h0 : 0 ≤ n) (h1 : n < m.length) (hu0 : -1000000000 ≤ u) (hu1 : u ≤ 1000000000) :
  L67 (((), n, ()), ((), u, ()), m, ()) = some (((), ()), ((), endU m n u, ()), endM m n, ()) := by
 refine (F67_eq L68 n u m).trans ?_
 have hb := (hI.at n.toNat).1
 have q1 := cn_lo (s := ((m.getD n.toNat dB).2.length : Int)) (by omega)
 have q2 := cn_hi (s := ((m.getD n.toNat dB).2.length : Int)) (by omega)
 rw [z1h, if_pos h0, if_pos h1]
 have hg : (m.set n.toNat (endB (m.getD n.toNat dB))).getD n.toNat dB = endB (m.getD n.toNat dB) := by
  rw [z6r _ _ _ _ _ (by omega), if_pos rfl]
 have e1 : ((m.set n.toNat (endB (m.getD n.toNat dB))).getD n.toNat dB).1.1 = (m.getD n.toNat dB).1.1 := by rw [hg]; rfl
 have e2 : ((m.set n.toNat (endB (m.getD n.toNat dB))).getD n.toNat dB).2.length = (m.getD n.toNat dB).2.length := by rw [hg]; rfl
 show (if (((m.set n.toNat (endB (m.getD n.toNat dB))).getD n.toNat dB).1.1 == 0) = true then (L68 ((((m.set n.toNat (endB (m.getD n.toNat dB))).getD n.toNat dB).2.length : Int), ())).bind _ else some (((), ()), ((), u, ()), endM m n, ())) = _
 rw [e1, e2]
 unfold endU
 by_cases hk : (m.getD n.toNat dB).1.1 = 0
 ·rw [if_pos (by rw [beq_iff_eq]; exact hk), if_pos hk, L68_val (by omega) (by omega)]
  simp only [Option.bind_some]
  rw [wi (by omega) (by omega)]
  rfl
 ·rw [if_neg (by rw [beq_iff_eq]; exact hk), if_neg hk]
theorem L107_val {m : List Bp} (hI : Inv m) {u n : Int} (h0 : 0 ≤ n) (h1 : n < m.length) (hu0 : -1000000000 ≤ u) (hu1 : u ≤ 1000000000) :
  L107 (((), n, ()), ((), u, ()), cv m, ()) = some (((), ()), ((), endU m n u, ()), cv (endM m n), ()) := by
 refine (F107_eq L105 n u (cv m)).trans ?_
 have hb := (hI.at n.toNat).1
 have q1 := cn_lo (s := ((m.getD n.toNat dB).2.length : Int)) (by omega)
 have q2 := cn_hi (s := ((m.getD n.toNat dB).2.length : Int)) (by omega)
 have hc := z2e (m := m) (k := n.toNat) (by omega)
 rw [z1h, if_pos h0, z0z, if_pos h1]
 have hg : ((cv m).set n.toNat (cvB (endB (m.getD n.toNat dB)))).getD n.toNat dK = cvB (endB (m.getD n.toNat dB)) := by
  rw [z6r _ _ _ _ _ (by rw [z0z]; omega), if_pos rfl]
 rw [hc]
 have e1 : (((cv m).set n.toNat (cvB (endB (m.getD n.toNat dB)))).getD n.toNat dK).1.1 = (m.getD n.toNat dB).1.1 := by rw [hg]; rfl
 have e2 : (((cv m).set n.toNat (cvB (endB (m.getD n.toNat dB)))).getD n.toNat dK).2.length = (m.getD n.toNat dB).2.length := by rw [hg]; simp [cvB, endB]
 have e3 : cv (endM m n) = (cv m).set n.toNat (cvB (endB (m.getD n.toNat dB))) := cv_set _ _ _
 rw [e3]
 show (if ((((cv m).set n.toNat (cvB (endB (m.getD n.toNat dB)))).getD n.toNat dK).1.1 == 0) = true then (L105 (((((cv m).set n.toNat (cvB (endB (m.getD n.toNat dB)))).getD n.toNat dK).2.length : Int), ())).bind _ else some (((), ()), ((), u, ()), (cv m).set n.toNat (cvB (endB (m.getD n.toNat dB))), ())) = _
 rw [e1, e2]
 unfold endU
 by_cases hk : (m.getD n.toNat dB).1.1 = 0
 ·rw [if_pos (by rw [beq_iff_eq]; exact hk), if_pos hk, L105_val (by omega) (by omega)]
  simp only [Option.bind_some]
  rw [wi (by omega) (by omega)]
  rfl
 ·rw [if_neg (by rw [beq_iff_eq]; exact hk), if_neg hk]
theorem free_ok {m : List Bp} (hI : Inv m) {u : Int} (a : Int × Int) (hu0 : -1000000000 ≤ u) (hu1 : u ≤ 1000000000) :
  ∃ e m' u', L26 (((), a, ()), ((), u, ()), m, ()) = some (((), e, ()), ((), u', ()), m', ()) ∧ L73 (((), a, ()), ((), u, ()), cv m, ()) = some (((), e, ()), ((), u', ()), cv m', ()) ∧ Stp m u False m' u' := by
 obtain ⟨x, y⟩ := a
 have e1 : L26 _ = _ := F26_eq L51 L65 L67 x y u m
 have e2 : L73 _ = _ := F73_eq L106 L107 x y u (cv m)
 rw [z1h] at e1 e2
 have h51 : L51 () = _ := z1L
 have h65 : L65 ((m, u, ()), (x, y), ()) = _ := z5R m u (x, y)
 have h106 : L106 ((cv m, u, ()), (x, y), ()) = _ := z3Y m u (x, y)
 rw [h51] at e1
 simp only [Option.bind_some] at e1
 rw [z3n, h65] at e1
 rw [h106] at e2
 simp only [Option.bind_some] at e1 e2
 by_cases hf : fm m.length (x, y) = true
 ·rw [hf, if_neg (by decide)] at e2
  by_cases hn : isN (x, y) = true
  ·rw [if_pos hn] at e1
   have hx : x < 0 := (z7r hf).2 hn
   rw [if_pos (decide_eq_true hx)] at e2
   exact ⟨_, _, _, e1, e2, .same hI⟩
  ·rw [if_neg hn, hf, if_neg (by decide)] at e1
   obtain ⟨p1, p2, _⟩ := z6f hf (by simpa using hn)
   have p1 : 0 ≤ x := p1
   have p2 : x < (m.length : Int) := p2
   have hc := z2e (m := m) (k := x.toNat) (by omega)
   have k1 : ((cv m).getD x.toNat dK).1.1 = (m.getD x.toNat dB).1.1 := by rw [hc]; rfl
   have k2 : ((cv m).getD x.toNat dK).1.2.2.2 = !(m.getD x.toNat dB).1.2.2.2 := by rw [hc]; rfl
   rw [if_neg (by rw [decide_eq_true_eq]; omega), if_pos p1, z0z, if_pos p2, if_pos p1, if_pos p2, k1, k2, Bool.not_not] at e2
   rw [if_pos p1, if_pos p2, if_pos p1, if_pos p2] at e1
   by_cases h1 : (m.getD x.toNat dB).1.1 = 0
   ·rw [if_neg (by rw [h1]; decide)] at e1 e2
    by_cases h2 : y = 0
    ·rw [if_neg (by rw [h2]; decide)] at e1 e2
     by_cases h3 : (m.getD x.toNat dB).1.2.2.2 = true
     ·rw [if_pos h3] at e1 e2
      exact ⟨_, _, _, e1, e2, .same hI⟩
     ·rw [if_neg h3] at e1 e2
      have g1 : L67 (((), x, ()), ((), u, ()), m, ()) = _ := L67_val hI p1 p2 hu0 hu1
      have g2 : L107 (((), x, ()), ((), u, ()), cv m, ()) = _ := L107_val hI p1 p2 hu0 hu1
      rw [g1] at e1
      rw [g2] at e2
      exact ⟨_, _, _, e1, e2, end_stp hI x⟩
    ·rw [if_pos (by rw [Bool.not_eq_true', beq_eq_false_iff_ne]; exact h2)] at e1 e2
     exact ⟨_, _, _, e1, e2, .same hI⟩
   ·rw [if_pos (by rw [Bool.not_eq_true', beq_eq_false_iff_ne]; exact h1)] at e1 e2
    exact ⟨_, _, _, e1, e2, .same hI⟩
 ·have hf : fm m.length (x, y) = false := by simpa using hf
  rw [hf] at e1 e2
  rw [if_pos (show (!false) = true from rfl)] at e2
  have e1 : L26 (((), (x, y), ()), ((), u, ()), m, ()) = some (((), 18, ()), ((), u, ()), m, ()) := by
   rw [e1]
   split
   ·rfl
   ·exact if_pos rfl
  exact ⟨_, _, _, e1, e2, .same hI⟩
def z6l (m : List Bp) (n : Int) : Int := if n < 0 ∨ (m.length : Int) ≤ n then 8 else if (m.getD n.toNat dB).1.2.2.2 = true then 27 else 0
theorem L84_val (m : List Bp) (u n : Int) : L84 ((m, u, ()), n, ()) = some ((z6l m n, ()), ()) := by
 refine (F84_eq L49 m u n).trans ?_
 unfold z6l
 by_cases h0 : n < 0
 ·rw [if_pos (decide_eq_true h0), if_pos (.inl h0)]
 ·rw [if_neg (by rw [decide_eq_true_eq]; exact h0)]
  by_cases h1 : (m.length : Int) ≤ n
  ·rw [if_pos (decide_eq_true h1), if_pos (.inr h1)]
  ·rw [if_neg (by rw [decide_eq_true_eq]; exact h1), if_neg (show ¬ (n < 0 ∨ (m.length : Int) ≤ n) by omega), if_pos (by omega), if_pos (by omega), z7T]
   rfl
theorem L108_val (m : List Bp) (u n : Int) : L108 ((cv m, u, ()), n, ()) = some ((z6l m n, ()), ()) := by
 refine (F108_eq L101 (cv m) u n).trans ?_
 unfold z6l
 rw [z0z]
 by_cases h0 : n < 0
 ·rw [if_pos (decide_eq_true h0), if_pos (.inl h0)]
 ·rw [if_neg (by rw [decide_eq_true_eq]; exact h0)]
  by_cases h1 : (m.length : Int) ≤ n
  ·rw [if_pos (decide_eq_true h1), if_pos (.inr h1)]
  ·have hc := z2e (m := m) (k := n.toNat) (by omega)
   have k2 : ((cv m).getD n.toNat dK).1.2.2.2 = !(m.getD n.toNat dB).1.2.2.2 := by rw [hc]; rfl
   rw [if_neg (by rw [decide_eq_true_eq]; exact h1), if_neg (show ¬ (n < 0 ∨ (m.length : Int) ≤ n) by omega), if_pos (by omega), if_pos (by omega), k2, Bool.not_not, L101_val]
   rfl
theorem z7x {m : List Bp} {n : Int} (h : z6l m n = 0) : 0 ≤ n ∧ n < m.length := by
 unfold z6l at h
 split at h
 ·cases h
 ·omega
theorem drop_ok {m : List Bp} (hI : Inv m) {u : Int} (n : Int) (hu0 : -1000000000 ≤ u) (hu1 : u ≤ 1000000000) :
  ∃ e m' u', L40 (((), n, ()), ((), u, ()), m, ()) = some (((), e, ()), ((), u', ()), m', ()) ∧ L74 (((), n, ()), ((), u, ()), cv m, ()) = some (((), e, ()), ((), u', ()), cv m', ()) ∧ Stp m u False m' u' := by
 have e1 : L40 _ = _ := F40_eq L67 L84 n u m
 have e2 : L74 _ = _ := F74_eq L107 L108 n u (cv m)
 rw [z1h] at e1 e2
 have h84 : L84 ((m, u, ()), n, ()) = _ := L84_val m u n
 have h108 : L108 ((cv m, u, ()), n, ()) = _ := L108_val m u n
 rw [h84] at e1
 rw [h108] at e2
 simp only [Option.bind_some] at e1 e2
 by_cases h : z6l m n = 0
 ·obtain ⟨p1, p2⟩ := z7x h
  rw [if_neg (by rw [h]; decide)] at e1 e2
  have g1 : L67 (((), n, ()), ((), u, ()), m, ()) = _ := L67_val hI p1 p2 hu0 hu1
  have g2 : L107 (((), n, ()), ((), u, ()), cv m, ()) = _ := L107_val hI p1 p2 hu0 hu1
  rw [g1] at e1
  rw [g2] at e2
  exact ⟨_, _, _, e1, e2, end_stp hI n⟩
 ·rw [if_pos (by rw [Bool.not_eq_true', beq_eq_false_iff_ne]; exact h)] at e1 e2
  exact ⟨_, _, _, e1, e2, .same hI⟩
end Go.Proofs.Rf
namespace Go.Proofs.Rf
open Go Go.RowKit
abbrev Wd := Int × Int × Int × Int
abbrev pS : List UInt8 := [112, 116, 114]
def nb (bits : Int) (k : Nat) : Int := IntKind.u8.wrap (bits.fdiv (2 ^ min (8 * k) 64))
def fit (n : Nat) (s : List UInt8) (b : Nat) (w : Wd) : Bool :=
 if w.1 = 2 then decide (s = pS) && fm n w.2.2 else if w.1 = 1 then decide (bitop .andNot .u64 w.2.1 (mk b) = 0) && (decide (s ≠ pS) || decide (w.2.1 = 0)) else false
def scC (n : Nat) (s : List UInt8) (b : Nat) (w : Wd) (k : Nat) : Cl :=
 if fit n s b w = true then (if w.1 = 2 then (if isN w.2.2 = true then (1, 0, 0, 0) else (2, k, w.2.2.1, w.2.2.2)) else (1, nb w.2.1 k, 0, 0)) else zC
def scL (n : Nat) (s : List UInt8) (b : Nat) (w : Wd) : List Cl := (List.range ((b + 7) / 8)).map (scC n s b w)
theorem z2O (n : Nat) (s : List UInt8) (b : Nat) (w : Wd) : (scL n s b w).length = (b + 7) / 8 := by simp [scL]
theorem z5w : tyb pS = some 64 := by decide
theorem L95_val {s : List UInt8} {b : Nat} (hb : tyb s = some b) (hl : s.length ≤ 1000) (m : List Bp) (u : Int) (w : Wd) : L95 ((m, u, ()), s, w, ()) = some ((fit m.length s b w, ()), ()) := by
 obtain ⟨k, v, x, y⟩ := w
 refine (F95_eq L65 L94 m u s k v x y).trans ?_
 unfold fit
 simp only
 have hb2 : (s == pS) = decide (s = pS) := by rw [Bool.eq_iff_iff, beq_iff_eq, decide_eq_true_eq]
 by_cases h2 : k = 2
 ·rw [if_pos (by rw [beq_iff_eq]; exact h2), if_pos h2]
  by_cases hp : s = pS
  ·rw [if_pos (by rw [beq_iff_eq]; exact hp), decide_eq_true hp, Bool.true_and, z5R m u (x, y)]
   rfl
  ·rw [if_neg (by rw [beq_iff_eq]; exact hp), decide_eq_false hp, Bool.false_and]
 ·rw [if_neg (by rw [beq_iff_eq]; exact h2), if_neg h2]
  by_cases h1 : k = 1
  ·rw [if_pos (by rw [beq_iff_eq]; exact h1), if_pos h1, L94_val hb hl]
   simp only [Option.bind_some]
   by_cases hv : bitop .andNot .u64 v (mk b) = 0
   ·rw [if_pos (by rw [beq_iff_eq]; exact hv), decide_eq_true hv, Bool.true_and]
    by_cases hp : s = pS
    ·rw [if_neg (by rw [Bool.not_eq_true', beq_eq_false_iff_ne]; exact fun q => q hp), decide_eq_false (fun q => q hp), Bool.false_or]
     have e0 : (v == 0) = decide (v = 0) := by rw [Bool.eq_iff_iff, beq_iff_eq, decide_eq_true_eq]
     rw [e0]
    ·rw [if_pos (by rw [Bool.not_eq_true', beq_eq_false_iff_ne]; exact hp), decide_eq_true hp, Bool.true_or]
   ·rw [if_neg (by rw [beq_iff_eq]; exact hv), decide_eq_false hv, Bool.false_and]
  ·rw [if_neg (by rw [beq_iff_eq]; exact h1), if_neg h1]
theorem LD121_val (x y : Int) : LD121 (((), ()), (x, y, ()), ()) = some [(0, 2, 0, x, y), (1, 2, 1, x, y), (2, 2, 2, x, y), (3, 2, 3, x, y), (4, 2, 4, x, y), (5, 2, 5, x, y), (6, 2, 6, x, y), (7, 2, 7, x, y)] := by kernel_rfl
theorem Lg58_10_val (x y : Int) : Lg58_10 [(0, 2, 0, x, y), (1, 2, 1, x, y), (2, 2, 2, x, y), (3, 2, 3, x, y), (4, 2, 4, x, y), (5, 2, 5, x, y), (6, 2, 6, x, y), (7, 2, 7, x, y)] (((), ()), ((), ()), List.replicate 8 zC, ()) =
  some (.inl (((), ()), ((), ()), [(2, 0, x, y), (2, 1, x, y), (2, 2, x, y), (2, 3, x, y), (2, 4, x, y), (2, 5, x, y), (2, 6, x, y), (2, 7, x, y)], ())) := by kernel_rfl
theorem L97_val : L97 ([(1, 0, 0, 0)], 8, ()) = some (((), ()), List.replicate 8 (1, 0, 0, 0), ()) := by
 refine (F97_eq L122 Lg97_8 _ _).trans ?_
 rw [if_neg (by decide), show L122 (IntKind.u64.wrap (([(1, 0, 0, 0)] : List Cl).length : Int), IntKind.u64.wrap 8, ()) = some ((0, 8, ()), ()) by kernel_rfl]
 simp only [Option.bind_some]
 have hg : Lg97_8 (((), 1, ()), (1, 0, 0, 0) :: List.replicate 7 zC, ()) = some (((), ()), List.replicate 8 (1, 0, 0, 0), ()) := z0C 10 (by kernel_rfl)
 rw [if_neg (by decide), if_neg (by decide), if_pos (by decide), if_pos (by decide), if_pos (by decide)]
 have hg' : Lg97_8 (((), ((min ([(1, 0, 0, 0)] : List Cl).length (List.replicate (IntKind.i64.wrap 8).toNat ((0, 0, 0, 0) : Cl)).length : Nat) : Int), ()), (List.take 0 (List.replicate (IntKind.i64.wrap 8).toNat ((0, 0, 0, 0) : Cl)) ++ List.take (List.replicate (IntKind.i64.wrap 8).toNat ((0, 0, 0, 0) : Cl)).length [(1, 0, 0, 0)] ++ List.drop (0 + min ([(1, 0, 0, 0)] : List Cl).length (List.replicate (IntKind.i64.wrap 8).toNat ((0, 0, 0, 0) : Cl)).length) (List.replicate (IntKind.i64.wrap 8).toNat ((0, 0, 0, 0) : Cl))), ()) = some (((), ()), List.replicate 8 (1, 0, 0, 0), ()) := hg
 rw [hg']
 rfl
theorem z5b {A : Type} (f : Nat → A) (z : A) {n k : Nat} (h : k < n) : ((List.range k).map f ++ List.replicate (n - k) z).set k (f k) = (List.range (k + 1)).map f ++ List.replicate (n - (k + 1)) z := by
 rw [List.set_append_right _ _ (by simp), List.length_map, List.length_range, Nat.sub_self, show n - k = (n - (k + 1)) + 1 by omega, List.replicate_succ, List.set_cons_zero, List.range_succ, List.map_append, List.append_assoc]
 rfl
theorem Lg58_3_val (k v x y : Int) {n : Nat} (hn : n ≤ 8) : Lg58_3 (((), (), (n : Int), 0, ()), (k, v, x, y, ()), ((), ()), List.replicate n zC, ()) = some (((), ()), ((), ()), (List.range n).map (fun i => ((1, nb v i, 0, 0) : Cl)), ()) := by
 obtain ⟨z, h1, rfl⟩ := z0K (f := S58_3) (fun s => n - s.1.2.2.2.1.toNat)
  (fun s => ∃ i : Nat, i ≤ n ∧ s = (((), (), (n : Int), (i : Int), ()), (k, v, x, y, ()), ((), ()), (List.range i).map (fun i => ((1, nb v i, 0, 0) : Cl)) ++ List.replicate (n - i) zC, ()))
  (fun z => z = (((), ()), ((), ()), (List.range n).map (fun i => ((1, nb v i, 0, 0) : Cl)), ())) (by
  rintro s ⟨i, hi, rfl⟩
  rw [S58_3_eq]
  by_cases h : i < n
  ·have e8 : IntKind.i64.wrap (8 * (i : Int)) = ((8 * i : Nat) : Int) := by rw [wi (by omega) (by omega)]; omega
   rw [if_pos (decide_eq_true (by omega)), e8, if_neg (by omega), if_pos (by omega), if_pos (by simp; omega), Int.toNat_natCast, Int.toNat_natCast, wi (by omega) (by omega)]
   refine .inl ⟨_, rfl, ⟨i + 1, by omega, ?_⟩, ?_⟩
   ·have := z5b (fun i => ((1, nb v i, 0, 0) : Cl)) zC h
    rw [show ((i : Int) + 1) = ((i + 1 : Nat) : Int) by omega, ← this]
    rfl
   ·show n - ((i : Int) + 1).toNat < n - (i : Int).toNat
    omega
  ·have : i = n := by omega
   subst this
   rw [if_neg (by rw [decide_eq_true_eq]; omega)]
   refine .inr ⟨_, rfl, ?_⟩
   rw [Nat.sub_self, List.replicate_zero, List.append_nil]) (((), (), (n : Int), ((0 : Nat) : Int), ()), (k, v, x, y, ()), ((), ()), List.replicate n zC, ()) ⟨0, by omega, by simp⟩
 exact h1
theorem range8 {A : Type} (f : Nat → A) : (List.range 8).map f = [f 0, f 1, f 2, f 3, f 4, f 5, f 6, f 7] := rfl
theorem map_const {A : Type} (z : A) (n : Nat) : (List.range n).map (fun _ => z) = List.replicate n z := by
 induction n with
 | zero => rfl
 | succ n ih => rw [List.range_succ, List.map_append, ih, List.replicate_succ']; rfl
theorem L58_val {s : List UInt8} {b : Nat} (hb : tyb s = some b) (hl : s.length ≤ 1000) (m : List Bp) (u : Int) (w : Wd) :
  L58 ((m, u, ()), s, (((b + 7) / 8 : Nat) : Int), w, ()) = some (((), ()), scL m.length s b w, ()) := by
 obtain ⟨k, v, x, y⟩ := w
 have h64 := z3w hb
 refine (F58_eq L51 L95 L96 L97 LD121 Lg58_10 Lg58_3 m u s _ k v x y).trans ?_
 rw [if_pos (by omega), if_pos (Int.le_refl _), if_pos (by omega), L95_val hb hl m u (k, v, x, y)]
 simp only [Option.bind_some, Int.toNat_natCast]
 unfold scL
 by_cases hf : fit m.length s b (k, v, x, y) = true
 ·rw [if_neg (by rw [hf]; decide)]
  by_cases h2 : k = 2
  ·have hs : s = pS := by
    unfold fit at hf
    rw [if_pos h2] at hf
    simp only [Bool.and_eq_true, decide_eq_true_eq] at hf
    exact hf.1
   have hb8 : b = 64 := by
    rw [hs, z5w] at hb
    injection hb with hb
    exact hb.symm
   subst hb8
   rw [if_pos (by rw [beq_iff_eq]; exact h2), show L51 () = _ from z1L]
   simp only [Option.bind_some]
   rw [z3n, range8]
   unfold scC
   simp only [if_pos hf, if_pos h2]
   by_cases hn : isN (x, y) = true
   ·rw [if_neg (by rw [hn]; decide), if_pos (by rw [beq_iff_eq]; exact h2)]
    have : L97 ([(1, 0, 0, 0)], (((64 + 7) / 8 : Nat) : Int), ()) = _ := L97_val
    rw [this]
    simp only [if_pos hn]
    rfl
   ·have hn' : isN (x, y) = false := by simpa using hn
    rw [if_pos (by rw [hn']; rfl), show L96 ((x, y), ()) = _ from F96_eq x y]
    simp only [Option.bind_some]
    rw [LD121_val]
    simp only [Option.bind_some]
    have : Lg58_10 [(0, 2, 0, x, y), (1, 2, 1, x, y), (2, 2, 2, x, y), (3, 2, 3, x, y), (4, 2, 4, x, y), (5, 2, 5, x, y), (6, 2, 6, x, y), (7, 2, 7, x, y)] (((), ()), ((), ()), List.replicate ((64 + 7) / 8) ((0, 0, 0, 0) : Cl), ()) = _ := Lg58_10_val x y
    rw [this]
    simp only [if_neg hn]
    rfl
  ·rw [if_neg (by rw [beq_iff_eq]; exact h2), if_neg (by rw [beq_iff_eq]; exact h2)]
   have hg : Lg58_3 (((), (), ((List.replicate ((b + 7) / 8) ((0, 0, 0, 0) : Cl)).length : Int), 0, ()), (k, v, x, y, ()), ((), ()), List.replicate ((b + 7) / 8) ((0, 0, 0, 0) : Cl), ()) = some (((), ()), ((), ()), (List.range ((b + 7) / 8)).map (fun i => ((1, nb v i, 0, 0) : Cl)), ()) := by
    rw [List.length_replicate]
    exact Lg58_3_val k v x y (by omega)
   rw [hg]
   unfold scC
   simp only [if_pos hf, if_neg h2]
   rfl
 ·have hf' : fit m.length s b (k, v, x, y) = false := by simpa using hf
  rw [if_pos (by rw [hf']; rfl)]
  unfold scC
  simp only [if_neg hf]
  rw [map_const]
def scK (s : List UInt8) (b : Nat) (w : Wd) (i : Nat) : Kl :=
 if s = pS then (if w.1 = 2 then (if 0 ≤ w.2.2.1 then (2, 0, w.2.2, i) else (1, 0, (0, 0), 0)) else if w.1 = 1 ∧ w.2.1 = 0 then (1, 0, (0, 0), 0) else zK)
 else if w.1 = 1 ∧ bitop .andNot .u64 w.2.1 (mk b) = 0 then (1, nb w.2.1 i, (0, 0), 0) else zK
theorem set_same {A : Type} (l : List A) (k : Nat) (d : A) (h : k < l.length) : l.set k (l.getD k d) = l := by
 rw [z1S d h]
 exact List.set_getElem_self h
theorem getD_rep {A : Type} (f : Nat → A) (z : A) {n k : Nat} (_h : k < n) : ((List.range k).map f ++ List.replicate (n - k) z).getD k z = z := by
 rw [List.getD_eq_getElem?_getD, List.getElem?_append_right (by simp), List.getElem?_replicate]
 split <;> rfl
theorem S112_4_step {s : List UInt8} {b : Nat} (hb : tyb s = some b) (w : Wd) {n i : Nat} (hn : n ≤ 8) (hi : i < n) (rw1 : List Kl) (hr : rw1.length = n) (hz : rw1.getD i zK = zK) :
  S112_4 L36 L37 ((s, (), (n : Int), (), (i : Int), ()), (w.1, w.2.1, w.2.2.1, w.2.2.2, ()), rw1, ()) = some (.inl ((s, (), (n : Int), (), ((i + 1 : Nat) : Int), ()), (w.1, w.2.1, w.2.2.1, w.2.2.2, ()), rw1.set i (scK s b w i), ())) := by
 obtain ⟨k, v, x, y⟩ := w
 rw [S112_4_eq]
 have q1 : (0 : Int) ≤ (i : Int) := by omega
 have q2 : (i : Int) < (rw1.length : Int) := by omega
 have e8 : IntKind.i64.wrap (8 * (i : Int)) = ((8 * i : Nat) : Int) := by rw [wi (by omega) (by omega)]; omega
 have q8 : ¬ ((8 * i : Nat) : Int) < 0 := by omega
 have e1 : IntKind.i64.wrap ((i : Int) + 1) = ((i + 1 : Nat) : Int) := by rw [wi (by omega) (by omega)]; omega
 have hsame : rw1.set i zK = rw1 := by
  have := set_same rw1 i zK (by omega)
  rwa [hz] at this
 have h37 : L37 (s, ()) = some (((b : Int), ()), ()) := L37_val hb
 have h36 : L36 ((b : Int), ()) = some ((mk b, ()), ()) := L36_val (z3w hb)
 rw [if_pos (decide_eq_true (by omega))]
 simp only [e1, if_pos q1, if_pos q2, Int.toNat_natCast, e8, if_neg q8, h37, Option.bind_some, h36]
 unfold scK
 simp only
 by_cases hp : s = pS
 ·have hp' : (s == [112, 116, 114]) = true := by rw [beq_iff_eq]; exact hp
  simp only [if_pos hp, hp', if_true, Bool.not_true, Bool.false_eq_true, if_false]
  by_cases h2 : k = 2
  ·have h2' : (k == 2) = true := by rw [beq_iff_eq]; exact h2
   simp only [if_pos h2, h2', if_true]
   by_cases hx : 0 ≤ x
   ·rw [if_pos (decide_eq_true hx), if_pos hx]
   ·rw [if_neg (by rw [decide_eq_true_eq]; exact hx), if_neg hx]
  ·have h2' : (k == 2) = false := by rw [beq_eq_false_iff_ne]; exact h2
   simp only [if_neg h2, h2', Bool.false_eq_true, if_false]
   by_cases h1 : k = 1
   ·have h1' : (k == 1) = true := by rw [beq_iff_eq]; exact h1
    simp only [h1', if_true]
    by_cases hv : v = 0
    ·rw [if_pos (by rw [beq_iff_eq]; exact hv), if_pos ⟨h1, hv⟩]
    ·rw [if_neg (by rw [beq_iff_eq]; exact hv), if_neg fun q => hv q.2, hsame]
   ·have h1' : (k == 1) = false := by rw [beq_eq_false_iff_ne]; exact h1
    simp only [h1', Bool.false_eq_true, if_false]
    rw [if_neg fun q => h1 q.1, hsame]
 ·have hp' : (s == [112, 116, 114]) = false := by rw [beq_eq_false_iff_ne]; exact hp
  simp only [if_neg hp, hp', Bool.false_eq_true, if_false, Bool.not_false, if_true]
  by_cases h1 : k = 1
  ·have h1' : (k == 1) = true := by rw [beq_iff_eq]; exact h1
   simp only [h1', if_true]
   by_cases hv : bitop .andNot .u64 v (mk b) = 0
   ·rw [if_pos (by rw [beq_iff_eq]; exact hv), if_pos ⟨h1, hv⟩]
    rfl
   ·rw [if_neg (by rw [beq_iff_eq]; exact hv), if_neg fun q => hv q.2, hsame]
  ·have h1' : (k == 1) = false := by rw [beq_eq_false_iff_ne]; exact h1
   simp only [h1', Bool.false_eq_true, if_false]
   rw [if_neg fun q => h1 q.1, hsame]
theorem L112_val {s : List UInt8} {b : Nat} (hb : tyb s = some b) (w : Wd) : L112 (s, w, ()) = some (((), ()), (List.range ((b + 7) / 8)).map (scK s b w), ()) := by
 have h64 := z3w hb
 refine (F112_eq L15 Lg112_4 s w.1 w.2.1 w.2.2.1 w.2.2.2).trans ?_
 rw [L15_val, hb]
 generalize hn : (b + 7) / 8 = n
 have hn8 : n ≤ 8 := by omega
 have e15 : szA (some b) = ((n : Int), 0, ()) := by
  show ((((b + 7) / 8 : Nat) : Int), 0, ()) = _
  rw [hn]
 rw [e15]
 simp only [Option.bind_some, Int.toNat_natCast]
 have g0 : (0 : Int) ≤ (n : Int) := by omega
 have g1 : (n : Int) ≤ ((4294967296 : Nat) : Int) := by omega
 refine (if_pos g0).trans ((if_pos (Int.le_refl _)).trans ((if_pos g1).trans ?_))
 obtain ⟨z, h1, rfl⟩ := z0K (f := S112_4 L36 L37) (fun s => n - s.1.2.2.2.2.1.toNat)
  (fun t => ∃ i : Nat, i ≤ n ∧ t = ((s, (), (n : Int), (), (i : Int), ()), (w.1, w.2.1, w.2.2.1, w.2.2.2, ()), (List.range i).map (scK s b w) ++ List.replicate (n - i) zK, ()))
  (fun z => z = (((), ()), (List.range n).map (scK s b w), ())) (by
  rintro t ⟨i, hi, rfl⟩
  by_cases h : i < n
  ·refine .inl ⟨_, S112_4_step hb w hn8 h _ (by simp; omega) (getD_rep _ _ h), ⟨i + 1, by omega, ?_⟩, ?_⟩
   ·rw [z5b _ _ h]
   ·show n - ((i + 1 : Nat) : Int).toNat < n - (i : Int).toNat
    omega
  ·have : i = n := by omega
   subst this
   rw [S112_4_eq, if_neg (by rw [decide_eq_true_eq]; omega)]
   refine .inr ⟨_, rfl, ?_⟩
   rw [Nat.sub_self, List.replicate_zero, List.append_nil]) ((s, (), (n : Int), (), ((0 : Nat) : Int), ()), (w.1, w.2.1, w.2.2.1, w.2.2.2, ()), List.replicate n zK, ()) ⟨0, by omega, by simp⟩
 have h1 : Lg112_4 ((s, (), (n : Int), (), 0, ()), (w.1, w.2.1, w.2.2.1, w.2.2.2, ()), List.replicate n (0, 0, (0, 0), 0), ()) = _ := h1
 rw [h1]
 rfl
def refW (n : Nat) (w : Wd) : Wd := if w.1 = 2 ∧ fm n w.2.2 = false then (0, 0, 0, 0) else w
theorem bit_zero (x : Int) : bitop .andNot .u64 0 x = 0 := by
 simp [bitop]
 decide
theorem nb_zero (k : Nat) : nb 0 k = 0 := by
 unfold nb
 rw [Int.zero_fdiv]
 decide
theorem sc_cv {s : List UInt8} {b n : Nat} (w : Wd) (k : Nat) : cvC (scC n s b w k) = scK s b (refW n w) k := by
 obtain ⟨kd, v, x, y⟩ := w
 unfold scC scK fit refW
 by_cases h2 : kd = 2
 ·subst h2
  by_cases hp : s = pS
  ·cases hf : fm n (x, y) with
   | true =>
    by_cases hn : isN (x, y) = true
    ·have := (z7r hf).2 hn
     have hx : ¬ 0 ≤ x := by show ¬ 0 ≤ x; have : x < 0 := this; omega
     simp [hp, hn, hx, cvC]
    ·have := (z6f hf (by simpa using hn)).1
     have hx : 0 ≤ x := this
     simp [hp, hn, hx, cvC]
   | false => simp [hp, cvC, zC]
  ·cases fm n (x, y) <;> simp [hp, cvC, zC]
 ·by_cases h1 : kd = 1
  ·subst h1
   by_cases hp : s = pS
   ·by_cases hv : v = 0
    ·subst hv
     simp [hp, bit_zero, nb_zero, cvC]
    ·simp [hp, hv, cvC, zC]
   ·by_cases hv : bitop .andNot .u64 v (mk b) = 0 <;> simp [hp, hv, cvC, zC]
  ·simp [h2, h1, cvC, zC]
theorem sc_wf (n : Nat) (s : List UInt8) (b : Nat) (w : Wd) : ∀ c ∈ scL n s b w, wfC c := by
 intro c hc
 unfold scL at hc
 obtain ⟨k, _, rfl⟩ := List.mem_map.1 hc
 unfold scC
 split
 ·rename_i hf
  split
  ·rename_i h2
   split
   ·exact .inr (.inl ⟨rfl, rfl⟩)
   ·rename_i hn
    unfold fit at hf
    rw [if_pos h2, Bool.and_eq_true] at hf
    exact .inr (.inr ⟨rfl, (z6f hf.2 (by simpa using hn)).1⟩)
  ·exact .inr (.inl ⟨rfl, rfl⟩)
 ·exact .inl rfl
theorem scL_cv {s : List UInt8} {b n : Nat} (w : Wd) : (scL n s b w).map cvC = (List.range ((b + 7) / 8)).map (scK s b (refW n w)) := by
 unfold scL
 rw [List.map_map]
 refine List.map_congr_left fun k _ => sc_cv w k
end Go.Proofs.Rf
namespace Go.Proofs.Rf
open Go Go.RowKit
theorem z2G (c : Cl) : (cvC c).1 = c.1 := by
 unfold cvC
 split
 ·rename_i h; exact h.symm
 ·rfl
theorem cvC_num {c : Cl} (h : c.1 = 1) : cvC c = (1, c.2.1, c.2.2, 0) := by
 unfold cvC
 rw [if_neg (by omega), h]
theorem cvC_ptr {c : Cl} (h : c.1 = 2) : cvC c = (2, 0, c.2.2, c.2.1) := by
 unfold cvC
 rw [if_pos h]
theorem cv_get {l : List Cl} {k : Nat} (h : k < l.length) : (l.map cvC).getD k zK = cvC (l.getD k zC) := by
 rw [z1S zK (by simpa using h), z1S zC h]
 simp
def gF : List Cl → Nat → Int → Int
 | [], _, acc => acc
 | c :: r, i, acc => gF r (i + 1) (bitop .or .u64 acc (IntKind.u64.wrap (IntKind.u64.wrap c.2.1 * 2 ^ min (8 * i) 64)))
def all1 (l : List Cl) : Bool := l.all fun c => c.1 == 1
theorem drop_cons {l : List Cl} {i : Nat} (h : i < l.length) : l.drop i = l.getD i zC :: l.drop (i + 1) := by
 rw [List.drop_eq_getElem_cons h, z1S zC h]
def numW (b : Nat) (l : List Cl) : Wd := if all1 l = true then (1, bitop .and .u64 (gF l 0 0) (mk b), -1, 0) else (0, 0, -1, 0)
theorem L56_num {s : List UInt8} {b : Nat} (hb : tyb s = some b) (hs : s.length ≤ 1000) (hp : s ≠ pS) {l : List Cl} (hl : l.length ≤ 8) : L56 (s, l, ()) = some ((numW b l, ()), ()) := by
 refine (F56_eq L51 L93 L94 Lg56_9 s l).trans ?_
 rw [show L51 () = _ from z1L]
 simp only [Option.bind_some]
 rw [if_neg (by rw [beq_iff_eq]; exact hp)]
 unfold numW
 obtain ⟨z, h1, rfl⟩ := z0K (f := S56_9) (fun t => l.length - t.1.2.2.2.2.2.2.1.toNat)
  (fun t => ∃ (i : Nat) (acc : Int), i ≤ l.length ∧ t = ((s, (), (), acc, l, (l.length : Int), (i : Int), ()), (0, 0, 0, 0, ()), (0, 0, -1, 0, ()), ()) ∧ all1 l = all1 (l.drop i) ∧ gF l 0 0 = gF (l.drop i) i acc)
  (fun z => z = (if all1 l = true then .inr ((s, (), gF l 0 0, ()), (0, 0, 0, 0, ()), ()) else .inl (((), ()), (0, 0, -1, 0, ()), ()))) (by
  rintro t ⟨i, acc, hi, rfl, ha, hg⟩
  rw [S56_9_eq]
  by_cases h : i < l.length
  ·rw [drop_cons h] at ha hg
   rw [if_pos (decide_eq_true (by omega)), if_pos (by omega), if_pos (by omega), Int.toNat_natCast]
   unfold all1 at ha
   rw [List.all_cons] at ha
   by_cases hc : (l.getD i zC).1 = 1
   ·have hc' : ((l.getD i zC).1 == 1) = true := by rw [beq_iff_eq]; exact hc
    rw [hc', Bool.true_and] at ha
    have e8 : IntKind.i64.wrap (8 * (i : Int)) = ((8 * i : Nat) : Int) := by rw [wi (by omega) (by omega)]; omega
    rw [if_neg (by rw [hc']; decide), e8, if_neg (by omega), wi (by omega) (by omega), Int.toNat_natCast]
    refine .inl ⟨_, rfl, ⟨i + 1, _, by omega, rfl, ha, hg⟩, ?_⟩
    show l.length - ((i : Int) + 1).toNat < l.length - (i : Int).toNat
    omega
   ·have hc' : ((l.getD i zC).1 == 1) = false := by rw [beq_eq_false_iff_ne]; exact hc
    rw [hc', Bool.false_and] at ha
    have ha : all1 l = false := ha
    rw [if_pos (by rw [hc']; rfl), ha]
    exact .inr ⟨_, rfl, rfl⟩
  ·rw [if_neg (by rw [decide_eq_true_eq]; omega)]
   rw [List.drop_of_length_le (by omega)] at ha hg
   have ha : all1 l = true := ha
   have hg : gF l 0 0 = acc := hg
   rw [if_pos ha, hg]
   exact .inr ⟨_, rfl, rfl⟩) ((s, (), (), 0, l, (l.length : Int), ((0 : Nat) : Int), ()), (0, 0, 0, 0, ()), (0, 0, -1, 0, ()), ()) ⟨0, 0, by omega, rfl, by rw [List.drop_zero], by rw [List.drop_zero]⟩
 have h1 : Lg56_9 ((s, (), (), 0, l, (l.length : Int), 0, ()), (0, 0, 0, 0, ()), (0, 0, -1, 0, ()), ()) = _ := h1
 rw [h1]
 simp only [Option.bind_some]
 by_cases ha : all1 l = true
 ·simp only [if_pos ha, Sum.elim_inr]
  rw [L94_val hb hs]
  rfl
 ·simp only [if_neg ha, Sum.elim_inl]
theorem L111_num {s : List UInt8} {b : Nat} (hb : tyb s = some b) (hp : s ≠ pS) {l : List Cl} (hl : l.length ≤ 8) : L111 (s, l.map cvC, ()) = some ((numW b l, ()), ()) := by
 refine (F111_eq L36 L37 L103 Lg111_4 z6w s _).trans ?_
 rw [if_neg (by rw [beq_iff_eq]; exact hp)]
 unfold numW
 obtain ⟨z, h1, rfl⟩ := z0K (f := S111_15 L103) (fun t => l.length - t.1.2.2.2.2.1.toNat)
  (fun t => ∃ (i : Nat) (acc : Int), i ≤ l.length ∧ t = ((s, l.map cvC, (), acc, (i : Int), ()), (0, 0, 0, 0, ()), ()) ∧ all1 l = all1 (l.drop i) ∧ gF l 0 0 = gF (l.drop i) i acc)
  (fun z => z = (if all1 l = true then .inr ((s, (), gF l 0 0, ()), (0, 0, 0, 0, ()), ()) else .inl (((), ()), (0, 0, -1, 0, ()), ()))) (by
  rintro t ⟨i, acc, hi, rfl, ha, hg⟩
  rw [S111_15_eq]
  have hln : (l.map cvC).length = l.length := by simp
  by_cases h : i < l.length
  ·rw [drop_cons h] at ha hg
   have q1 : (0 : Int) ≤ (i : Int) := by omega
   have q2 : (i : Int) < ((l.map cvC).length : Int) := by omega
   rw [if_pos (decide_eq_true q2)]
   simp only [if_pos q1, if_pos q2, Int.toNat_natCast]
   rw [cv_get h, z2G]
   unfold all1 at ha
   rw [List.all_cons] at ha
   by_cases hc : (l.getD i zC).1 = 1
   ·have hc' : ((l.getD i zC).1 == 1) = true := by rw [beq_iff_eq]; exact hc
    rw [hc', Bool.true_and] at ha
    have e8 : IntKind.i64.wrap (8 * (i : Int)) = ((8 * i : Nat) : Int) := by rw [wi (by omega) (by omega)]; omega
    rw [if_neg (by rw [hc']; decide), e8, if_neg (by omega), wi (by omega) (by omega), Int.toNat_natCast, cvC_num hc]
    refine .inl ⟨_, rfl, ⟨i + 1, _, by omega, rfl, ha, hg⟩, ?_⟩
    show l.length - ((i : Int) + 1).toNat < l.length - (i : Int).toNat
    omega
   ·have hc' : ((l.getD i zC).1 == 1) = false := by rw [beq_eq_false_iff_ne]; exact hc
    rw [hc', Bool.false_and] at ha
    have ha : all1 l = false := ha
    rw [if_pos (by rw [hc']; rfl), ha, show L103 () = _ from z3Z]
    exact .inr ⟨_, rfl, rfl⟩
  ·rw [if_neg (by rw [decide_eq_true_eq]; omega)]
   rw [List.drop_of_length_le (by omega)] at ha hg
   have ha : all1 l = true := ha
   have hg : gF l 0 0 = acc := hg
   rw [if_pos ha, hg]
   exact .inr ⟨_, rfl, rfl⟩) ((s, l.map cvC, (), 0, ((0 : Nat) : Int), ()), (0, 0, 0, 0, ()), ()) ⟨0, 0, by omega, rfl, by rw [List.drop_zero], by rw [List.drop_zero]⟩
 have h1 : z6w ((s, l.map cvC, (), 0, 0, ()), (0, 0, 0, 0, ()), ()) = _ := h1
 rw [h1]
 simp only [Option.bind_some]
 by_cases ha : all1 l = true
 ·simp only [if_pos ha, Sum.elim_inr]
  rw [L37_val hb]
  simp only [Option.bind_some]
  rw [L36_val (z3w hb)]
  rfl
 ·simp only [if_neg ha, Sum.elim_inl]
theorem foldR_all {El A B : Type} {f : El → A → Option (A ⊕ B)} {st : A} {z : B} {p : El → Bool} : ∀ {es : List El}, (∀ e ∈ es, f e st = if p e = true then some (.inl st) else some (.inr z)) → foldR f es st = if es.all p = true then some (.inl st) else some (.inr z)
 | [], _ => rfl
 | e :: r, h => by
  have h0 := h e (List.mem_cons_self ..)
  rw [List.all_cons]
  cases hp : p e with
  | true =>
   rw [hp, if_pos rfl] at h0
   simp only [foldR, h0, Bool.true_and]
   exact foldR_all fun e he => h e (List.mem_cons_of_mem _ he)
  | false =>
   rw [hp, if_neg (by decide)] at h0
   simp only [foldR, h0, Bool.false_and]
   rfl
def ptC (a : Int × Int) (k : Nat) : Cl := if isN a = true then (1, 0, 0, 0) else (2, k, a.1, a.2)
theorem cl_beq (c d : Cl) : (c.1 == d.1 && (c.2.1 == d.2.1 && (c.2.2.1 == d.2.2.1 && (c.2.2.2 == d.2.2.2 && true) && true))) = decide (c = d) := by
 obtain ⟨a, b, x, y⟩ := c
 obtain ⟨a', b', x', y'⟩ := d
 rw [Bool.eq_iff_iff, decide_eq_true_eq]
 simp [Prod.mk.injEq]
def ptP (l : List Cl) (a : Int × Int) : Prop := ∀ k, k < 8 → l.getD k zC = ptC a k
instance (l : List Cl) (a : Int × Int) : Decidable (ptP l a) := by unfold ptP; infer_instance
def adr0 (l : List Cl) : Int × Int := if (l.getD 0 zC).1 = 1 then (-1, 0) else (l.getD 0 zC).2.2
theorem z8t {l : List Cl} (hl : l.length = 8) (a : Int × Int) :
  ((LD121 (((), ()), (a.1, a.2, ()), ())).bind fun xs => (Lg93_5 xs (((), (), (), (), ()), (l, ()), (0, 0, ()), (false, ()), (a.1, a.2, ()), ())).bind fun y =>
   Sum.elim (fun x' => some (((x'.2.2.2.2.1.1, x'.2.2.2.2.1.2.1), true, ()), ())) (fun z => some (((z.2.1.1, z.2.1.2.1), z.2.2.1.1, ()), ())) y : Option rs93.den) = some ((if ptP l a then (a, true, ()) else ((-1, 0), false, ())), ()) := by
 obtain ⟨x, y⟩ := a
 rw [LD121_val]
 simp only [Option.bind_some]
 have hstep : ∀ k : Nat, k < 8 → S93_5 L51 ((k : Int), 2, (k : Int), x, y) (((), (), (), (), ()), (l, ()), (0, 0, ()), (false, ()), (x, y, ()), ()) = if decide (l.getD k zC = ptC (x, y) k) = true then some (.inl (((), (), (), (), ()), (l, ()), (0, 0, ()), (false, ()), (x, y, ()), ())) else some (.inr (((), (), ()), (-1, 0, ()), (false, ()), ())) := by
  intro k hk
  refine (S93_5_eq L51 k 2 k x y l 0 0 false x y).trans ?_
  rw [show L51 () = _ from z1L]
  simp only [Option.bind_some]
  have q1 : (0 : Int) ≤ (k : Int) := by omega
  have q2 : (k : Int) < (l.length : Int) := by omega
  rw [z3n]
  simp only [if_pos q1, if_pos q2, Int.toNat_natCast]
  unfold ptC
  by_cases hn : isN (x, y) = true
  ·rw [if_pos hn, if_pos hn]
   have := cl_beq (l.getD k zC) (1, 0, 0, 0)
   rw [← this]
  ·rw [if_neg hn, if_neg hn]
   have := cl_beq (l.getD k zC) (2, (k : Int), x, y)
   rw [← this]
 have hall : Lg93_5 [(0, 2, 0, x, y), (1, 2, 1, x, y), (2, 2, 2, x, y), (3, 2, 3, x, y), (4, 2, 4, x, y), (5, 2, 5, x, y), (6, 2, 6, x, y), (7, 2, 7, x, y)] (((), (), (), (), ()), (l, ()), (0, 0, ()), (false, ()), (x, y, ()), ()) = if ptP l (x, y) then some (.inl (((), (), (), (), ()), (l, ()), (0, 0, ()), (false, ()), (x, y, ()), ())) else some (.inr (((), (), ()), (-1, 0, ()), (false, ()), ())) := by
  refine (foldR_all (p := fun e => decide (l.getD e.1.toNat zC = ptC (x, y) e.1.toNat)) (z := (((), (), ()), (-1, 0, ()), (false, ()), ())) fun e he => ?_).trans ?_
  ·simp only [List.mem_cons, List.not_mem_nil, or_false] at he
   rcases he with rfl | rfl | rfl | rfl | rfl | rfl | rfl | rfl
   ·exact hstep 0 (by omega)
   ·exact hstep 1 (by omega)
   ·exact hstep 2 (by omega)
   ·exact hstep 3 (by omega)
   ·exact hstep 4 (by omega)
   ·exact hstep 5 (by omega)
   ·exact hstep 6 (by omega)
   ·exact hstep 7 (by omega)
  ·have hiff : (List.all [((0 : Int), (2 : Int), (0 : Int), x, y), (1, 2, 1, x, y), (2, 2, 2, x, y), (3, 2, 3, x, y), (4, 2, 4, x, y), (5, 2, 5, x, y), (6, 2, 6, x, y), (7, 2, 7, x, y)] fun e => decide (l.getD e.1.toNat zC = ptC (x, y) e.1.toNat)) = true ↔ ptP l (x, y) := by
    simp only [List.all_cons, List.all_nil, Bool.and_eq_true, decide_eq_true_eq, Bool.and_true]
    constructor
    ·rintro ⟨h0, h1, h2, h3, h4, h5, h6, h7⟩ k hk
     match k, hk with
     | 0, _ => exact h0
     | 1, _ => exact h1
     | 2, _ => exact h2
     | 3, _ => exact h3
     | 4, _ => exact h4
     | 5, _ => exact h5
     | 6, _ => exact h6
     | 7, _ => exact h7
    ·intro h
     exact ⟨h 0 (by omega), h 1 (by omega), h 2 (by omega), h 3 (by omega), h 4 (by omega), h 5 (by omega), h 6 (by omega), h 7 (by omega)⟩
   by_cases hp : ptP l (x, y)
   ·rw [if_pos (hiff.2 hp), if_pos hp]
   ·rw [if_neg fun q => hp (hiff.1 q), if_neg hp]
 rw [hall]
 by_cases hp : ptP l (x, y)
 ·rw [if_pos hp, if_pos hp]
  rfl
 ·rw [if_neg hp, if_neg hp]
  rfl
theorem L93_val {l : List Cl} (hl : l.length = 8) : L93 (l, ()) = some ((if ptP l (adr0 l) then (adr0 l, true, ()) else ((-1, 0), false, ())), ()) := by
 refine (F93_eq L51 L96 LD121 Lg93_5 l).trans ?_
 have q : (0 : Int) < (l.length : Int) := by omega
 rw [if_pos q, if_pos q]
 unfold adr0
 by_cases h1 : (l.getD 0 zC).1 = 1
 ·rw [if_pos (by rw [beq_iff_eq]; exact h1), if_pos h1, show L51 () = _ from z1L]
  simp only [Option.bind_some]
  rw [show L96 ((-1, 0), ()) = _ from F96_eq (-1) 0]
  simp only [Option.bind_some]
  exact z8t hl (-1, 0)
 ·rw [if_neg (by rw [beq_iff_eq]; exact h1), if_neg h1]
  have := F96_eq (l.getD 0 zC).2.2.1 (l.getD 0 zC).2.2.2
  rw [show L96 (((l.getD 0 (0, 0, 0, 0)).2.2.1, (l.getD 0 (0, 0, 0, 0)).2.2.2), ()) = _ from this]
  simp only [Option.bind_some]
  exact z8t hl (l.getD 0 zC).2.2
def ptrW (l : List Cl) : Wd := if ptP l (adr0 l) then (2, 0, adr0 l) else (0, 0, -1, 0)
theorem L56_ptr {l : List Cl} (hl : l.length = 8) : L56 (pS, l, ()) = some ((ptrW l, ()), ()) := by
 refine (F56_eq L51 L93 L94 Lg56_9 pS l).trans ?_
 rw [show L51 () = _ from z1L]
 simp only [Option.bind_some]
 rw [if_pos (by decide), L93_val hl]
 simp only [Option.bind_some]
 unfold ptrW
 by_cases h : ptP l (adr0 l)
 ·simp only [if_pos h]
  rfl
 ·simp only [if_neg h]
  rfl
def zeB (l : List Kl) (i : Nat) : Bool := (List.range i).all fun j => (l.getD j zK).1 == 1 && (l.getD j zK).2.1 == 0
def whB (l : List Kl) (i : Nat) : Bool := (List.range i).all fun j => (l.getD j zK).1 == 2 && ((l.getD j zK).2.2.2 == (j : Int) && ((l.getD j zK).2.2.1.1 == (l.getD 0 zK).2.2.1.1 && ((l.getD j zK).2.2.1.2 == (l.getD 0 zK).2.2.1.2 && true)))
theorem zeB_succ (l : List Kl) (i : Nat) : zeB l (i + 1) = (zeB l i && ((l.getD i zK).1 == 1 && (l.getD i zK).2.1 == 0)) := by
 unfold zeB
 rw [List.range_succ, List.all_append, List.all_cons, List.all_nil, Bool.and_true]
theorem whB_succ (l : List Kl) (i : Nat) : whB l (i + 1) = (whB l i && ((l.getD i zK).1 == 2 && ((l.getD i zK).2.2.2 == (i : Int) && ((l.getD i zK).2.2.1.1 == (l.getD 0 zK).2.2.1.1 && ((l.getD i zK).2.2.1.2 == (l.getD 0 zK).2.2.1.2 && true))))) := by
 unfold whB
 rw [List.range_succ, List.all_append, List.all_cons, List.all_nil, Bool.and_true]
theorem S111_4_step {l : List Kl} {i : Nat} (hi : i < l.length) (hl : l.length ≤ 100) (z w : Bool) (b0 b1 b2 b3 : Int) :
  S111_4 ((l, (), z, w, (i : Int), ()), (b0, b1, b2, b3, ()), ()) = some (.inl ((l, (), (z && ((l.getD i zK).1 == 1 && (l.getD i zK).2.1 == 0)), (w && ((l.getD i zK).1 == 2 && ((l.getD i zK).2.2.2 == (i : Int) && ((l.getD i zK).2.2.1.1 == (l.getD 0 zK).2.2.1.1 && ((l.getD i zK).2.2.1.2 == (l.getD 0 zK).2.2.1.2 && true))))), ((i + 1 : Nat) : Int), ()), (b0, b1, b2, b3, ()), ())) := by
 have q1 : (0 : Int) ≤ (i : Int) := by omega
 have q2 : (i : Int) < (l.length : Int) := by omega
 have q3 : (0 : Int) < (l.length : Int) := by omega
 have e1 : IntKind.i64.wrap ((i : Int) + 1) = ((i + 1 : Nat) : Int) := by rw [wi (by omega) (by omega)]; omega
 rw [S111_4_eq, if_pos (decide_eq_true q2)]
 simp only [if_pos q1, if_pos q2, if_pos q3, Int.toNat_natCast, e1]
 cases z <;> cases w <;> cases h1 : ((l.getD i zK).1 == 1) <;> cases h2 : ((l.getD i zK).1 == 2) <;> cases h3 : ((l.getD i zK).2.2.2 == (i : Int)) <;> rfl
theorem Lg111_4_val {l : List Kl} (hl : l.length ≤ 100) : Lg111_4 ((l, (), true, true, 0, ()), (0, 0, 0, 0, ()), ()) = some ((l, (), zeB l l.length, whB l l.length, ()), (0, 0, 0, 0, ()), ()) := by
 obtain ⟨z, h1, rfl⟩ := z0K (f := S111_4) (fun t => l.length - t.1.2.2.2.2.1.toNat)
  (fun t => ∃ i : Nat, i ≤ l.length ∧ t = ((l, (), zeB l i, whB l i, (i : Int), ()), (0, 0, 0, 0, ()), ()))
  (fun z => z = ((l, (), zeB l l.length, whB l l.length, ()), (0, 0, 0, 0, ()), ())) (by
  rintro t ⟨i, hi, rfl⟩
  by_cases h : i < l.length
  ·refine .inl ⟨_, S111_4_step h hl _ _ 0 0 0 0, ⟨i + 1, by omega, ?_⟩, ?_⟩
   ·rw [zeB_succ, whB_succ]
   ·show l.length - ((i + 1 : Nat) : Int).toNat < l.length - (i : Int).toNat
    omega
  ·have : i = l.length := by omega
   subst this
   rw [S111_4_eq, if_neg (by rw [decide_eq_true_eq]; omega)]
   exact .inr ⟨_, rfl, rfl⟩) ((l, (), zeB l 0, whB l 0, ((0 : Nat) : Int), ()), (0, 0, 0, 0, ()), ()) ⟨0, by omega, rfl⟩
 exact h1
theorem zeB_iff {l : List Kl} {n : Nat} : zeB l n = true ↔ ∀ j, j < n → (l.getD j zK).1 = 1 ∧ (l.getD j zK).2.1 = 0 := by
 unfold zeB
 rw [List.all_eq_true]
 constructor
 ·intro h j hj
  have := h j (List.mem_range.2 hj)
  rwa [Bool.and_eq_true, beq_iff_eq, beq_iff_eq] at this
 ·intro h j hj
  rw [Bool.and_eq_true, beq_iff_eq, beq_iff_eq]
  exact h j (List.mem_range.1 hj)
theorem whB_iff {l : List Kl} {n : Nat} : whB l n = true ↔ ∀ j, j < n → (l.getD j zK).1 = 2 ∧ (l.getD j zK).2.2.2 = (j : Int) ∧ (l.getD j zK).2.2.1 = (l.getD 0 zK).2.2.1 := by
 unfold whB
 rw [List.all_eq_true]
 constructor
 ·intro h j hj
  have := h j (List.mem_range.2 hj)
  simp only [Bool.and_eq_true, beq_iff_eq, Bool.and_true] at this
  exact ⟨this.1, this.2.1, Prod.ext this.2.2.1 this.2.2.2⟩
 ·intro h j hj
  obtain ⟨h1, h2, h3⟩ := h j (List.mem_range.1 hj)
  simp only [Bool.and_eq_true, beq_iff_eq, Bool.and_true]
  exact ⟨h1, h2, by rw [h3], by rw [h3]⟩
theorem L111_ptr {l : List Cl} (hl : l.length = 8) (hw : ∀ c ∈ l, wfC c) : L111 (pS, l.map cvC, ()) = some ((ptrW l, ()), ()) := by
 have hln : (l.map cvC).length = 8 := by simpa using hl
 refine (F111_eq L36 L37 L103 Lg111_4 z6w pS _).trans ?_
 rw [if_pos (by decide), Lg111_4_val (by omega), hln]
 simp only [Option.bind_some]
 have hg : ∀ j, j < 8 → (l.map cvC).getD j zK = cvC (l.getD j zC) := fun j hj => cv_get (by omega)
 have hwf : ∀ j, j < 8 → wfC (l.getD j zC) := fun j hj => by
  rw [z1S zC (by omega)]
  exact hw _ (List.getElem_mem _)
 have hlen : (0 : Int) < ((l.map cvC).length : Int) := by omega
 unfold ptrW
 have h103 : L103 () = _ := z3Z
 rw [h103]
 simp only [Option.bind_some]
 rcases hwf 0 (by omega) with h0 | ⟨h0, h0'⟩ | ⟨h0, h0'⟩
 ·
  have hk : (l.getD 0 zC).1 = 0 := by rw [h0]
  have n1 : ¬ zeB (l.map cvC) 8 = true := fun q => by
   have := (zeB_iff.1 q 0 (by omega)).1
   rw [hg 0 (by omega), z2G, hk] at this
   cases this
  have n2 : ¬ whB (l.map cvC) 8 = true := fun q => by
   have := (whB_iff.1 q 0 (by omega)).1
   rw [hg 0 (by omega), z2G, hk] at this
   cases this
  have n3 : ¬ ptP l (adr0 l) := fun q => by
   have := q 0 (by omega)
   rw [h0] at this
   have h2 := congrArg Prod.fst this
   unfold ptC at h2
   split at h2 <;> cases h2
  rw [if_neg n2, if_neg n1, if_neg n3]
 ·
  have ea : adr0 l = (-1, 0) := by unfold adr0; rw [if_pos h0]
  have n2 : ¬ whB (l.map cvC) 8 = true := fun q => by
   have := (whB_iff.1 q 0 (by omega)).1
   rw [hg 0 (by omega), z2G, h0] at this
   cases this
  rw [if_neg n2, ea]
  have hiff : zeB (l.map cvC) 8 = true ↔ ptP l (-1, 0) := by
   rw [zeB_iff]
   constructor
   ·intro h j hj
    obtain ⟨k1, k2⟩ := h j hj
    rw [hg j hj, z2G] at k1
    rw [hg j hj, cvC_num k1] at k2
    have k2 : (l.getD j zC).2.1 = 0 := k2
    rcases hwf j hj with q | ⟨_, q⟩ | ⟨q, _⟩
    ·rw [q] at k1; cases k1
    ·show l.getD j zC = (1, 0, 0, 0)
     exact Prod.ext k1 (Prod.ext k2 q)
    ·rw [q] at k1; cases k1
   ·intro h j hj
    have := h j hj
    have e : l.getD j zC = (1, 0, 0, 0) := this
    rw [hg j hj, e]
    exact ⟨rfl, rfl⟩
  by_cases hp : ptP l (-1, 0)
  ·rw [if_pos (hiff.2 hp), if_pos hp]
  ·rw [if_neg fun q => hp (hiff.1 q), if_neg hp]
 ·
  have ea : adr0 l = (l.getD 0 zC).2.2 := by unfold adr0; rw [if_neg (by omega)]
  have en : isN (l.getD 0 zC).2.2 = false := by
   unfold isN
   rw [decide_eq_false_iff_not]
   omega
  have e0 : ((l.map cvC).getD 0 zK).2.2.1 = (l.getD 0 zC).2.2 := by rw [hg 0 (by omega), cvC_ptr h0]
  rw [ea]
  have n1 : ¬ zeB (l.map cvC) 8 = true := fun q => by
   have := (zeB_iff.1 q 0 (by omega)).1
   rw [hg 0 (by omega), z2G, h0] at this
   cases this
  have hiff : whB (l.map cvC) 8 = true ↔ ptP l (l.getD 0 zC).2.2 := by
   rw [whB_iff]
   constructor
   ·intro h j hj
    obtain ⟨k1, k2, k3⟩ := h j hj
    rw [hg j hj, z2G] at k1
    rw [hg j hj, cvC_ptr k1] at k2
    rw [e0, hg j hj, cvC_ptr k1] at k3
    unfold ptC
    rw [if_neg (by rw [en]; decide)]
    exact Prod.ext k1 (Prod.ext k2 k3)
   ·intro h j hj
    have := h j hj
    unfold ptC at this
    rw [if_neg (by rw [en]; decide)] at this
    have k1 : (l.getD j zC).1 = 2 := by rw [this]
    rw [e0, hg j hj, cvC_ptr k1, this]
    exact ⟨rfl, rfl, rfl⟩
  by_cases hp : ptP l (l.getD 0 zC).2.2
  ·rw [if_pos (hiff.2 hp), if_pos hp]
   have q : (0 : Int) < ((l.map cvC).length : Int) := by omega
   refine (if_pos q).trans ?_
   show some (((2, 0, ((l.map cvC).getD 0 zK).2.2.1.1, ((l.map cvC).getD 0 zK).2.2.1.2), ()), ()) = _
   rw [e0]
  ·rw [if_neg fun q => hp (hiff.1 q), if_neg n1, if_neg hp]
def gaW (s : List UInt8) (b : Nat) (l : List Cl) : Wd := if s = pS then ptrW l else numW b l
theorem L56_val {s : List UInt8} {b : Nat} (hb : tyb s = some b) (hs : s.length ≤ 1000) {l : List Cl} (hl : l.length = (b + 7) / 8) : L56 (s, l, ()) = some ((gaW s b l, ()), ()) := by
 have h64 := z3w hb
 unfold gaW
 by_cases hp : s = pS
 ·subst hp
  rw [z5w] at hb
  injection hb with hb
  subst hb
  have h8 : l.length = 8 := by omega
  rw [if_pos rfl]
  exact L56_ptr h8
 ·rw [if_neg hp]
  exact L56_num hb hs hp (by omega)
theorem L111_val {s : List UInt8} {b : Nat} (hb : tyb s = some b) {l : List Cl} (hl : l.length = (b + 7) / 8) (hw : ∀ c ∈ l, wfC c) : L111 (s, l.map cvC, ()) = some ((gaW s b l, ()), ()) := by
 have h64 := z3w hb
 unfold gaW
 by_cases hp : s = pS
 ·rw [if_pos hp, hp]
  rw [hp] at hb
  have hb' : b = 64 := Option.some.inj (hb.symm.trans z5w)
  have h8 : l.length = 8 := by omega
  exact L111_ptr h8 hw
 ·rw [if_neg hp]
  exact L111_num hb hp (by omega)
end Go.Proofs.Rf
namespace Go.Proofs.Rf
open Go Go.RowKit
abbrev dG {C : Type} : Tl × List C := ((0, 0, false, false), [])
def Wg {C : Type} (m : List (Tl × List C)) (k off : Nat) (cs : List C) : List (Tl × List C) := m.set k ((m.getD k dG).1, (m.getD k dG).2.take off ++ cs ++ (m.getD k dG).2.drop (off + cs.length))
theorem z2h {C : Type} (m : List (Tl × List C)) (k off : Nat) : Wg m k off [] = m := by
 unfold Wg
 by_cases h : k < m.length
 ·have e : (m.getD k dG).2.take off ++ [] ++ (m.getD k dG).2.drop (off + ([] : List C).length) = (m.getD k dG).2 := by
   rw [List.append_nil, List.length_nil, Nat.add_zero, List.take_append_drop]
  rw [e]
  exact set_same m k dG h
 ·exact List.set_eq_of_length_le (by omega)
theorem Wg_get {C : Type} {m : List (Tl × List C)} {k : Nat} (h : k < m.length) (off : Nat) (cs : List C) : (Wg m k off cs).getD k dG = ((m.getD k dG).1, (m.getD k dG).2.take off ++ cs ++ (m.getD k dG).2.drop (off + cs.length)) := by
 unfold Wg
 rw [z6r _ _ _ _ _ h, if_pos rfl]
theorem z7H {C : Type} (m : List (Tl × List C)) (k off : Nat) (cs : List C) : (Wg m k off cs).length = m.length := by
 unfold Wg
 rw [List.length_set]
theorem Wg_step {C : Type} {m : List (Tl × List C)} {k off : Nat} {cs : List C} (h : k < m.length) (hb : off + cs.length < (m.getD k dG).2.length) (c : C) :
  (Wg m k off cs).set k (((Wg m k off cs).getD k dG).1, ((Wg m k off cs).getD k dG).2.set (off + cs.length) c) = Wg m k off (cs ++ [c]) := by
 rw [Wg_get h]
 unfold Wg
 rw [List.set_set]
 congr 2
 have hl : ((m.getD k dG).2.take off ++ cs).length = off + cs.length := by rw [List.length_append, List.length_take, Nat.min_eq_left (by omega)]
 rw [List.set_append_right _ _ (by rw [hl]; exact Nat.le_refl _), hl, Nat.sub_self, List.drop_eq_getElem_cons hb, List.set_cons_zero, List.length_append, List.length_singleton, ← Nat.add_assoc]
 simp
theorem cv_block (m : List Bp) {k : Nat} (h : k < m.length) : (cv m).getD k dG = cvB (m.getD k dG) := z2e h
theorem cv_W {m : List Bp} {k : Nat} (h : k < m.length) (off : Nat) (cs : List Cl) : cv (Wg m k off cs) = Wg (cv m) k off (cs.map cvC) := by
 unfold Wg
 rw [cv_set, cv_block m h]
 congr 1
 unfold cvB
 simp [List.map_append, List.map_take, List.map_drop]
theorem W_inv {m : List Bp} (hI : Inv m) {k off : Nat} {cs : List Cl} (hb : off + cs.length ≤ (m.getD k dG).2.length) (hw : ∀ c ∈ cs, wfC c) : Inv (Wg m k off cs) := by
 have h0 := hI.at k
 refine hI.set k ⟨?_, fun c hc => ?_⟩
 ·have h1 : (m.getD k dG).2.length ≤ 65536 := h0.1
  simp only [List.length_append, List.length_take, List.length_drop]
  omega
 ·rcases List.mem_append.1 hc with hc | hc
  ·rcases List.mem_append.1 hc with hc | hc
   ·exact h0.2 c (List.mem_of_mem_take hc)
   ·exact hw c hc
  ·exact h0.2 c (List.mem_of_mem_drop hc)
theorem W_stp {m : List Bp} (hI : Inv m) {k off : Nat} {cs : List Cl} (hb : off + cs.length ≤ (m.getD k dG).2.length) (hw : ∀ c ∈ cs, wfC c) {u : Int} {hp : Prop} : Stp m u hp (Wg m k off cs) u :=
 ⟨W_inv hI hb hw, by rw [z7H]; omega, by omega, by omega, fun _ q => q⟩
def cel (m : List Bp) (a : Int × Int) (n : Int) : List Cl := if n ≤ 0 then [] else ((m.getD a.1.toNat dG).2.drop a.2.toNat).take n.toNat
theorem z5N {m : List Bp} {a : Int × Int} {n : Nat} (h : 0 < n → ¬ c1 m a n) : (cel m a n).length = n := by
 unfold cel
 by_cases hn : (n : Int) ≤ 0
 ·rw [if_pos hn]
  show 0 = n
  omega
 ·obtain ⟨p1, p2, p3, p4, p5, _⟩ := z2g (h (by omega))
  have p5 : a.2 + n ≤ ((m.getD a.1.toNat dG).2.length : Int) := p5
  rw [if_neg hn, List.length_take, List.length_drop, Int.toNat_natCast]
  omega
theorem cel_wf {m : List Bp} (hI : Inv m) (a : Int × Int) (n : Int) : ∀ c ∈ cel m a n, wfC c := by
 intro c hc
 unfold cel at hc
 split at hc
 ·cases hc
 ·exact (hI.at _).2 c (List.mem_of_mem_drop (List.mem_of_mem_take hc))
theorem L57v_val {m : List Bp} {a : Int × Int} {n : Int} (h : 0 < n → ¬ c1 m a n) (u al : Int) (w : Bool) : L57v ((m, u, ()), (a, n, al, w), ()) = some ((cel m a n, ()), ()) := by
 refine (F57v_eq m u a.1 a.2 n al w).trans ?_
 unfold cel
 by_cases hn : n ≤ 0
 ·rw [if_pos (decide_eq_true hn), if_pos hn]
 ·obtain ⟨p1, p2, p3, p4, p5, _⟩ := z2g (h (by omega))
  have p4 : a.2 ≤ ((m.getD a.1.toNat ((0, 0, false, false), [])).2.length : Int) := p4
  have p5 : a.2 + n ≤ ((m.getD a.1.toNat ((0, 0, false, false), [])).2.length : Int) := p5
  rw [if_neg (by rw [decide_eq_true_eq]; exact hn), if_neg hn, if_pos p1, if_pos p2, if_pos p3, if_pos p4, if_pos (Int.le_refl _), if_pos rfl, if_pos (by omega)]
  refine if_pos ?_
  rw [List.length_drop]
  omega
def prt (a : Int × Int) (n : Int) : Nat × Nat × Nat := if n ≤ 0 then (0, 0, 0) else (a.1.toNat, a.2.toNat, n.toNat)
theorem L57_val {m : List Bp} {a : Int × Int} {n : Int} (h : 0 < n → ¬ c1 m a n) (u al : Int) (w : Bool) : L57 (((), (a, n, al, w), ()), ((), u, ()), m, ()) = some (((), prt a n, ()), ((), u, ()), m, ()) := by
 refine (F57_eq a.1 a.2 n al w u m).trans ?_
 unfold prt
 by_cases hn : n ≤ 0
 ·rw [if_pos (decide_eq_true hn), if_pos hn]
 ·obtain ⟨p1, p2, p3, p4, p5, _⟩ := z2g (h (by omega))
  have p4 : a.2 ≤ ((m.getD a.1.toNat ((0, 0, false, false), [])).2.length : Int) := p4
  have p5 : a.2 + n ≤ ((m.getD a.1.toNat ((0, 0, false, false), [])).2.length : Int) := p5
  rw [if_neg (by rw [decide_eq_true_eq]; exact hn), if_neg hn, if_pos p1, if_pos p2, if_pos p3, if_pos p4, if_pos (Int.le_refl _), if_pos rfl, if_pos (by omega)]
  refine (if_pos (by omega)).trans ?_
  rw [Nat.zero_add]
theorem prt_copy (m : List Bp) (a : Int × Int) (n : Int) (src : List Cl) (hs : (src.length : Int) = n ∨ n ≤ 0 ∧ src = []) :
  List.set m (prt a n).1 ((List.getD m (prt a n).1 ((0, 0, false, false), [])).1, List.take (prt a n).2.1 (List.getD m (prt a n).1 ((0, 0, false, false), [])).2 ++ List.take (prt a n).2.2 src ++ List.drop ((prt a n).2.1 + min src.length (prt a n).2.2) (List.getD m (prt a n).1 ((0, 0, false, false), [])).2) = Wg m a.1.toNat a.2.toNat src := by
 unfold prt
 by_cases hn : n ≤ 0
 ·have : src = [] := by
   rcases hs with hs | ⟨_, hs⟩
   ·exact List.eq_nil_of_length_eq_zero (by omega)
   ·exact hs
  subst this
  rw [if_pos hn, z2h]
  exact z2h m 0 0
 ·have hs : src.length = n.toNat := by rcases hs with hs | ⟨hs, _⟩ <;> omega
  rw [if_neg hn]
  show List.set m a.1.toNat (_, _ ++ List.take n.toNat src ++ List.drop (a.2.toNat + min src.length n.toNat) _) = _
  rw [← hs, List.take_length, Nat.min_self]
  rfl
theorem ref_copy {C : Type} (m : List (Tl × List C)) (k off : Nat) (src : List C) (h : off + src.length ≤ (m.getD k dG).2.length) :
  m.set k ((m.getD k ((0, 0, false, false), [])).1, List.take (0 + off) (m.getD k ((0, 0, false, false), [])).2 ++ List.take ((m.getD k ((0, 0, false, false), [])).2.length - off) src ++ List.drop (0 + off + min src.length ((m.getD k ((0, 0, false, false), [])).2.length - off)) (m.getD k ((0, 0, false, false), [])).2) = Wg m k off src := by
 have h : off + src.length ≤ (m.getD k ((0, 0, false, false), [])).2.length := h
 rw [Nat.zero_add, List.take_of_length_le (l := src) (by omega), Nat.min_eq_left (by omega)]
 rfl
def ldW (m : List Bp) (s : List UInt8) (a : Int × Int) : Wd × Int × Unit := match tyb s with
 | none => ((0, 0, -1, 0), 13, ())
 | some b => if kd m a (((b + 7) / 8 : Nat) : Int) (alg ((b + 7) / 8)) false = -1 then (gaW s b (cel m a (((b + 7) / 8 : Nat) : Int)), -1, ()) else ((0, 0, -1, 0), kd m a (((b + 7) / 8 : Nat) : Int) (alg ((b + 7) / 8)) false, ())
theorem L16_val {m : List Bp} (hI : Inv m) (u : Int) {s : List UInt8} (hs : s.length ≤ 1000) (a : Int × Int) : L16 ((m, u, ()), s, a, ()) = some (ldW m s a, ()) := by
 refine (F16_eq L51 L54 L55 L56 L57v m u s a.1 a.2).trans ?_
 rw [show L51 () = _ from z1L]
 simp only [Option.bind_some]
 unfold ldW
 cases hb : tyb s with
 | none =>
  have := L54_none hb hs a false
  rw [show L54 (s, (a.1, a.2), false, ()) = _ from this]
  rfl
 | some b =>
  have h54 : L54 (s, (a.1, a.2), false, ()) = _ := L54_val hb hs a false
  have h55 : L55 ((m, u, ()), ((a.1, a.2), (((b + 7) / 8 : Nat) : Int), (alg ((b + 7) / 8) : Int), false), ()) = _ := z5S hI u a _ _ false
  rw [h54]
  simp only [Option.bind_some]
  rw [if_neg (by decide), h55]
  simp only [Option.bind_some]
  by_cases hk : kd m a (((b + 7) / 8 : Nat) : Int) (alg ((b + 7) / 8)) false = -1
  ·have hc : 0 < (((b + 7) / 8 : Nat) : Int) → ¬ c1 m a (((b + 7) / 8 : Nat) : Int) := z1a hk
   have h57 : L57v ((m, u, ()), ((a.1, a.2), (((b + 7) / 8 : Nat) : Int), (alg ((b + 7) / 8) : Int), false), ()) = _ := L57v_val hc u _ false
   have h56 := L56_val hb hs (z5N fun q => hc (by omega))
   have hk2 : kd m (a.1, a.2) (((b + 7) / 8 : Nat) : Int) (alg ((b + 7) / 8)) false = -1 := hk
   rw [if_neg (by rw [hk2]; decide), h57]
   simp only [Option.bind_some]
   rw [show L56 (s, cel m (a.1, a.2) (((b + 7) / 8 : Nat) : Int), ()) = _ from h56]
   simp only [Option.bind_some]
   rw [if_pos hk]
  ·have hk2 : ¬ kd m (a.1, a.2) (((b + 7) / 8 : Nat) : Int) (alg ((b + 7) / 8)) false = -1 := hk
   rw [if_pos (by rw [Bool.not_eq_true', beq_eq_false_iff_ne]; exact hk2)]
   simp only [if_neg hk]
theorem gaW_0 {s : List UInt8} {b : Nat} (hb : tyb s = some b) (h0 : (b + 7) / 8 = 0) : gaW s b [] = (1, 0, -1, 0) := by
 have hb0 : b = 0 := by omega
 subst hb0
 have hp : s ≠ pS := fun q => by
  rw [q, z5w] at hb
  injection hb with hb
  cases hb
 unfold gaW
 rw [if_neg hp]
 decide
theorem L75_val {m : List Bp} (hI : Inv m) (u : Int) {s : List UInt8} (a : Int × Int) : L75 ((cv m, u, ()), s, a, ()) = some (ldW m s a, ()) := by
 refine (F75_eq L15 L103 L109 L110 L111 (cv m) u s a.1 a.2).trans ?_
 have h103 : L103 () = _ := z3Z
 rw [L15_val, h103]
 simp only [Option.bind_some]
 unfold ldW
 cases hb : tyb s with
 | none => rfl
 | some b =>
  have h64 := z3w hb
  rw [L109_val, hb]
  dsimp only
  generalize hn : (b + 7) / 8 = n
  have e15 : szA (some b) = ((n : Int), 0, ()) := by
   show ((((b + 7) / 8 : Nat) : Int), 0, ()) = _
   rw [hn]
  have e109 : alA (some b) = ((alg n : Int), 0, ()) := by
   show ((alg ((b + 7) / 8) : Int), 0, ()) = _
   rw [hn]
  have h110 : L110 ((cv m, u, ()), (a.1, a.2), (n : Int), (alg n : Int), false, ()) = _ := z3X hI u a n (alg n) false
  rw [e15, e109]
  simp only [Option.bind_some]
  rw [if_neg (by decide), h110]
  simp only [Option.bind_some]
  by_cases hk : kd m a (n : Int) (alg n) false = -1
  ·have hk2 : kd m (a.1, a.2) (n : Int) (alg n) false = -1 := hk
   have hc : 0 < (n : Int) → ¬ c1 m a (n : Int) := z1a hk
   rw [if_neg (by rw [hk2]; decide)]
   simp only [if_pos hk]
   by_cases h0 : n = 0
   ·subst h0
    rw [if_pos (by decide)]
    have : cel m a ((0 : Nat) : Int) = [] := rfl
    rw [this, gaW_0 hb hn]
   ·obtain ⟨p1, p2, p3, p4, p5, _⟩ := z2g (hc (by omega))
    have hB := (hI.at a.1.toNat).1
    have p4 : a.2 ≤ ((m.getD a.1.toNat dB).2.length : Int) := p4
    have p5 : a.2 + n ≤ ((m.getD a.1.toNat dB).2.length : Int) := p5
    have hg := z2e (m := m) (k := a.1.toNat) (by omega)
    have hl : ((cv m).getD a.1.toNat ((0, 0, false, false), [])).2.length = (m.getD a.1.toNat dB).2.length := by rw [show (cv m).getD a.1.toNat ((0, 0, false, false), []) = _ from hg]; simp [cvB]
    rw [if_neg (show ¬ ((n : Int) == 0) = true by rw [beq_iff_eq]; omega), if_pos p1, if_pos (by rw [z0z]; exact p2), if_pos p3, wi (by omega) (by omega), if_pos (by omega), hl, if_pos p5]
    have hl2 := z5N (m := m) (a := a) (n := n) fun q => hc (by omega)
    have e : List.drop a.2.toNat (List.take (a.2 + (n : Int)).toNat ((cv m).getD a.1.toNat ((0, 0, false, false), [])).2) = (cel m a (n : Int)).map cvC := by
     rw [show (cv m).getD a.1.toNat ((0, 0, false, false), []) = _ from hg]
     unfold cel cvB
     rw [if_neg (by omega), List.drop_take, List.map_take, List.map_drop, show (a.2 + (n : Int)).toNat - a.2.toNat = (n : Int).toNat by omega]
    rw [e, L111_val hb (by rw [hl2, hn]) (cel_wf hI a n)]
    rfl
  ·have hk2 : ¬ kd m (a.1, a.2) (n : Int) (alg n) false = -1 := hk
   rw [if_pos (by rw [Bool.not_eq_true', beq_eq_false_iff_ne]; exact hk2)]
   simp only [if_neg hk]
def stM (m : List Bp) (s : List UInt8) (a : Int × Int) (w : Wd) : Int × List Bp := match tyb s with
 | none => (13, m)
 | some b => if kd m a (((b + 7) / 8 : Nat) : Int) (alg ((b + 7) / 8)) true = -1 then (-1, Wg m a.1.toNat a.2.toNat (scL m.length s b w)) else (kd m a (((b + 7) / 8 : Nat) : Int) (alg ((b + 7) / 8)) true, m)
theorem L17_val {m : List Bp} (hI : Inv m) (u : Int) {s : List UInt8} (hs : s.length ≤ 1000) (a : Int × Int) (w : Wd) : L17 (((), s, a, w, ()), ((), u, ()), m, ()) = some (((), (stM m s a w).1, ()), ((), u, ()), (stM m s a w).2, ()) := by
 refine (F17_eq L54 L55 L57 L58 s a.1 a.2 w.1 w.2.1 w.2.2.1 w.2.2.2 u m).trans ?_
 rw [z1h]
 unfold stM
 cases hb : tyb s with
 | none =>
  have := L54_none hb hs a true
  rw [show L54 (s, (a.1, a.2), true, ()) = _ from this]
  rfl
 | some b =>
  have h54 : L54 (s, (a.1, a.2), true, ()) = _ := L54_val hb hs a true
  have h55 : L55 ((m, u, ()), ((a.1, a.2), (((b + 7) / 8 : Nat) : Int), (alg ((b + 7) / 8) : Int), true), ()) = _ := z5S hI u a _ _ true
  rw [h54]
  simp only [Option.bind_some]
  rw [if_neg (by decide), h55]
  simp only [Option.bind_some]
  by_cases hk : kd m a (((b + 7) / 8 : Nat) : Int) (alg ((b + 7) / 8)) true = -1
  ·have hc : 0 < (((b + 7) / 8 : Nat) : Int) → ¬ c1 m a (((b + 7) / 8 : Nat) : Int) := z1a hk
   have h57 : L57 (((), ((a.1, a.2), (((b + 7) / 8 : Nat) : Int), (alg ((b + 7) / 8) : Int), true), ()), ((), u, ()), m, ()) = _ := L57_val hc u _ true
   have h58 : L58 ((m, u, ()), s, (((b + 7) / 8 : Nat) : Int), (w.1, w.2.1, w.2.2.1, w.2.2.2), ()) = _ := L58_val hb hs m u w
   have hk2 : kd m (a.1, a.2) (((b + 7) / 8 : Nat) : Int) (alg ((b + 7) / 8)) true = -1 := hk
   rw [if_neg (by rw [hk2]; decide), h57]
   simp only [Option.bind_some]
   rw [h58]
   simp only [Option.bind_some, if_pos hk]
   have := prt_copy m a (((b + 7) / 8 : Nat) : Int) (scL m.length s b w) (.inl (by rw [z2O]))
   rw [← this]
  ·have hk2 : ¬ kd m (a.1, a.2) (((b + 7) / 8 : Nat) : Int) (alg ((b + 7) / 8)) true = -1 := hk
   rw [if_pos (by rw [Bool.not_eq_true', beq_eq_false_iff_ne]; exact hk2)]
   simp only [if_neg hk]
theorem stM_stp {m : List Bp} (hI : Inv m) (s : List UInt8) (a : Int × Int) (w : Wd) {u : Int} {hp : Prop} : Stp m u hp (stM m s a w).2 u := by
 unfold stM
 cases hb : tyb s with
 | none => exact .same hI
 | some b =>
  simp only
  by_cases hk : kd m a (((b + 7) / 8 : Nat) : Int) (alg ((b + 7) / 8)) true = -1
  ·rw [if_pos hk]
   by_cases h0 : (b + 7) / 8 = 0
   ·have : scL m.length s b w = [] := by unfold scL; rw [h0]; rfl
    rw [this, z2h]
    exact .same hI
   ·obtain ⟨p1, p2, p3, p4, p5, _⟩ := z2g (z1a hk (by omega))
    have p5 : a.2 + (((b + 7) / 8 : Nat) : Int) ≤ ((m.getD a.1.toNat dG).2.length : Int) := p5
    exact W_stp hI (by rw [z2O]; omega) (sc_wf _ _ _ _)
  ·rw [if_neg hk]
   exact .same hI
theorem L76_val {m : List Bp} (hI : Inv m) (u : Int) {s : List UInt8} (a : Int × Int) (w : Wd) : L76 (((), s, a, w, ()), ((), u, ()), cv m, ()) = some (((), (stM m s a w).1, ()), ((), u, ()), cv (stM m s a w).2, ()) := by
 refine (F76_eq L15 L106 L109 L110 L112 s a.1 a.2 w.1 w.2.1 w.2.2.1 w.2.2.2 u (cv m)).trans ?_
 rw [z1h, L15_val]
 simp only [Option.bind_some]
 unfold stM
 cases hb : tyb s with
 | none => rfl
 | some b =>
  have h64 := z3w hb
  rw [L109_val, hb]
  dsimp only
  have h112 : ∀ w' : Wd, L112 (s, w', ()) = _ := fun w' => L112_val hb w'
  have hcv := scL_cv (s := s) (b := b) (n := m.length) w
  have hscl := z2O m.length s b w
  generalize hn : (b + 7) / 8 = n at *
  have e15 : szA (some b) = ((n : Int), 0, ()) := by
   show ((((b + 7) / 8 : Nat) : Int), 0, ()) = _
   rw [hn]
  have e109 : alA (some b) = ((alg n : Int), 0, ()) := by
   show ((alg ((b + 7) / 8) : Int), 0, ()) = _
   rw [hn]
  have h110 : L110 ((cv m, u, ()), (a.1, a.2), (n : Int), (alg n : Int), true, ()) = _ := z3X hI u a n (alg n) true
  rw [e15, e109]
  simp only [Option.bind_some]
  rw [if_neg (by decide), h110]
  simp only [Option.bind_some]
  by_cases hk : kd m a (n : Int) (alg n) true = -1
  ·have hk2 : kd m (a.1, a.2) (n : Int) (alg n) true = -1 := hk
   have hc : 0 < (n : Int) → ¬ c1 m a (n : Int) := z1a hk
   rw [if_neg (by rw [hk2]; decide)]
   simp only [if_pos hk]
   have hst : ∀ w' : Wd, (if decide ((n : Int) > 0) = true then
      (L112 (s, w', ())).bind fun y =>
       if 0 ≤ a.1 then
        if a.1 < ((cv m).length : Int) then
         if 0 ≤ a.2 then
          if a.2 ≤ (((cv m).getD a.1.toNat ((0, 0, false, false), [])).2.length : Int) then
           if (((cv m).getD a.1.toNat ((0, 0, false, false), [])).2.length : Int) ≤ (((cv m).getD a.1.toNat ((0, 0, false, false), [])).2.length : Int) then
            some (((), -1, ()), ((), u, ()), (cv m).set a.1.toNat (((cv m).getD a.1.toNat ((0, 0, false, false), [])).1,
              List.take (0 + a.2.toNat) ((cv m).getD a.1.toNat ((0, 0, false, false), [])).2 ++ List.take (((cv m).getD a.1.toNat ((0, 0, false, false), [])).2.length - a.2.toNat) y.2.1 ++
               List.drop (0 + a.2.toNat + min (List.length y.2.1) (((cv m).getD a.1.toNat ((0, 0, false, false), [])).2.length - a.2.toNat)) ((cv m).getD a.1.toNat ((0, 0, false, false), [])).2), ())
           else none
          else none
         else none
        else none
       else none
     else some (((), -1, ()), ((), u, ()), cv m, ()) : Option rs76.den) = some (((), -1, ()), ((), u, ()), Wg (cv m) a.1.toNat a.2.toNat ((List.range n).map (scK s b w')), ()) := by
    intro w'
    by_cases h0 : n = 0
    ·rw [if_neg (by rw [decide_eq_true_eq]; omega), h0]
     show some (((), -1, ()), ((), u, ()), cv m, ()) = some (((), -1, ()), ((), u, ()), Wg (cv m) a.1.toNat a.2.toNat [], ())
     rw [z2h]
    ·obtain ⟨p1, p2, p3, p4, p5, _⟩ := z2g (hc (by omega))
     have p4 : a.2 ≤ ((m.getD a.1.toNat dB).2.length : Int) := p4
     have p5 : a.2 + n ≤ ((m.getD a.1.toNat dB).2.length : Int) := p5
     have hg := z2e (m := m) (k := a.1.toNat) (by omega)
     have hl : ((cv m).getD a.1.toNat ((0, 0, false, false), [])).2.length = (m.getD a.1.toNat dB).2.length := by rw [show (cv m).getD a.1.toNat ((0, 0, false, false), []) = _ from hg]; simp [cvB]
     rw [if_pos (by rw [decide_eq_true_eq]; omega), h112]
     simp only [Option.bind_some]
     have q2 : a.1 < ((cv m).length : Int) := by rw [z0z]; exact p2
     have q4 : a.2 ≤ (((cv m).getD a.1.toNat ((0, 0, false, false), [])).2.length : Int) := by rw [hl]; exact p4
     rw [if_pos p1, if_pos q2, if_pos p3, if_pos q4, if_pos (Int.le_refl _), ref_copy]
     show a.2.toNat + ((List.range n).map (scK s b w')).length ≤ ((cv m).getD a.1.toNat ((0, 0, false, false), [])).2.length
     rw [hl, List.length_map, List.length_range]
     omega
   have hW : cv (Wg m a.1.toNat a.2.toNat (scL m.length s b w)) = Wg (cv m) a.1.toNat a.2.toNat ((List.range n).map (scK s b (refW m.length w))) := by
    by_cases h0 : n = 0
    ·have : scL m.length s b w = [] := List.eq_nil_of_length_eq_zero (by rw [hscl, h0])
     rw [this, z2h, h0]
     exact (z2h _ _ _).symm
    ·obtain ⟨p1, p2, _⟩ := z2g (hc (by omega))
     rw [cv_W (by omega), hcv]
   rw [hW]
   have h106 : L106 ((cv m, u, ()), (w.2.2.1, w.2.2.2), ()) = _ := z3Y m u w.2.2
   by_cases h2 : w.1 = 2
   ·rw [if_pos (by rw [beq_iff_eq]; exact h2), h106]
    simp only [Option.bind_some]
    cases hf : fm m.length w.2.2 with
    | true =>
     rw [if_neg (by decide)]
     have : refW m.length w = w := by unfold refW; rw [if_neg (by rw [hf]; rintro ⟨_, q⟩; cases q)]
     rw [this]
     exact hst w
    | false =>
     rw [if_pos (by decide)]
     have : refW m.length w = (0, 0, 0, 0) := by unfold refW; rw [if_pos ⟨h2, hf⟩]
     rw [this]
     exact hst (0, 0, 0, 0)
   ·rw [if_neg (by rw [beq_iff_eq]; exact h2)]
    have : refW m.length w = w := by unfold refW; rw [if_neg fun q => h2 q.1]
    rw [this]
    exact hst w
  ·have hk2 : ¬ kd m (a.1, a.2) (n : Int) (alg n) true = -1 := hk
   rw [if_pos (by rw [Bool.not_eq_true', beq_eq_false_iff_ne]; exact hk2)]
   simp only [if_neg hk]
theorem meet_self {R : Type} (x : Option R) : meet x x = x := by
 unfold meet
 rw [if_pos rfl]
theorem L60_val {l : List Cl} (h : l.length ≤ 4294967296) : L60 (l, ()) = some (((), ()), l, ()) := by
 refine (F60_eq l).trans ?_
 by_cases h0 : 0 < l.length
 ·rw [if_pos h0, if_pos (by omega)]
 ·have : l = [] := List.eq_nil_of_length_eq_zero (by omega)
  subst this
  rw [if_neg h0, if_pos (by decide), meet_self]
def cpM (m : List Bp) (t f : Int × Int) (n : Int) : Int × List Bp :=
 if fstZ (-1) [kd m f n 0 false, kd m t n 0 true] = -1 then (-1, Wg m t.1.toNat t.2.toNat (cel m f n)) else (fstZ (-1) [kd m f n 0 false, kd m t n 0 true], m)
theorem fst2 {x y : Int} (h : fstZ (-1) [x, y] = -1) : x = -1 ∧ y = -1 := by
 unfold fstZ at h
 split at h
 ·rename_i hx
  refine ⟨hx, ?_⟩
  unfold fstZ at h
  split at h
  ·assumption
  ·exact h
 ·rename_i hx
  exact absurd h hx
theorem cel_len {m : List Bp} {a : Int × Int} {n : Int} (h : 0 < n → ¬ c1 m a n) : ((cel m a n).length : Int) = n ∨ n ≤ 0 ∧ cel m a n = [] := by
 by_cases hn : n ≤ 0
 ·exact .inr ⟨hn, by unfold cel; rw [if_pos hn]⟩
 ·obtain ⟨k, rfl⟩ : ∃ k : Nat, n = (k : Int) := ⟨n.toNat, by omega⟩
  have := z5N (m := m) (a := a) (n := k) fun q => h (by omega)
  rw [this]
  exact .inl rfl
theorem cel_le {m : List Bp} (hI : Inv m) (a : Int × Int) (n : Int) : (cel m a n).length ≤ 65536 := by
 unfold cel
 split
 ·simp
 ·have := (hI.at a.1.toNat).1
  have this : (m.getD a.1.toNat dG).2.length ≤ 65536 := this
  rw [List.length_take, List.length_drop]
  omega
theorem prt_cel (m : List Bp) (a : Int × Int) (n : Int) : List.take (prt a n).2.2 (List.drop (prt a n).2.1 (List.getD m (prt a n).1 ((0, 0, false, false), [])).2) = cel m a n := by
 unfold prt cel
 by_cases hn : n ≤ 0
 ·rw [if_pos hn, if_pos hn]
  rfl
 ·rw [if_neg hn, if_neg hn]
theorem L19_val {m : List Bp} (hI : Inv m) (u : Int) (t f : Int × Int) (n : Int) : L19 (((), t, f, n, ()), ((), u, ()), m, ()) = some (((), (cpM m t f n).1, ()), ((), u, ()), (cpM m t f n).2, ()) := by
 refine (F19_eq L55 L57 L59 L60 t.1 t.2 f.1 f.2 n u m).trans ?_
 rw [z1h]
 have h1 : L55 ((m, u, ()), ((f.1, f.2), n, 0, false), ()) = _ := z5S hI u f n 0 false
 have h2 : L55 ((m, u, ()), ((t.1, t.2), n, 0, true), ()) = _ := z5S hI u t n 0 true
 have h3 : L59 ([kd m (f.1, f.2) n 0 false, kd m (t.1, t.2) n 0 true], ()) = _ := L59_val _ (by simp)
 rw [h1, h2]
 simp only [Option.bind_some]
 rw [h3]
 simp only [Option.bind_some]
 unfold cpM
 by_cases hk : fstZ (-1) [kd m f n 0 false, kd m t n 0 true] = -1
 ·have hk2 : fstZ (-1) [kd m (f.1, f.2) n 0 false, kd m (t.1, t.2) n 0 true] = -1 := hk
  obtain ⟨k1, k2⟩ := fst2 hk
  have g1 : L57 (((), ((t.1, t.2), n, 0, true), ()), ((), u, ()), m, ()) = _ := L57_val (z1a k2) u 0 true
  have g2 : L57 (((), ((f.1, f.2), n, 0, false), ()), ((), u, ()), m, ()) = _ := L57_val (z1a k1) u 0 false
  rw [if_neg (by rw [hk2]; decide), if_pos hk, g1]
  simp only [Option.bind_some]
  rw [g2]
  simp only [Option.bind_some]
  rw [prt_cel m (f.1, f.2) n, show L60 (cel m (f.1, f.2) n, ()) = _ from L60_val (by have := cel_le hI f n; show (cel m f n).length ≤ _; omega)]
  simp only [Option.bind_some]
  have := prt_copy m t n (cel m f n) (cel_len (z1a k1))
  rw [← this]
 ·have hk2 : ¬ fstZ (-1) [kd m (f.1, f.2) n 0 false, kd m (t.1, t.2) n 0 true] = -1 := hk
  rw [if_pos (by rw [Bool.not_eq_true', beq_eq_false_iff_ne]; exact hk2), if_neg hk]
theorem cpM_stp {m : List Bp} (hI : Inv m) (t f : Int × Int) (n : Int) {u : Int} {hp : Prop} : Stp m u hp (cpM m t f n).2 u := by
 unfold cpM
 by_cases hk : fstZ (-1) [kd m f n 0 false, kd m t n 0 true] = -1
 ·rw [if_pos hk]
  obtain ⟨k1, k2⟩ := fst2 hk
  rcases cel_len (z1a k1) with h | ⟨_, h⟩
  ·by_cases h0 : n ≤ 0
   ·have : cel m f n = [] := List.eq_nil_of_length_eq_zero (by omega)
    rw [this, z2h]
    exact .same hI
   ·obtain ⟨p1, p2, p3, p4, p5, _⟩ := z2g (z1a k2 (by omega))
    have p5 : t.2 + n ≤ ((m.getD t.1.toNat dG).2.length : Int) := p5
    exact W_stp hI (by omega) (cel_wf hI f n)
  ·rw [h, z2h]
   exact .same hI
 ·rw [if_neg hk]
  exact .same hI
theorem L77_val {m : List Bp} (hI : Inv m) (u : Int) (t f : Int × Int) (n : Int) : L77 (((), t, f, n, ()), ((), u, ()), cv m, ()) = some (((), (cpM m t f n).1, ()), ((), u, ()), cv (cpM m t f n).2, ()) := by
 refine (F77_eq L110 t.1 t.2 f.1 f.2 n u (cv m)).trans ?_
 rw [z1h]
 have h1 : L110 ((cv m, u, ()), (f.1, f.2), n, 0, false, ()) = _ := z3X hI u f n 0 false
 have h2 : L110 ((cv m, u, ()), (t.1, t.2), n, 0, true, ()) = _ := z3X hI u t n 0 true
 rw [h1]
 simp only [Option.bind_some]
 unfold cpM
 by_cases k1 : kd m f n 0 false = -1
 ·have k1' : kd m (f.1, f.2) n 0 false = -1 := k1
  rw [if_neg (by rw [k1']; decide), h2]
  simp only [Option.bind_some]
  have e1 : fstZ (-1) [kd m f n 0 false, kd m t n 0 true] = kd m t n 0 true := by
   unfold fstZ
   rw [if_pos k1]
   unfold fstZ
   split
   ·rename_i q; rw [q]; rfl
   ·rfl
  rw [e1]
  by_cases k2 : kd m t n 0 true = -1
  ·have k2' : kd m (t.1, t.2) n 0 true = -1 := k2
   rw [if_neg (by rw [k2']; decide), if_pos k2]
   by_cases hn : n ≤ 0
   ·rw [if_neg (by rw [decide_eq_true_eq]; omega)]
    have : cel m f n = [] := by unfold cel; rw [if_pos hn]
    rw [this, z2h]
   ·obtain ⟨p1, p2, p3, p4, p5, _⟩ := z2g (z1a k1 (by omega))
    obtain ⟨r1, r2, r3, r4, r5, _⟩ := z2g (z1a k2 (by omega))
    have hBf := (hI.at f.1.toNat).1
    have hBt := (hI.at t.1.toNat).1
    have p4 : f.2 ≤ ((m.getD f.1.toNat dB).2.length : Int) := p4
    have p5 : f.2 + n ≤ ((m.getD f.1.toNat dB).2.length : Int) := p5
    have r4 : t.2 ≤ ((m.getD t.1.toNat dB).2.length : Int) := r4
    have r5 : t.2 + n ≤ ((m.getD t.1.toNat dB).2.length : Int) := r5
    have hgf := z2e (m := m) (k := f.1.toNat) (by omega)
    have hgt := z2e (m := m) (k := t.1.toNat) (by omega)
    have hlf : ((cv m).getD f.1.toNat ((0, 0, false, false), [])).2.length = (m.getD f.1.toNat dB).2.length := by rw [show (cv m).getD f.1.toNat ((0, 0, false, false), []) = _ from hgf]; simp [cvB]
    have hlt : ((cv m).getD t.1.toNat ((0, 0, false, false), [])).2.length = (m.getD t.1.toNat dB).2.length := by rw [show (cv m).getD t.1.toNat ((0, 0, false, false), []) = _ from hgt]; simp [cvB]
    have e : List.take ((f.2 + n).toNat - f.2.toNat) (List.drop (0 + f.2.toNat) ((cv m).getD f.1.toNat ((0, 0, false, false), [])).2) = (cel m f n).map cvC := by
     rw [show (cv m).getD f.1.toNat ((0, 0, false, false), []) = _ from hgf]
     unfold cel cvB
     rw [if_neg hn, List.map_take, List.map_drop, Nat.zero_add, show (f.2 + n).toNat - f.2.toNat = n.toNat by omega]
    have hlc : (cel m f n).length = n.toNat := by rcases cel_len (z1a k1) with h | ⟨h, _⟩ <;> omega
    have q2 : f.1 < ((cv m).length : Int) := by rw [z0z]; exact p2
    have s2 : t.1 < ((cv m).length : Int) := by rw [z0z]; exact r2
    have q5 : f.2 + n ≤ (((cv m).getD f.1.toNat ((0, 0, false, false), [])).2.length : Int) := by rw [hlf]; exact p5
    have s4 : t.2 ≤ (((cv m).getD t.1.toNat ((0, 0, false, false), [])).2.length : Int) := by rw [hlt]; exact r4
    rw [if_pos (by rw [decide_eq_true_eq]; omega), if_pos p1, if_pos q2, if_pos p3, wi (by omega) (by omega), if_pos (by omega), if_pos q5, e, if_pos (by rw [List.length_map, hlc]; omega), if_pos r1, if_pos s2, if_pos r3, if_pos s4, if_pos (Int.le_refl _), ref_copy]
    ·rw [cv_W (by omega)]
    ·show t.2.toNat + ((cel m f n).map cvC).length ≤ ((cv m).getD t.1.toNat ((0, 0, false, false), [])).2.length
     rw [hlt, List.length_map, hlc]
     omega
  ·have k2' : ¬ kd m (t.1, t.2) n 0 true = -1 := k2
   rw [if_pos (by rw [Bool.not_eq_true', beq_eq_false_iff_ne]; exact k2'), if_neg k2]
 ·have k1' : ¬ kd m (f.1, f.2) n 0 false = -1 := k1
  have e1 : fstZ (-1) [kd m f n 0 false, kd m t n 0 true] = kd m f n 0 false := by
   unfold fstZ
   rw [if_neg k1]
  rw [if_pos (by rw [Bool.not_eq_true', beq_eq_false_iff_ne]; exact k1'), e1, if_neg k1]
end Go.Proofs.Rf
namespace Go.Proofs.Rf
open Go Go.RowKit
theorem map_zC (n : Nat) : (List.replicate n zC).map cvC = List.replicate n zK := by
 rw [List.map_replicate]
 rfl
theorem cvB_len (b : Bp) : (cvB b).2.length = b.2.length := by simp [cvB]
theorem z5l {m : List Bp} {k : Nat} (h : k < m.length) : ((cv m).getD k ((0, 0, false, false), [])).2.length = (m.getD k dB).2.length := by
 rw [show (cv m).getD k ((0, 0, false, false), []) = _ from z2e h, cvB_len]
def erM (m : List Bp) (a : Int × Int) (n : Int) : Int × List Bp := if kd m a n 0 true = -1 then (-1, Wg m a.1.toNat a.2.toNat (List.replicate n.toNat zC)) else (kd m a n 0 true, m)
theorem L20_val {m : List Bp} (hI : Inv m) (u : Int) (a : Int × Int) (n : Int) : L20 (((), a, n, ()), ((), u, ()), m, ()) = some (((), (erM m a n).1, ()), ((), u, ()), (erM m a n).2, ()) := by
 refine (F20_eq L55 L57 a.1 a.2 n u m).trans ?_
 rw [z1h]
 have h1 : L55 ((m, u, ()), ((a.1, a.2), n, 0, true), ()) = _ := z5S hI u a n 0 true
 rw [h1]
 simp only [Option.bind_some]
 unfold erM
 by_cases hk : kd m a n 0 true = -1
 ·have hk2 : kd m (a.1, a.2) n 0 true = -1 := hk
  have g1 : L57 (((), ((a.1, a.2), n, 0, true), ()), ((), u, ()), m, ()) = _ := L57_val (z1a hk) u 0 true
  rw [if_neg (by rw [hk2]; decide), if_pos hk, g1]
  simp only [Option.bind_some]
  unfold prt
  by_cases hn : n ≤ 0
  ·have e : List.replicate n.toNat zC = [] := by rw [show n.toNat = 0 by omega]; rfl
   rw [if_pos hn, e, z2h]
   have := z2h m 0 0
   show some (((), -1, ()), ((), u, ()), Wg m 0 0 [], ()) = _
   rw [this]
  ·rw [if_neg hn]
   have : (List.replicate n.toNat zC).length = n.toNat := by simp
   unfold Wg
   rw [this]
 ·have hk2 : ¬ kd m (a.1, a.2) n 0 true = -1 := hk
  rw [if_pos (by rw [Bool.not_eq_true', beq_eq_false_iff_ne]; exact hk2), if_neg hk]
theorem erM_stp {m : List Bp} (hI : Inv m) (a : Int × Int) (n : Int) {u : Int} {hp : Prop} : Stp m u hp (erM m a n).2 u := by
 unfold erM
 by_cases hk : kd m a n 0 true = -1
 ·rw [if_pos hk]
  by_cases hn : n ≤ 0
  ·have e : List.replicate n.toNat zC = [] := by rw [show n.toNat = 0 by omega]; rfl
   rw [e, z2h]
   exact .same hI
  ·obtain ⟨p1, p2, p3, p4, p5, _⟩ := z2g (z1a hk (by omega))
   have p5 : a.2 + n ≤ ((m.getD a.1.toNat dG).2.length : Int) := p5
   refine W_stp hI (by rw [List.length_replicate]; omega) fun c hc => ?_
   rw [List.mem_replicate] at hc
   exact .inl hc.2
 ·rw [if_neg hk]
  exact .same hI
theorem L78_val {m : List Bp} (hI : Inv m) (u : Int) (a : Int × Int) (n : Int) : L78 (((), a, n, ()), ((), u, ()), cv m, ()) = some (((), (erM m a n).1, ()), ((), u, ()), cv (erM m a n).2, ()) := by
 refine (F78_eq L110 Lg78_5 a.1 a.2 n u (cv m)).trans ?_
 rw [z1h]
 have h1 : L110 ((cv m, u, ()), (a.1, a.2), n, 0, true, ()) = _ := z3X hI u a n 0 true
 rw [h1]
 simp only [Option.bind_some]
 unfold erM
 by_cases hk : kd m a n 0 true = -1
 ·have hk2 : kd m (a.1, a.2) n 0 true = -1 := hk
  rw [if_neg (by rw [hk2]; decide), if_pos hk]
  have hg : Lg78_5 (((), n, (), 0, ()), ((), u, ()), (a.1, a.2, ()), cv m, ()) = some (((), ()), ((), u, ()), cv (Wg m a.1.toNat a.2.toNat (List.replicate n.toNat zC)), ()) := by
   by_cases hn : n ≤ 0
   ·have e : List.replicate n.toNat zC = [] := by rw [show n.toNat = 0 by omega]; rfl
    rw [e, z2h]
    exact z1r ((S78_5_eq n 0 u a.1 a.2 (cv m)).trans (if_neg (by rw [decide_eq_true_eq]; omega)))
   ·obtain ⟨p1, p2, p3, p4, p5, _⟩ := z2g (z1a hk (by omega))
    have hB := (hI.at a.1.toNat).1
    have p5 : a.2 + n ≤ ((m.getD a.1.toNat dB).2.length : Int) := p5
    have hk' : a.1.toNat < m.length := by omega
    rw [cv_W hk', map_zC]
    obtain ⟨z, h1, rfl⟩ := z0K (f := S78_5) (fun t => n.toNat - t.1.2.2.2.1.toNat)
     (fun t => ∃ i : Nat, i ≤ n.toNat ∧ t = (((), n, (), (i : Int), ()), ((), u, ()), (a.1, a.2, ()), Wg (cv m) a.1.toNat a.2.toNat (List.replicate i zK), ()))
     (fun z => z = (((), ()), ((), u, ()), Wg (cv m) a.1.toNat a.2.toNat (List.replicate n.toNat zK), ())) (by
     rintro t ⟨i, hi, rfl⟩
     rw [S78_5_eq]
     have hlen : ((Wg (cv m) a.1.toNat a.2.toNat (List.replicate i zK)).getD a.1.toNat ((0, 0, false, false), [])).2.length = (m.getD a.1.toNat dB).2.length := by
      rw [show (Wg (cv m) a.1.toNat a.2.toNat (List.replicate i zK)).getD a.1.toNat ((0, 0, false, false), []) = _ from Wg_get (by rw [z0z]; exact hk') _ _]
      have := z5l hk'
      have this : ((cv m).getD a.1.toNat dG).2.length = (m.getD a.1.toNat dB).2.length := this
      simp only [List.length_append, List.length_take, List.length_drop, List.length_replicate, this]
      omega
     by_cases h : i < n.toNat
     ·have q2 : a.1 < ((Wg (cv m) a.1.toNat a.2.toNat (List.replicate i zK)).length : Int) := by rw [z7H, z0z]; exact p2
      rw [if_pos (by rw [decide_eq_true_eq]; omega), if_pos p1, if_pos q2, wi (n := a.2 + (i : Int)) (by omega) (by omega), if_pos (by omega), if_pos (by rw [hlen]; omega), wi (by omega) (by omega)]
      refine .inl ⟨_, rfl, ⟨i + 1, by omega, ?_⟩, ?_⟩
      ·have hs := Wg_step (m := cv m) (k := a.1.toNat) (off := a.2.toNat) (cs := List.replicate i zK) (by rw [z0z]; exact hk') (by
        have := z5l hk'
        have this : ((cv m).getD a.1.toNat dG).2.length = (m.getD a.1.toNat dB).2.length := this
        rw [this, List.length_replicate]; omega) zK
       rw [List.length_replicate, ← List.replicate_succ'] at hs
       rw [show ((i : Int) + 1) = ((i + 1 : Nat) : Int) by omega, ← hs, show 0 + (a.2 + (i : Int)).toNat = a.2.toNat + i by omega]
      ·show n.toNat - ((i : Int) + 1).toNat < n.toNat - (i : Int).toNat
       omega
     ·have : i = n.toNat := by omega
      subst this
      rw [if_neg (by rw [decide_eq_true_eq]; omega)]
      exact .inr ⟨_, rfl, rfl⟩) (((), n, (), ((0 : Nat) : Int), ()), ((), u, ()), (a.1, a.2, ()), Wg (cv m) a.1.toNat a.2.toNat (List.replicate 0 zK), ()) ⟨0, by omega, rfl⟩
    rw [show List.replicate 0 zK = [] from rfl, z2h] at h1
    exact h1
  rw [hg]
  rfl
 ·have hk2 : ¬ kd m (a.1, a.2) n 0 true = -1 := hk
  rw [if_pos (by rw [Bool.not_eq_true', beq_eq_false_iff_ne]; exact hk2), if_neg hk]
def rdM (m : List Bp) (a : Int × Int) (n : Int) : Int × List Int :=
 if n > 65536 then (14, []) else if kd m a n 0 false = -1 then (if all1 (cel m a n) = true then (-1, (cel m a n).map (·.2.1)) else (13, [])) else (kd m a n 0 false, [])
theorem L85_val {l : List Cl} (hl : l.length ≤ 65536) : L85 (l, (), ()) = some ((!all1 l, ()), ()) := by
 refine (F85_eq L114 l).trans ?_
 have h : ∃ i : Int, L114 (l, (), ()) = some ((i, ()), ()) ∧ (decide (i ≥ 0)) = !all1 l := by
  have e : L114 (l, (), ()) = _ := F114_eq Lg114_2 l
  obtain ⟨z, h1, h2⟩ := z0K (f := S114_2 L86) (fun t => l.length - t.1.2.2.2.1.toNat)
   (fun t => ∃ i : Nat, i ≤ l.length ∧ t = ((l, (), (l.length : Int), (i : Int), ()), ()) ∧ all1 l = all1 (l.drop i))
   (fun z => (∃ i : Nat, z = .inl (((i : Int), ()), ()) ∧ all1 l = false) ∨ (z = .inr ((), ()) ∧ all1 l = true)) (by
   rintro t ⟨i, hi, rfl, ha⟩
   rw [S114_2_eq]
   by_cases h : i < l.length
   ·rw [drop_cons h] at ha
    unfold all1 at ha
    rw [List.all_cons] at ha
    rw [if_pos (by rw [decide_eq_true_eq]; omega), if_pos (by omega), if_pos (by omega), Int.toNat_natCast]
    have h86 : L86 (((l.getD i zC).1, (l.getD i zC).2.1, (l.getD i zC).2.2.1, (l.getD i zC).2.2.2), ()) = some ((!(l.getD i zC).1 == 1, ()), ()) := F86_eq _ _ _ _
    rw [show L86 (((l.getD i ((0, 0, 0, 0) : Int × Int × Int × Int)).1, (l.getD i ((0, 0, 0, 0) : Int × Int × Int × Int)).2.1, (l.getD i ((0, 0, 0, 0) : Int × Int × Int × Int)).2.2.1, (l.getD i ((0, 0, 0, 0) : Int × Int × Int × Int)).2.2.2), ()) = _ from h86]
    simp only [Option.bind_some]
    cases hc : ((l.getD i zC).1 == 1) with
    | true =>
     rw [hc, Bool.true_and] at ha
     rw [if_neg (by decide), wi (by omega) (by omega)]
     refine .inl ⟨_, rfl, ⟨i + 1, by omega, rfl, ha⟩, ?_⟩
     show l.length - ((i : Int) + 1).toNat < l.length - (i : Int).toNat
     omega
    | false =>
     rw [hc, Bool.false_and] at ha
     have ha : all1 l = false := ha
     rw [if_pos (by decide)]
     exact .inr ⟨_, rfl, .inl ⟨i, rfl, ha⟩⟩
   ·rw [List.drop_of_length_le (by omega)] at ha
    have ha : all1 l = true := ha
    rw [if_neg (by rw [decide_eq_true_eq]; omega)]
    exact .inr ⟨_, rfl, .inr ⟨rfl, ha⟩⟩) ((l, (), (l.length : Int), ((0 : Nat) : Int), ()), ()) ⟨0, by omega, rfl, by rw [List.drop_zero]⟩
  have h1 : Lg114_2 ((l, (), (l.length : Int), 0, ()), ()) = some z := h1
  rw [h1] at e
  rcases h2 with ⟨i, rfl, ha⟩ | ⟨rfl, ha⟩
  ·exact ⟨(i : Int), e, by rw [ha, decide_eq_true (show (i : Int) ≥ 0 by omega)]; rfl⟩
  ·exact ⟨-1, e, by rw [ha]; rfl⟩
 obtain ⟨i, h1, h2⟩ := h
 rw [h1]
 simp only [Option.bind_some]
 rw [h2]
theorem L87_val {l : List Cl} (hl : l.length ≤ 65536) : L87 (l, (), ()) = some (((), ()), l.map (·.2.1), ()) := by
 refine (F87_eq Lg87_3 l).trans ?_
 obtain ⟨z, h1, rfl⟩ := z0K (f := S87_3 L88) (fun t => l.length - t.1.2.2.2.2.1.toNat)
  (fun t => ∃ i : Nat, i ≤ l.length ∧ t = (((), (), l, (l.length : Int), (i : Int), ()), (l.take i).map (·.2.1), ()))
  (fun z => z = (((), ()), l.map (·.2.1), ())) (by
  rintro t ⟨i, hi, rfl⟩
  rw [S87_3_eq]
  by_cases h : i < l.length
  ·have h88 : L88 (((l.getD i zC).1, (l.getD i zC).2.1, (l.getD i zC).2.2.1, (l.getD i zC).2.2.2), ()) = some (((l.getD i zC).2.1, ()), ()) := F88_eq _ _ _ _
   rw [if_pos (by rw [decide_eq_true_eq]; omega), if_pos (by omega), if_pos (by omega), Int.toNat_natCast, show L88 (((l.getD i ((0, 0, 0, 0) : Int × Int × Int × Int)).1, (l.getD i ((0, 0, 0, 0) : Int × Int × Int × Int)).2.1, (l.getD i ((0, 0, 0, 0) : Int × Int × Int × Int)).2.2.1, (l.getD i ((0, 0, 0, 0) : Int × Int × Int × Int)).2.2.2), ()) = _ from h88]
   simp only [Option.bind_some]
   rw [if_pos (by simp; omega), wi (by omega) (by omega)]
   refine .inl ⟨_, rfl, ⟨i + 1, by omega, ?_⟩, ?_⟩
   ·rw [← z4C (d := zC) h, List.map_append]
    rfl
   ·show l.length - ((i : Int) + 1).toNat < l.length - (i : Int).toNat
    omega
  ·rw [if_neg (by rw [decide_eq_true_eq]; omega), List.take_of_length_le (by omega)]
   exact .inr ⟨_, rfl, rfl⟩) (((), (), l, (l.length : Int), ((0 : Nat) : Int), ()), (l.take 0).map (·.2.1), ()) ⟨0, by omega, rfl⟩
 have h1 : Lg87_3 (((), (), l, (l.length : Int), 0, ()), [], ()) = _ := h1
 rw [h1]
 rfl
theorem L42_val {m : List Bp} (hI : Inv m) (u : Int) (a : Int × Int) (n : Int) : L42 ((m, u, ()), a, n, ()) = some (((), (rdM m a n).1, ()), (rdM m a n).2, ()) := by
 refine (F42_eq L55 L57v L85 L87 m u a.1 a.2 n).trans ?_
 unfold rdM
 by_cases h : n > 65536
 ·rw [if_pos (decide_eq_true h), if_pos h]
 ·have h1 : L55 ((m, u, ()), ((a.1, a.2), n, 0, false), ()) = _ := z5S hI u a n 0 false
  rw [if_neg (by rw [decide_eq_true_eq]; exact h), if_neg h, h1]
  simp only [Option.bind_some]
  by_cases hk : kd m a n 0 false = -1
  ·have hk2 : kd m (a.1, a.2) n 0 false = -1 := hk
   have g1 : L57v ((m, u, ()), ((a.1, a.2), n, 0, false), ()) = _ := L57v_val (z1a hk) u 0 false
   rw [if_neg (by rw [hk2]; decide), if_pos hk, g1]
   simp only [Option.bind_some]
   rw [show L85 (cel m (a.1, a.2) n, (), ()) = _ from L85_val (cel_le hI a n)]
   simp only [Option.bind_some]
   cases ha : all1 (cel m (a.1, a.2) n) with
   | true =>
    rw [if_neg (by decide), if_pos rfl, show L87 (cel m (a.1, a.2) n, (), ()) = _ from L87_val (cel_le hI a n)]
    rfl
   | false =>
    rw [if_pos (by decide), if_neg (by decide)]
  ·have hk2 : ¬ kd m (a.1, a.2) n 0 false = -1 := hk
   rw [if_pos (by rw [Bool.not_eq_true', beq_eq_false_iff_ne]; exact hk2), if_neg hk]
theorem L79_val {m : List Bp} (hI : Inv m) (u : Int) (a : Int × Int) (n : Int) : L79 ((cv m, u, ()), a, n, ()) = some (((), (rdM m a n).1, ()), (rdM m a n).2, ()) := by
 refine (F79_eq L110 Lg79_8 (cv m) u a.1 a.2 n).trans ?_
 unfold rdM
 by_cases h : n > 65536
 ·rw [if_pos (decide_eq_true h), if_pos h]
 ·have h1 : L110 ((cv m, u, ()), (a.1, a.2), n, 0, false, ()) = _ := z3X hI u a n 0 false
  rw [if_neg (by rw [decide_eq_true_eq]; exact h), if_neg h, h1]
  simp only [Option.bind_some]
  by_cases hk : kd m a n 0 false = -1
  ·have hk2 : kd m (a.1, a.2) n 0 false = -1 := hk
   rw [if_neg (by rw [hk2]; decide), if_pos hk]
   have hg : Lg79_8 (((cv m, u, ()), n, (), (), 0, ()), (a.1, a.2, ()), [], ()) = some (if all1 (cel m a n) = true then .inr (((), ()), (cel m a n).map (·.2.1), ()) else .inl (((), 13, ()), ())) := by
    by_cases hn : n ≤ 0
    ·have e : cel m a n = [] := by unfold cel; rw [if_pos hn]
     rw [e]
     exact z1r ((S79_8_eq (cv m) u n 0 a.1 a.2 []).trans (if_neg (by rw [decide_eq_true_eq]; omega)))
    ·obtain ⟨p1, p2, p3, p4, p5, _⟩ := z2g (z1a hk (by omega))
     have hB := (hI.at a.1.toNat).1
     have p5 : a.2 + n ≤ ((m.getD a.1.toNat dB).2.length : Int) := p5
     have hk' : a.1.toNat < m.length := by omega
     have hlc : (cel m a n).length = n.toNat := by rcases cel_len (z1a hk) with h | ⟨h, _⟩ <;> omega
     have hget : ∀ i : Nat, i < n.toNat → (((cv m).getD a.1.toNat ((0, 0, false, false), [])).2.getD (a.2.toNat + i) zK) = cvC ((cel m a n).getD i zC) := by
      intro i hi
      rw [show (cv m).getD a.1.toNat ((0, 0, false, false), []) = _ from z2e hk']
      unfold cvB
      have hlt : a.2.toNat + i < (m.getD a.1.toNat dB).2.length := by omega
      rw [cv_get hlt]
      congr 1
      unfold cel
      rw [if_neg hn]
      have e1 : i < (List.take n.toNat (List.drop a.2.toNat (m.getD a.1.toNat dG).2)).length := by
       have : (m.getD a.1.toNat dG).2.length = (m.getD a.1.toNat dB).2.length := rfl
       rw [List.length_take, List.length_drop]
       omega
      rw [z1S zC hlt, z1S zC e1, List.getElem_take, List.getElem_drop]
     obtain ⟨z, h1, rfl⟩ := z0K (f := S79_8) (fun t => n.toNat - t.1.2.2.2.2.1.toNat)
      (fun t => ∃ i : Nat, i ≤ n.toNat ∧ t = (((cv m, u, ()), n, (), (), (i : Int), ()), (a.1, a.2, ()), ((cel m a n).take i).map (·.2.1), ()) ∧ all1 (cel m a n) = all1 ((cel m a n).drop i))
      (fun z => z = (if all1 (cel m a n) = true then .inr (((), ()), (cel m a n).map (·.2.1), ()) else .inl (((), 13, ()), ()))) (by
      rintro t ⟨i, hi, rfl, ha⟩
      rw [S79_8_eq]
      by_cases h : i < n.toNat
      ·rw [drop_cons (by omega)] at ha
       unfold all1 at ha
       rw [List.all_cons] at ha
       have q2 : a.1 < ((cv m).length : Int) := by rw [z0z]; exact p2
       rw [if_pos (by rw [decide_eq_true_eq]; omega), if_pos p1, if_pos q2, wi (n := a.2 + (i : Int)) (by omega) (by omega), if_pos (by omega), if_pos (by rw [z5l hk']; omega), show (a.2 + (i : Int)).toNat = a.2.toNat + i by omega]
       rw [show List.getD ((cv m).getD a.1.toNat ((0, 0, false, false), [])).2 (a.2.toNat + i) ((0, 0, (0, 0), 0) : Int × Int × (Int × Int) × Int) = _ from hget i h, z2G]
       cases hc : (((cel m a n).getD i zC).1 == 1) with
       | true =>
        rw [hc, Bool.true_and] at ha
        rw [if_neg (by decide), if_pos (by simp; omega), wi (by omega) (by omega), cvC_num (by rwa [beq_iff_eq] at hc)]
        refine .inl ⟨_, rfl, ⟨i + 1, by omega, ?_, ha⟩, ?_⟩
        ·rw [← z4C (d := zC) (by omega : i < (cel m a n).length), List.map_append]
         rfl
        ·show n.toNat - ((i : Int) + 1).toNat < n.toNat - (i : Int).toNat
         omega
       | false =>
        rw [hc, Bool.false_and] at ha
        have ha : all1 (cel m a n) = false := ha
        rw [if_pos (by decide), ha]
        exact .inr ⟨_, rfl, rfl⟩
      ·rw [List.drop_of_length_le (by omega)] at ha
       have ha : all1 (cel m a n) = true := ha
       rw [if_neg (by rw [decide_eq_true_eq]; omega), List.take_of_length_le (by omega), if_pos ha]
       exact .inr ⟨_, rfl, rfl⟩) (((cv m, u, ()), n, (), (), ((0 : Nat) : Int), ()), (a.1, a.2, ()), ((cel m a n).take 0).map (·.2.1), ()) ⟨0, by omega, rfl, by rw [List.drop_zero]⟩
     exact h1
   rw [hg]
   by_cases ha : all1 (cel m a n) = true
   ·simp only [if_pos ha]
    rfl
   ·simp only [if_neg ha]
    rfl
  ·have hk2 : ¬ kd m (a.1, a.2) n 0 false = -1 := hk
   rw [if_pos (by rw [Bool.not_eq_true', beq_eq_false_iff_ne]; exact hk2), if_neg hk]
end Go.Proofs.Rf
namespace Go.Proofs.Rf
open Go Go.RowKit
def eIni (m : List Bp) (n off many : Int) : Int :=
 if z6l m n = 0 then (if off < 0 ∨ ((m.getD n.toNat dB).2.length : Int) < off ∨ ((m.getD n.toNat dB).2.length : Int) - off < many then 26 else 0) else z6l m n
theorem eIni_0 {m : List Bp} {n off many : Int} (h : eIni m n off many = 0) : 0 ≤ n ∧ n < m.length ∧ 0 ≤ off ∧ off ≤ (m.getD n.toNat dB).2.length ∧ off + many ≤ (m.getD n.toNat dB).2.length := by
 unfold eIni at h
 split at h
 ·rename_i hl
  obtain ⟨p1, p2⟩ := z7x hl
  split at h
  ·cases h
  ·omega
 ·contradiction
theorem L89_val {m : List Bp} (hI : Inv m) (u : Int) (n off : Int) {many : Int} (h0 : 0 ≤ many) :
  L89 (((), n, off, many, ()), ((), u, ()), m, ()) = some (((), (if eIni m n off many = 0 then (n.toNat, off.toNat, many.toNat) else (0, 0, 0)), eIni m n off many, ()), ((), u, ()), m, ()) := by
 refine (F89_eq L84 n off many u m).trans ?_
 rw [show L84 ((m, u, ()), n, ()) = _ from L84_val m u n]
 simp only [Option.bind_some]
 unfold eIni
 by_cases hl : z6l m n = 0
 ·obtain ⟨p1, p2⟩ := z7x hl
  have hB := (hI.at n.toNat).1
  have hB : (m.getD n.toNat ((0, 0, false, false), [])).2.length ≤ 65536 := hB
  rw [if_neg (by rw [hl]; decide)]
  simp only [if_pos hl]
  rw [if_pos p1, if_pos p2]
  by_cases h1 : off < 0
  ·rw [if_pos (decide_eq_true h1), if_pos (show off < 0 ∨ _ from .inl h1), if_neg (by decide)]
  ·rw [if_neg (by rw [decide_eq_true_eq]; exact h1)]
   by_cases h2 : ((m.getD n.toNat ((0, 0, false, false), [])).2.length : Int) < off
   ·rw [if_pos (decide_eq_true h2), if_pos (show off < 0 ∨ ((m.getD n.toNat dB).2.length : Int) < off ∨ _ from .inr (.inl h2)), if_neg (by decide)]
   ·rw [if_neg (by rw [decide_eq_true_eq]; exact h2), wi (by omega) (by omega)]
    by_cases h3 : ((m.getD n.toNat ((0, 0, false, false), [])).2.length : Int) - off < many
    ·rw [if_pos (decide_eq_true h3), if_pos (show off < 0 ∨ ((m.getD n.toNat dB).2.length : Int) < off ∨ ((m.getD n.toNat dB).2.length : Int) - off < many from .inr (.inr h3)), if_neg (by decide)]
    ·have hno : ¬ (off < 0 ∨ ((m.getD n.toNat dB).2.length : Int) < off ∨ ((m.getD n.toNat dB).2.length : Int) - off < many) := by
      rintro (q | q | q)
      ·exact h1 q
      ·exact h2 q
      ·exact h3 q
     rw [if_neg (by rw [decide_eq_true_eq]; exact h3), if_neg hno, if_pos rfl, if_pos (by omega), if_pos (by omega), if_pos (Int.le_refl _), if_pos trivial, if_pos h0]
     refine (if_pos (by omega)).trans ?_
     rw [Nat.zero_add]
 ·rw [if_pos (by rw [Bool.not_eq_true', beq_eq_false_iff_ne]; exact hl)]
  simp only [if_neg hl]
theorem fst2z (x y : Int) : fstZ 0 [x, y] = if x = 0 then y else x := by
 unfold fstZ
 split
 ·unfold fstZ
  split
  ·rename_i q; rw [q]; rfl
  ·rfl
 ·rfl
def pc (b : List Int) (un : List Bool) (i : Nat) : Cl := if 0 < un.length ∧ un.getD i false = true then zC else (1, b.getD i 0, 0, 0)
def puE (m : List Bp) (n off : Int) (b : List Int) (un : List Bool) : Int := fstZ 0 [eIni m n off b.length, if 0 < un.length ∧ un.length ≠ b.length then 2 else 0]
def puM (m : List Bp) (n off : Int) (b : List Int) (un : List Bool) : Int × List Bp := if puE m n off b un = 0 then (0, Wg m n.toNat off.toNat ((List.range b.length).map (pc b un))) else (puE m n off b un, m)
theorem puE_0 {m : List Bp} {n off : Int} {b : List Int} {un : List Bool} (h : puE m n off b un = 0) : eIni m n off b.length = 0 ∧ (0 < un.length → un.length = b.length) := by
 unfold puE at h
 rw [fst2z] at h
 by_cases h1 : eIni m n off b.length = 0
 ·rw [if_pos h1] at h
  refine ⟨h1, fun q => Decidable.byContradiction fun q2 => ?_⟩
  rw [if_pos ⟨q, q2⟩] at h
  cases h
 ·rw [if_neg h1] at h
  exact absurd h h1
theorem pc_wf (b : List Int) (un : List Bool) (i : Nat) : wfC (pc b un i) := by
 unfold pc
 split
 ·exact .inl rfl
 ·exact .inr (.inl ⟨rfl, rfl⟩)
theorem puM_stp {m : List Bp} (hI : Inv m) (n off : Int) (b : List Int) (un : List Bool) {u : Int} {hp : Prop} : Stp m u hp (puM m n off b un).2 u := by
 unfold puM
 split
 ·rename_i h
  obtain ⟨h1, _⟩ := puE_0 h
  obtain ⟨_, _, p3, p4, p5⟩ := eIni_0 h1
  have p5 : off + (b.length : Int) ≤ ((m.getD n.toNat dG).2.length : Int) := p5
  refine W_stp hI (by rw [List.length_map, List.length_range]; omega) fun c hc => ?_
  obtain ⟨i, _, rfl⟩ := List.mem_map.1 hc
  exact pc_wf b un i
 ·exact .same hI
theorem Lg43_6_val {m : List Bp} (u : Int) {n off : Nat} {b : List Int} {un : List Bool} (hb : b.length ≤ 1000) (hu : 0 < un.length → un.length = b.length) (hn : n < m.length) (ho : off + b.length ≤ (m.getD n dG).2.length) :
  Lg43_6 (((), un, (n, off, b.length), b, (b.length : Int), 0, ()), ((), u, ()), m, ()) = some (((), ()), ((), u, ()), Wg m n off ((List.range b.length).map (pc b un)), ()) := by
 obtain ⟨z, h1, rfl⟩ := z0K (f := S43_6) (fun t => b.length - t.1.2.2.2.2.2.1.toNat)
  (fun t => ∃ i : Nat, i ≤ b.length ∧ t = (((), un, (n, off, b.length), b, (b.length : Int), (i : Int), ()), ((), u, ()), Wg m n off ((List.range i).map (pc b un)), ()))
  (fun z => z = (((), ()), ((), u, ()), Wg m n off ((List.range b.length).map (pc b un)), ())) (by
  rintro t ⟨i, hi, rfl⟩
  rw [S43_6_eq]
  by_cases h : i < b.length
  ·have q1 : (0 : Int) ≤ (i : Int) := by omega
   have q2 : (i : Int) < (b.length : Int) := by omega
   have hs := fun c => Wg_step (m := m) (k := n) (off := off) (cs := (List.range i).map (pc b un)) hn (by rw [List.length_map, List.length_range]; omega) c
   rw [List.length_map, List.length_range] at hs
   have hW : Wg m n off ((List.range i).map (pc b un) ++ [pc b un i]) = Wg m n off ((List.range (i + 1)).map (pc b un)) := by
    rw [List.range_succ, List.map_append]
    rfl
   rw [if_pos (decide_eq_true q2)]
   simp only [if_pos q1, if_pos q2, Int.toNat_natCast]
   rw [wi (by omega) (by omega)]
   refine .inl ⟨(((), un, (n, off, b.length), b, (b.length : Int), ((i + 1 : Nat) : Int), ()), ((), u, ()), Wg m n off ((List.range (i + 1)).map (pc b un)), ()), ?_, ⟨i + 1, by omega, rfl⟩, ?_⟩
   ·rw [← hW, ← hs (pc b un i)]
    by_cases h0 : 0 < un.length
    ·have hul := hu h0
     have q3 : (i : Int) < (un.length : Int) := by omega
     rw [if_pos (by rw [decide_eq_true_eq]; omega), if_pos q3]
     by_cases hun : un.getD i false = true
     ·have hpc : pc b un i = zC := by unfold pc; rw [if_pos ⟨h0, hun⟩]
      rw [if_pos hun, hpc]
      have hg : (Wg m n off ((List.range i).map (pc b un))).length = m.length := z7H _ _ _ _
      have e := fun X => z6r (Wg m n off ((List.range i).map (pc b un))) n n X dB (by rw [hg]; exact hn)
      have e := fun X => (e X).trans (if_pos rfl)
      simp only [e, List.set_set]
      rfl
     ·have hpc : pc b un i = (1, b.getD i 0, 0, 0) := by unfold pc; rw [if_neg fun q => hun q.2]
      rw [if_neg hun, hpc]
      rfl
    ·have hpc : pc b un i = (1, b.getD i 0, 0, 0) := by unfold pc; rw [if_neg fun q => h0 q.1]
     rw [if_neg (by rw [decide_eq_true_eq]; omega), hpc]
     rfl
   ·show b.length - ((i + 1 : Nat) : Int).toNat < b.length - (i : Int).toNat
    omega
  ·have : i = b.length := by omega
   subst this
   rw [if_neg (by rw [decide_eq_true_eq]; omega)]
   exact .inr ⟨_, rfl, rfl⟩) (((), un, (n, off, b.length), b, (b.length : Int), ((0 : Nat) : Int), ()), ((), u, ()), Wg m n off ((List.range 0).map (pc b un)), ()) ⟨0, by omega, rfl⟩
 rw [show (List.range 0).map (pc b un) = [] from rfl, z2h] at h1
 exact h1
theorem L43_val {m : List Bp} (hI : Inv m) (u : Int) (n off : Int) {b : List Int} {un : List Bool} (hb : b.length ≤ 1000) : L43 (((), n, off, b, un, ()), ((), u, ()), m, ()) = some (((), (puM m n off b un).1, ()), ((), u, ()), (puM m n off b un).2, ()) := by
 refine (F43_eq L48 L49 L89 Lg43_6 n off b un u m).trans ?_
 rw [z1h]
 have h89 : L89 (((), n, off, (b.length : Int), ()), ((), u, ()), m, ()) = _ := L89_val hI u n off (by omega)
 rw [h89]
 simp only [Option.bind_some]
 have key : ∀ e2 : Int, e2 = (if 0 < un.length ∧ un.length ≠ b.length then 2 else 0) → ((L48 ([eIni m n off b.length, e2], ())).bind fun y =>
   if (!y.1.1 == 0) = true then some (((), y.1.1, ()), ((), u, ()), m, ())
   else (Lg43_6 (((), un, ((if eIni m n off b.length = 0 then (n.toNat, off.toNat, (b.length : Int).toNat) else (0, 0, 0)).1, (if eIni m n off b.length = 0 then (n.toNat, off.toNat, (b.length : Int).toNat) else (0, 0, 0)).2.1, (if eIni m n off b.length = 0 then (n.toNat, off.toNat, (b.length : Int).toNat) else (0, 0, 0)).2.2), b, (b.length : Int), 0, ()), ((), u, ()), m, ())).bind fun y => some (((), 0, ()), ((), y.2.1.2.1, ()), y.2.2.1, ()) : Option rs43.den) = some (((), (puM m n off b un).1, ()), ((), u, ()), (puM m n off b un).2, ()) := by
  rintro e2 rfl
  rw [show L48 ([eIni m n off b.length, if 0 < un.length ∧ un.length ≠ b.length then 2 else 0], ()) = some ((puE m n off b un, ()), ()) from L48_val _ (by simp)]
  simp only [Option.bind_some]
  unfold puM
  by_cases h : puE m n off b un = 0
  ·obtain ⟨h1, h2⟩ := puE_0 h
   obtain ⟨p1, p2, p3, p4, p5⟩ := eIni_0 h1
   have p5 : off + (b.length : Int) ≤ ((m.getD n.toNat dG).2.length : Int) := p5
   rw [if_neg (by rw [h]; decide), if_pos h]
   simp only [if_pos h1, Int.toNat_natCast]
   rw [Lg43_6_val u hb h2 (by omega) (by omega)]
   rfl
  ·rw [if_pos (by rw [Bool.not_eq_true', beq_eq_false_iff_ne]; exact h), if_neg h]
 by_cases h0 : 0 < un.length
 ·rw [if_pos (by rw [decide_eq_true_eq]; omega), z7T]
  simp only [Option.bind_some]
  refine key _ ?_
  by_cases h1 : un.length = b.length
  ·rw [if_neg (show ¬ (0 < un.length ∧ un.length ≠ b.length) from fun q => q.2 h1), if_neg (by simp; omega)]
  ·rw [if_pos (show 0 < un.length ∧ un.length ≠ b.length from ⟨h0, h1⟩), if_pos (by simp; omega)]
 ·rw [if_neg (by rw [decide_eq_true_eq]; omega), z7T]
  simp only [Option.bind_some]
  refine key _ ?_
  rw [if_neg (show ¬ (0 < un.length ∧ un.length ≠ b.length) from fun q => h0 q.1), if_neg (by decide)]
def pk (b : List Int) (un : List Bool) (i : Nat) : Kl := if 0 < un.length ∧ un.getD i false = true then zK else (1, b.getD i 0, (0, 0), 0)
theorem pc_cv (b : List Int) (un : List Bool) (i : Nat) : cvC (pc b un i) = pk b un i := by
 unfold pc pk
 by_cases h : 0 < un.length ∧ un.getD i false = true
 ·rw [if_pos h, if_pos h]; rfl
 ·rw [if_neg h, if_neg h]; rfl
theorem Lg80_10_val {m : List Br} (u : Int) {n off : Nat} {b : List Int} {un : List Bool} (hb : b.length ≤ 1000) (hu : 0 < un.length → un.length = b.length) (hn : n < m.length) (hL : (m.getD n dG).2.length ≤ 65536) (ho : off + b.length ≤ (m.getD n dG).2.length) :
  Lg80_10 (((), (off : Int), b, un, (n, 0, (m.getD n dG).2.length), 0, ()), ((), u, ()), m, ()) = some (((), ()), ((), u, ()), Wg m n off ((List.range b.length).map (pk b un)), ()) := by
 generalize hLL : (m.getD n dG).2.length = L at hL ho
 obtain ⟨z, h1, rfl⟩ := z0K (f := S80_10) (fun t => b.length - t.1.2.2.2.2.2.1.toNat)
  (fun t => ∃ i : Nat, i ≤ b.length ∧ t = (((), (off : Int), b, un, (n, 0, L), (i : Int), ()), ((), u, ()), Wg m n off ((List.range i).map (pk b un)), ()))
  (fun z => z = (((), ()), ((), u, ()), Wg m n off ((List.range b.length).map (pk b un)), ())) (by
  rintro t ⟨i, hi, rfl⟩
  rw [S80_10_eq]
  by_cases h : i < b.length
  ·have q1 : (0 : Int) ≤ (i : Int) := by omega
   have q2 : (i : Int) < (b.length : Int) := by omega
   have hs := fun c => Wg_step (m := m) (k := n) (off := off) (cs := (List.range i).map (pk b un)) hn (by rw [List.length_map, List.length_range]; omega) c
   rw [List.length_map, List.length_range] at hs
   have hW : Wg m n off ((List.range i).map (pk b un) ++ [pk b un i]) = Wg m n off ((List.range (i + 1)).map (pk b un)) := by
    rw [List.range_succ, List.map_append]
    rfl
   have e0 : IntKind.i64.wrap ((off : Int) + (i : Int)) = ((off + i : Nat) : Int) := by rw [wi (by omega) (by omega)]; omega
   have q3 : (0 : Int) ≤ ((off + i : Nat) : Int) := by omega
   have q4 : ((off + i : Nat) : Int) < (L : Int) := by omega
   rw [if_pos (decide_eq_true q2)]
   simp only [if_pos q1, if_pos q2, Int.toNat_natCast, e0, if_pos q3, if_pos q4, Nat.zero_add]
   rw [wi (by omega) (by omega)]
   refine .inl ⟨(((), (off : Int), b, un, (n, 0, L), ((i + 1 : Nat) : Int), ()), ((), u, ()), Wg m n off ((List.range (i + 1)).map (pk b un)), ()), ?_, ⟨i + 1, by omega, rfl⟩, ?_⟩
   ·rw [← hW, ← hs (pk b un i)]
    by_cases h0 : 0 < un.length
    ·have hul := hu h0
     have q5 : (i : Int) < (un.length : Int) := by omega
     rw [if_pos (by rw [decide_eq_true_eq]; omega), if_pos q5]
     by_cases hun : un.getD i false = true
     ·have hpc : pk b un i = zK := by unfold pk; rw [if_pos ⟨h0, hun⟩]
      rw [if_pos hun, hpc]
      rfl
     ·have hpc : pk b un i = (1, b.getD i 0, (0, 0), 0) := by unfold pk; rw [if_neg fun q => hun q.2]
      rw [if_neg hun, hpc]
      rfl
    ·have hpc : pk b un i = (1, b.getD i 0, (0, 0), 0) := by unfold pk; rw [if_neg fun q => h0 q.1]
     rw [if_neg (by rw [decide_eq_true_eq]; omega), hpc]
     rfl
   ·show b.length - ((i + 1 : Nat) : Int).toNat < b.length - (i : Int).toNat
    omega
  ·have : i = b.length := by omega
   subst this
   rw [if_neg (by rw [decide_eq_true_eq]; omega)]
   exact .inr ⟨_, rfl, rfl⟩) (((), (off : Int), b, un, (n, 0, L), ((0 : Nat) : Int), ()), ((), u, ()), Wg m n off ((List.range 0).map (pk b un)), ()) ⟨0, by omega, rfl⟩
 rw [show (List.range 0).map (pk b un) = [] from rfl, z2h] at h1
 exact h1
theorem L80_val {m : List Bp} (hI : Inv m) (u : Int) (n off : Int) {b : List Int} {un : List Bool} (hb : b.length ≤ 1000) : L80 (((), n, off, b, un, ()), ((), u, ()), cv m, ()) = some (((), (puM m n off b un).1, ()), ((), u, ()), cv (puM m n off b un).2, ()) := by
 refine (F80_eq L108 Lg80_10 n off b un u (cv m)).trans ?_
 rw [z1h, show L108 ((cv m, u, ()), n, ()) = _ from L108_val m u n]
 simp only [Option.bind_some]
 have e2 : ∀ x y : Int, fstZ 0 [x, y] = if x = 0 then y else x := by
  intro x y
  unfold fstZ
  split
  ·unfold fstZ
   split
   ·rename_i q; rw [q]; rfl
   ·rfl
  ·rfl
 unfold puM puE
 rw [e2]
 unfold eIni
 by_cases hl : z6l m n = 0
 ·obtain ⟨p1, p2⟩ := z7x hl
  have hB := (hI.at n.toNat).1
  have hk : n.toNat < m.length := by omega
  rw [if_neg (by rw [hl]; decide), if_pos p1, z0z, if_pos p2, z5l hk]
  simp only [if_pos hl]
  by_cases h1 : off < 0
  ·rw [if_pos (decide_eq_true h1)]
   simp only [if_pos (show off < 0 ∨ ((m.getD n.toNat dB).2.length : Int) < off ∨ ((m.getD n.toNat dB).2.length : Int) - off < (b.length : Int) from .inl h1)]
   rfl
  ·rw [if_neg (by rw [decide_eq_true_eq]; exact h1)]
   by_cases h2 : ((m.getD n.toNat dB).2.length : Int) < off
   ·rw [if_pos (decide_eq_true h2)]
    simp only [if_pos (show off < 0 ∨ ((m.getD n.toNat dB).2.length : Int) < off ∨ ((m.getD n.toNat dB).2.length : Int) - off < (b.length : Int) from .inr (.inl h2))]
    rfl
   ·rw [if_neg (by rw [decide_eq_true_eq]; exact h2), wi (by omega) (by omega)]
    by_cases h3 : ((m.getD n.toNat dB).2.length : Int) - off < (b.length : Int)
    ·rw [if_pos (decide_eq_true h3)]
     simp only [if_pos (show off < 0 ∨ ((m.getD n.toNat dB).2.length : Int) < off ∨ ((m.getD n.toNat dB).2.length : Int) - off < (b.length : Int) from .inr (.inr h3))]
     rfl
    ·have hno : ¬ (off < 0 ∨ ((m.getD n.toNat dB).2.length : Int) < off ∨ ((m.getD n.toNat dB).2.length : Int) - off < (b.length : Int)) := by
      rintro (q | q | q)
      ·exact h1 q
      ·exact h2 q
      ·exact h3 q
     rw [if_neg (by rw [decide_eq_true_eq]; exact h3)]
     simp only [if_neg hno, if_true]
     have hgo : (0 < un.length → un.length = b.length) → (Lg80_10 (((), off, b, un, (n.toNat, 0, (m.getD n.toNat dB).2.length), 0, ()), ((), u, ()), cv m, ())) = some (((), ()), ((), u, ()), cv (Wg m n.toNat off.toNat ((List.range b.length).map (pc b un))), ()) := by
      intro hu
      have hcl : ((cv m).getD n.toNat dG).2.length = (m.getD n.toNat dB).2.length := z5l hk
      have := Lg80_10_val (m := cv m) u (n := n.toNat) (off := off.toNat) hb hu (by rw [z0z]; exact hk) (by rw [hcl]; exact hB) (by rw [hcl]; omega)
      rw [hcl, show ((off.toNat : Nat) : Int) = off by omega] at this
      rw [this, cv_W hk, List.map_map]
      congr 5
      refine List.map_congr_left fun i _ => (pc_cv b un i).symm
     by_cases h0 : 0 < un.length
     ·rw [if_pos (by rw [decide_eq_true_eq]; omega)]
      by_cases h4 : un.length = b.length
      ·rw [if_neg (by simp; omega), if_neg (show ¬ (0 < un.length ∧ un.length ≠ b.length) from fun q => q.2 h4), hgo fun _ => h4]
       rfl
      ·rw [if_pos (by simp; omega), if_pos (show 0 < un.length ∧ un.length ≠ b.length from ⟨h0, h4⟩)]
       rfl
     ·rw [if_neg (by rw [decide_eq_true_eq]; omega), if_neg (show ¬ (0 < un.length ∧ un.length ≠ b.length) from fun q => h0 q.1), hgo fun q => absurd q h0]
      rfl
 ·rw [if_pos (by rw [Bool.not_eq_true', beq_eq_false_iff_ne]; exact hl)]
  simp only [if_neg hl]
def rfE (m : List Bp) (n off : Int) (t : Int × Int) : Int := fstZ 0 [eIni m n off 8, if fm m.length t = true then 0 else 1]
def rfM (m : List Bp) (n off : Int) (t : Int × Int) : Int × List Bp := if rfE m n off t = 0 then (0, Wg m n.toNat off.toNat (scL m.length pS 64 (2, 0, t))) else (rfE m n off t, m)
theorem rfE_0 {m : List Bp} {n off : Int} {t : Int × Int} (h : rfE m n off t = 0) : eIni m n off 8 = 0 ∧ fm m.length t = true := by
 unfold rfE at h
 rw [fst2z] at h
 split at h
 ·rename_i h1
  refine ⟨h1, ?_⟩
  split at h
  ·assumption
  ·cases h
 ·contradiction
theorem rfM_stp {m : List Bp} (hI : Inv m) (n off : Int) (t : Int × Int) {u : Int} {hp : Prop} : Stp m u hp (rfM m n off t).2 u := by
 unfold rfM
 split
 ·rename_i h
  obtain ⟨h1, _⟩ := rfE_0 h
  obtain ⟨_, _, p3, p4, p5⟩ := eIni_0 h1
  have p5 : off + 8 ≤ ((m.getD n.toNat dG).2.length : Int) := p5
  exact W_stp hI (by rw [z2O]; omega) (sc_wf _ _ _ _)
 ·exact .same hI
theorem L46_val {m : List Bp} (hI : Inv m) (u : Int) (n off : Int) (t : Int × Int) : L46 (((), n, off, t, ()), ((), u, ()), m, ()) = some (((), (rfM m n off t).1, ()), ((), u, ()), (rfM m n off t).2, ()) := by
 refine (F46_eq L48 L49 L58 L65 L89 n off t.1 t.2 u m).trans ?_
 rw [z1h]
 have h89 : L89 (((), n, off, 8, ()), ((), u, ()), m, ()) = _ := L89_val hI u n off (by omega)
 have h65 : L65 ((m, u, ()), (t.1, t.2), ()) = _ := z5R m u t
 rw [h89]
 simp only [Option.bind_some]
 rw [h65]
 simp only [Option.bind_some]
 rw [z7T]
 simp only [Option.bind_some]
 have e1 : (if (!fm m.length t) = true then (1 : Int) else 0) = (if fm m.length t = true then 0 else 1) := by cases fm m.length t <;> rfl
 rw [e1, show L48 ([eIni m n off 8, if fm m.length t = true then 0 else 1], ()) = some ((rfE m n off t, ()), ()) from L48_val _ (by simp)]
 simp only [Option.bind_some]
 unfold rfM
 by_cases h : rfE m n off t = 0
 ·obtain ⟨h1, h2⟩ := rfE_0 h
  obtain ⟨p1, p2, p3, p4, p5⟩ := eIni_0 h1
  have h58 : L58 ((m, u, ()), pS, 8, (2, 0, t.1, t.2), ()) = _ := L58_val z5w (by decide) m u (2, 0, t)
  rw [if_neg (by rw [h]; decide), if_pos h, h58]
  simp only [Option.bind_some, if_pos h1]
  have hl : (scL m.length pS 64 (2, 0, t)).length = 8 := z2O _ _ _ _
  show some (((), 0, ()), ((), u, ()), List.set m n.toNat (_, List.take off.toNat _ ++ List.take 8 (scL m.length pS 64 (2, 0, t)) ++ List.drop (off.toNat + min (scL m.length pS 64 (2, 0, t)).length 8) _), ()) = _
  rw [hl, List.take_of_length_le (l := scL m.length pS 64 (2, 0, t)) (by omega)]
  unfold Wg
  rw [hl]
  rfl
 ·rw [if_pos (by rw [Bool.not_eq_true', beq_eq_false_iff_ne]; exact h), if_neg h]
theorem L81_val {m : List Bp} (hI : Inv m) (u : Int) (n off : Int) (t : Int × Int) : L81 (((), n, off, t, ()), ((), u, ()), cv m, ()) = some (((), (rfM m n off t).1, ()), ((), u, ()), cv (rfM m n off t).2, ()) := by
 refine (F81_eq L106 L108 L112 n off t.1 t.2 u (cv m)).trans ?_
 rw [z1h, show L108 ((cv m, u, ()), n, ()) = _ from L108_val m u n]
 simp only [Option.bind_some]
 unfold rfM rfE
 rw [fst2z]
 unfold eIni
 by_cases hl : z6l m n = 0
 ·obtain ⟨p1, p2⟩ := z7x hl
  have hB := (hI.at n.toNat).1
  have hk : n.toNat < m.length := by omega
  rw [if_neg (by rw [hl]; decide), if_pos p1, z0z, if_pos p2, z5l hk]
  simp only [if_pos hl]
  by_cases h1 : off < 0
  ·rw [if_pos (decide_eq_true h1)]
   simp only [if_pos (show off < 0 ∨ ((m.getD n.toNat dB).2.length : Int) < off ∨ ((m.getD n.toNat dB).2.length : Int) - off < 8 from .inl h1)]
   rfl
  ·rw [if_neg (by rw [decide_eq_true_eq]; exact h1)]
   by_cases h2 : ((m.getD n.toNat dB).2.length : Int) < off
   ·rw [if_pos (decide_eq_true h2)]
    simp only [if_pos (show off < 0 ∨ ((m.getD n.toNat dB).2.length : Int) < off ∨ ((m.getD n.toNat dB).2.length : Int) - off < 8 from .inr (.inl h2))]
    rfl
   ·rw [if_neg (by rw [decide_eq_true_eq]; exact h2), wi (by omega) (by omega)]
    by_cases h3 : ((m.getD n.toNat dB).2.length : Int) - off < 8
    ·rw [if_pos (decide_eq_true h3)]
     simp only [if_pos (show off < 0 ∨ ((m.getD n.toNat dB).2.length : Int) < off ∨ ((m.getD n.toNat dB).2.length : Int) - off < 8 from .inr (.inr h3))]
     rfl
    ·have hno : ¬ (off < 0 ∨ ((m.getD n.toNat dB).2.length : Int) < off ∨ ((m.getD n.toNat dB).2.length : Int) - off < 8) := by
      rintro (q | q | q)
      ·exact h1 q
      ·exact h2 q
      ·exact h3 q
     have h106 : L106 ((cv m, u, ()), (t.1, t.2), ()) = _ := z3Y m u t
     rw [if_neg (by rw [decide_eq_true_eq]; exact h3), h106]
     simp only [Option.bind_some, if_neg hno, if_true]
     cases hf : fm m.length t with
     | false => rfl
     | true =>
      have h112 : L112 (pS, (2, 0, t.1, t.2), ()) = _ := L112_val z5w (2, 0, t)
      have q1 : (0 : Int) ≤ off := by omega
      have q2 : off ≤ ((m.getD n.toNat dB).2.length : Int) := by omega
      rw [if_neg (by decide), if_pos q1, if_pos q2, if_pos (Int.le_refl _), h112]
      simp only [Option.bind_some, if_true]
      have hcl : ((cv m).getD n.toNat dG).2.length = (m.getD n.toNat dB).2.length := z5l hk
      have href := ref_copy (cv m) n.toNat off.toNat ((List.range 8).map (scK pS 64 (2, 0, t))) (by rw [hcl, List.length_map, List.length_range]; omega)
      rw [z5l hk] at href
      have hcv : (scL m.length pS 64 (2, 0, t)).map cvC = (List.range 8).map (scK pS 64 (2, 0, t)) := by
       have := scL_cv (s := pS) (b := 64) (n := m.length) (2, 0, t)
       have hr : refW m.length (2, 0, t) = (2, 0, t) := by unfold refW; rw [if_neg (by rintro ⟨_, q⟩; rw [hf] at q; cases q)]
       rwa [hr] at this
      rw [cv_W hk, hcv]
      exact congrArg (fun q => some (((), 0, ()), ((), u, ()), q, ())) href
 ·rw [if_pos (by rw [Bool.not_eq_true', beq_eq_false_iff_ne]; exact hl)]
  simp only [if_neg hl]
def ins (m : List Bp) (a : Int × Int) : Bool := isN a || decide (0 ≤ a.2 ∧ a.2 ≤ ((m.getD a.1.toNat dB).2.length : Int))
theorem L66_val {m : List Bp} (u : Int) {a : Int × Int} (hf : fm m.length a = true) : L66 ((m, u, ()), a, ()) = some ((ins m a, ()), ()) := by
 refine (F66_eq L51 m u a.1 a.2).trans ?_
 rw [show L51 () = _ from z1L]
 simp only [Option.bind_some]
 rw [z3n]
 unfold ins
 cases hn : isN (a.1, a.2) with
 | true => rw [if_pos rfl, Bool.true_or]
 | false =>
  obtain ⟨p1, p2, _⟩ := z6f hf hn
  rw [if_neg (by decide), Bool.false_or]
  by_cases h0 : 0 ≤ a.2
  ·rw [if_pos (decide_eq_true h0), if_pos p1, if_pos p2]
   congr 3
   rw [decide_eq_decide]
   exact ⟨fun q => ⟨h0, q⟩, fun q => q.2⟩
  ·rw [if_neg (by rw [decide_eq_true_eq]; exact h0), decide_eq_false fun q => h0 q.1]
theorem L113_val {m : List Bp} (u : Int) {a : Int × Int} (hf : fm m.length a = true) : L113 ((cv m, u, ()), a, ()) = some ((ins m a, ()), ()) := by
 refine (F113_eq (cv m) u a.1 a.2).trans ?_
 unfold ins
 cases hn : isN a with
 | true => rw [if_pos (decide_eq_true ((z7r hf).2 hn)), Bool.true_or]
 | false =>
  obtain ⟨p1, p2, _⟩ := z6f hf hn
  rw [if_neg (by rw [decide_eq_true_eq]; omega), Bool.false_or]
  by_cases h0 : 0 ≤ a.2
  ·rw [if_pos (decide_eq_true h0), if_pos p1, z0z, if_pos p2, z5l (by omega)]
   congr 3
   rw [decide_eq_decide]
   exact ⟨fun q => ⟨h0, q⟩, fun q => q.2⟩
  ·rw [if_neg (by rw [decide_eq_true_eq]; exact h0), decide_eq_false fun q => h0 q.1]
def eqR (m : List Bp) (a b : Int × Int) : Bool × Int × Unit :=
 if fm m.length a = true ∧ fm m.length b = true ∧ (isN a || isN b) = true ∧ ins m a = true ∧ ins m b = true then ((isN a && isN b), -1, ()) else (false, 14, ())
theorem L25_val (m : List Bp) (u : Int) (a b : Int × Int) : L25 ((m, u, ()), a, b, ()) = some (eqR m a b, ()) := by
 refine (F25_eq L51 L65 L66 m u a.1 a.2 b.1 b.2).trans ?_
 have h65 : ∀ c : Int × Int, L65 ((m, u, ()), (c.1, c.2), ()) = _ := fun c => z5R m u c
 rw [show L51 () = _ from z1L]
 simp only [Option.bind_some]
 rw [z3n, z3n, h65 a, h65 b]
 simp only [Option.bind_some]
 unfold eqR
 cases ha : fm m.length a with
 | false => rfl
 | true =>
  cases hb : fm m.length b with
  | false => rfl
  | true =>
   have h66 : L66 ((m, u, ()), (a.1, a.2), ()) = _ := L66_val u ha
   have h66b : L66 ((m, u, ()), (b.1, b.2), ()) = _ := L66_val u hb
   rw [h66, h66b]
   simp only [Option.bind_some]
   have e1 : isN (a.1, a.2) = isN a := rfl
   have e2 : isN (b.1, b.2) = isN b := rfl
   rw [e1, e2]
   cases isN a <;> cases isN b <;> cases ins m (a.1, a.2) <;> cases ins m (b.1, b.2) <;> rfl
theorem L82_val (m : List Bp) (u : Int) (a b : Int × Int) : L82 ((cv m, u, ()), a, b, ()) = some (eqR m a b, ()) := by
 refine (F82_eq L106 L113 (cv m) u a.1 a.2 b.1 b.2).trans ?_
 have h65 : ∀ c : Int × Int, L106 ((cv m, u, ()), (c.1, c.2), ()) = _ := fun c => z3Y m u c
 rw [h65 a, h65 b]
 simp only [Option.bind_some]
 unfold eqR
 cases ha : fm m.length a with
 | false => rfl
 | true =>
  cases hb : fm m.length b with
  | false => rfl
  | true =>
   have h66 : L113 ((cv m, u, ()), (a.1, a.2), ()) = _ := L113_val u ha
   have h66b : L113 ((cv m, u, ()), (b.1, b.2), ()) = _ := L113_val u hb
   rw [h66, h66b]
   simp only [Option.bind_some]
   have d1 : decide (a.1 ≥ 0) = !isN a := by
    have := z7r ha
    cases hn : isN a with
    | true => rw [hn] at this; rw [decide_eq_false (by have := this.2 rfl; omega)]; rfl
    | false => rw [hn] at this; rw [decide_eq_true (show a.1 ≥ 0 from Int.not_lt.1 fun q => by have := this.1 q; cases this)]; rfl
   have d2 : decide (b.1 ≥ 0) = !isN b := by
    have := z7r hb
    cases hn : isN b with
    | true => rw [hn] at this; rw [decide_eq_false (by have := this.2 rfl; omega)]; rfl
    | false => rw [hn] at this; rw [decide_eq_true (show b.1 ≥ 0 from Int.not_lt.1 fun q => by have := this.1 q; cases this)]; rfl
   have d3 : (isN a || isN b) = true → (a.1 == b.1 && (a.2 == b.2 && true)) = (isN a && isN b) := by
    intro h
    rw [Bool.and_true, Bool.eq_iff_iff, Bool.and_eq_true, Bool.and_eq_true, beq_iff_eq, beq_iff_eq]
    have q : ∀ c : Int × Int, isN c = true ↔ c.1 = -1 ∧ c.2 = 0 := fun c => by unfold isN; rw [decide_eq_true_eq]
    rw [Bool.or_eq_true] at h
    rw [q, q] at h ⊢
    omega
   rw [d1, d2]
   cases hna : isN a <;> cases hnb : isN b
   ·rfl
   all_goals
    have d3 := d3 (by rw [hna, hnb]; rfl)
    rw [hna, hnb] at d3
    have e : ∀ c : Int × Int, ins m (c.1, c.2) = ins m c := fun _ => rfl
    rw [d3, e, e]
    cases ins m a <;> cases ins m b <;> rfl
def ofR (m : List Bp) (a : Int × Int) (n : Int) : (Int × Int) × Int × Unit :=
 if fm m.length a = true ∧ ¬ (isN a = true ∧ n ≠ 0) ∧ -2199023255552 ≤ n ∧ n ≤ 2199023255552 ∧ fm m.length (a.1, IntKind.i64.wrap (a.2 + n)) = true then ((a.1, IntKind.i64.wrap (a.2 + n)), -1, ()) else ((-1, 0), 14, ())
theorem L47_val (m : List Bp) (u : Int) (a : Int × Int) (n : Int) : L47 ((m, u, ()), a, n, ()) = some (ofR m a n, ()) := by
 refine (F47_eq L51 L65 m u a.1 a.2 n).trans ?_
 have h65 : ∀ c : Int × Int, L65 ((m, u, ()), c, ()) = _ := fun c => z5R m u c
 have h51 : L51 () = _ := z1L
 rw [h51, h65 (a.1, a.2), h65 (a.1, IntKind.i64.wrap (a.2 + n))]
 simp only [Option.bind_some]
 rw [z3n]
 unfold ofR
 have ea : (a.1, a.2) = a := rfl
 rw [ea]
 cases ha : fm m.length a with
 | false =>
  rw [if_pos (by decide), if_neg (by rintro ⟨q, _⟩; cases q)]
 | true =>
  rw [if_neg (by decide)]
  cases hn : isN a with
  | true =>
   rw [if_pos rfl]
   by_cases h0 : n = 0
   ·rw [if_neg (by rw [h0]; decide), if_neg (by rw [decide_eq_true_eq]; omega), if_neg (by rw [decide_eq_true_eq]; omega)]
    cases hf : fm m.length (a.1, IntKind.i64.wrap (a.2 + n)) with
    | false => rw [if_pos (by decide), if_neg (by rintro ⟨_, _, _, _, q⟩; cases q)]
    | true => rw [if_neg (by decide), if_pos ⟨rfl, fun q => q.2 h0, by omega, by omega, rfl⟩]
   ·rw [if_pos (by rw [Bool.not_eq_true', beq_eq_false_iff_ne]; exact h0), if_neg (by rintro ⟨_, q, _⟩; exact q ⟨rfl, h0⟩)]
  | false =>
   rw [if_neg (by decide)]
   by_cases h1 : n < -2199023255552
   ·rw [if_pos (by rw [decide_eq_true_eq]; exact h1), if_neg (by rintro ⟨_, _, q, _⟩; omega)]
   ·rw [if_neg (by rw [decide_eq_true_eq]; exact h1)]
    by_cases h2 : n > 2199023255552
    ·rw [if_pos (by rw [decide_eq_true_eq]; exact h2), if_neg (by rintro ⟨_, _, _, q, _⟩; omega)]
    ·rw [if_neg (by rw [decide_eq_true_eq]; exact h2)]
     cases hf : fm m.length (a.1, IntKind.i64.wrap (a.2 + n)) with
     | false => rw [if_pos (by decide), if_neg (by rintro ⟨_, _, _, _, q⟩; cases q)]
     | true => rw [if_neg (by decide), if_pos ⟨rfl, fun q => (by cases q.1), by omega, by omega, rfl⟩]
theorem L83_val (m : List Bp) (u : Int) (a : Int × Int) (n : Int) : L83 ((cv m, u, ()), a, n, ()) = some (ofR m a n, ()) := by
 refine (F83_eq L103 L106 (cv m) u a.1 a.2 n).trans ?_
 have h65 : L106 ((cv m, u, ()), (a.1, a.2), ()) = _ := z3Y m u a
 have h51 : L103 () = _ := z3Z
 rw [h51, h65]
 simp only [Option.bind_some]
 unfold ofR
 cases ha : fm m.length a with
 | false =>
  rw [if_pos (by decide), if_neg (by rintro ⟨q, _⟩; cases q)]
 | true =>
  rw [if_neg (by decide)]
  have hneg := z7r ha
  have tail : ¬ (isN a = true ∧ n ≠ 0) → -2199023255552 ≤ n → n ≤ 2199023255552 → (if decide (IntKind.i64.wrap (a.2 + n) < -1099511627776) = true then some (((-1, 0), 14, ()), ()) else if decide (IntKind.i64.wrap (a.2 + n) > 1099511627776) = true then some (((-1, 0), 14, ()), ()) else some (((a.1, IntKind.i64.wrap (a.2 + n)), -1, ()), ()) : Option rs83.den) = some (if true = true ∧ ¬ (isN a = true ∧ n ≠ 0) ∧ -2199023255552 ≤ n ∧ n ≤ 2199023255552 ∧ fm m.length (a.1, IntKind.i64.wrap (a.2 + n)) = true then ((a.1, IntKind.i64.wrap (a.2 + n)), -1, ()) else ((-1, 0), 14, ()), ()) := by
   intro t1 t2 t3
   have hiff : fm m.length (a.1, IntKind.i64.wrap (a.2 + n)) = true ↔ -1099511627776 ≤ IntKind.i64.wrap (a.2 + n) ∧ IntKind.i64.wrap (a.2 + n) ≤ 1099511627776 := by
    cases hn : isN a with
    | true =>
     have h0 : n = 0 := Decidable.byContradiction fun q => t1 ⟨hn, q⟩
     unfold isN at hn
     rw [decide_eq_true_eq] at hn
     rw [h0, hn.2]
     have e0 : IntKind.i64.wrap (0 + 0) = 0 := by decide
     rw [e0]
     unfold fm
     rw [decide_eq_true_eq]
     constructor
     ·intro _; omega
     ·intro _; exact .inl ⟨hn.1, rfl⟩
    | false =>
     obtain ⟨p1, p2, _⟩ := z6f ha hn
     unfold fm
     rw [decide_eq_true_eq]
     constructor
     ·rintro (q | q)
      ·have q1 : a.1 = -1 := q.1
       omega
      ·exact ⟨q.2.2.1, q.2.2.2⟩
     ·rintro ⟨q1, q2⟩
      exact .inr ⟨p1, p2, q1, q2⟩
   by_cases g1 : IntKind.i64.wrap (a.2 + n) < -1099511627776
   ·rw [if_pos (by rw [decide_eq_true_eq]; exact g1), if_neg (by rintro ⟨_, _, _, _, q⟩; have := hiff.1 q; omega)]
   ·rw [if_neg (by rw [decide_eq_true_eq]; exact g1)]
    by_cases g2 : IntKind.i64.wrap (a.2 + n) > 1099511627776
    ·rw [if_pos (by rw [decide_eq_true_eq]; exact g2), if_neg (by rintro ⟨_, _, _, _, q⟩; have := hiff.1 q; omega)]
    ·rw [if_neg (by rw [decide_eq_true_eq]; exact g2), if_pos ⟨rfl, t1, t2, t3, hiff.2 ⟨by omega, by omega⟩⟩]
  cases hn : isN a with
  | true =>
   rw [hn] at hneg tail
   rw [if_pos (by rw [decide_eq_true_eq]; exact hneg.2 rfl)]
   by_cases h0 : n = 0
   ·rw [if_neg (by rw [h0]; decide), if_neg (by rw [decide_eq_true_eq]; omega), if_neg (by rw [decide_eq_true_eq]; omega)]
    exact tail (fun q => q.2 h0) (by omega) (by omega)
   ·rw [if_pos (by rw [Bool.not_eq_true', beq_eq_false_iff_ne]; exact h0), if_neg (by rintro ⟨_, q, _⟩; exact q ⟨rfl, h0⟩)]
  | false =>
   rw [hn] at hneg tail
   rw [if_neg (by rw [decide_eq_true_eq]; intro q; have := hneg.1 q; cases this)]
   by_cases h1 : n < -2199023255552
   ·rw [if_pos (by rw [decide_eq_true_eq]; exact h1), if_neg (by rintro ⟨_, _, q, _⟩; omega)]
   ·rw [if_neg (by rw [decide_eq_true_eq]; exact h1)]
    by_cases h2 : n > 2199023255552
    ·rw [if_pos (by rw [decide_eq_true_eq]; exact h2), if_neg (by rintro ⟨_, _, _, q, _⟩; omega)]
    ·rw [if_neg (by rw [decide_eq_true_eq]; exact h2)]
     exact tail (fun q => by cases q.1) (by omega) (by omega)
end Go.Proofs.Rf
namespace Go.Proofs.Rf
open Go Go.RowKit
theorem L38_val (a : Int × Int) : L38 (a, ()) = some ((a, ()), ()) := F38_eq a.1 a.2
theorem z2f (a : Int × Int) : L39 (a, ()) = some ((a, ()), ()) := F39_eq a.1 a.2
theorem L18_val (w : Wd) : L18 (w, ()) = some ((w, ()), ()) := by
 refine (F18_eq L39 w.1 w.2.1 w.2.2.1 w.2.2.2).trans ?_
 rw [show L39 ((w.2.2.1, w.2.2.2), ()) = _ from z2f w.2.2]
 rfl
theorem L41_val (w : Wd) : L41 (w, ()) = some ((w, ()), ()) := by
 refine (F41_eq L38 w.1 w.2.1 w.2.2.1 w.2.2.2).trans ?_
 rw [show L38 ((w.2.2.1, w.2.2.2), ()) = _ from L38_val w.2.2]
 rfl
theorem L44_val {l : List Int} (h : l.length ≤ 1000) : L44 (l, ()) = some (((), ()), l, ()) := (F44_eq l).trans (if_pos (by omega))
theorem L45_val {l : List Bool} (h : l.length ≤ 1000) : L45 (l, ()) = some (((), ()), l, ()) := (F45_eq l).trans (if_pos (by omega))
structure ActOK (a : Ac) : Prop where
 sz : 0 ≤ a.2.2.2.2.2.2.2.1
 ty : a.2.1.length ≤ 1000
 by_ : a.2.2.2.2.2.2.2.2.2.1.length ≤ 1000
 un : a.2.2.2.2.2.2.2.2.2.2.length ≤ 1000
def ActGo (m : List Bp) (u : Int) (a : Ac) (ans : Ans) (m' : List Bp) (u' : Int) : Prop :=
 L13 (((), a, ()), ((), u, ()), m, ()) = some (((), ans, ()), ((), u', ()), m', ()) ∧ L31 (((), a, ()), ((), u, ()), cv m, ()) = some (((), ans, ()), ((), u', ()), cv m', ()) ∧ Stp m u (a.1 = 0 ∧ a.2.2.2.2.1 = 0) m' u'
theorem act_ok {m : List Bp} (hI : Inv m) (hl : m.length < 1000) {u : Int} (hu0 : -1000000000 ≤ u) (hu1 : u ≤ 1000000000) (a : Ac) (hok : ActOK a) : ∃ ans m' u', ActGo m u a ans m' u' := by
 obtain ⟨k, t, ⟨p0, p1⟩, ⟨q0, q1⟩, n, al, c, s, ⟨w0, w1, w2, w3⟩, b, un⟩ := a
 have hsz : 0 ≤ s := hok.sz
 have hty : t.length ≤ 1000 := hok.ty
 have hby : b.length ≤ 1000 := hok.by_
 have hun : un.length ≤ 1000 := hok.un
 have e1 : L13 (((), (k, t, (p0, p1), (q0, q1), n, al, c, s, (w0, w1, w2, w3), b, un), ()), ((), u, ()), m, ()) = _ := F13_eq L14 L16 L17 L18 L19 L20 L25 L26 L27 L38 L39 L40 L41 L42 L43 L44 L45 L46 L47 k t p0 p1 q0 q1 n al c s w0 w1 w2 w3 b un u m
 have e2 : L31 (((), (k, t, (p0, p1), (q0, q1), n, al, c, s, (w0, w1, w2, w3), b, un), ()), ((), u, ()), cv m, ()) = _ := F31_eq L71 L72 L73 L74 L75 L76 L77 L78 L79 L80 L81 L82 L83 k t p0 p1 q0 q1 n al c s w0 w1 w2 w3 b un u (cv m)
 rw [z1h] at e1 e2
 unfold ActGo
 by_cases h0 : k = 0
 ·subst h0
  rw [if_pos (by decide)] at e1 e2
  obtain ⟨ad, e, m', u', g1, g2, g3⟩ := add_ok hI hl (k := n) (s := IntKind.i64.wrap s) (al := al) (c := c) hu0 hu1
  rw [g1] at e1
  rw [g2] at e2
  simp only [Option.bind_some] at e1 e2
  rw [show L38 ((ad.1, ad.2), ()) = _ from L38_val ad] at e1
  refine ⟨_, _, _, e1, e2, g3.inv, g3.len, g3.lo, g3.hi, fun q => g3.cap fun q2 => q ⟨rfl, q2⟩⟩
 by_cases h1 : k = 1
 ·subst h1
  rw [if_neg (by decide), if_pos (by decide)] at e1 e2
  obtain ⟨ad, e, m', u', g1, g2, g3⟩ := alloc_ok hI hl (al := al) hsz hu0 hu1
  rw [g1] at e1
  rw [g2] at e2
  simp only [Option.bind_some] at e1 e2
  rw [show L38 ((ad.1, ad.2), ()) = _ from L38_val ad] at e1
  refine ⟨_, _, _, e1, e2, g3.inv, g3.len, g3.lo, g3.hi, fun _ => g3.cap fun q2 => q2⟩
 by_cases h2 : k = 2
 ·subst h2
  rw [if_neg (by decide), if_neg (by decide), if_pos (by decide)] at e1 e2
  obtain ⟨e, m', u', g1, g2, g3⟩ := free_ok hI (p0, p1) hu0 hu1
  rw [z2f] at e1
  simp only [Option.bind_some] at e1
  rw [g1] at e1
  rw [g2] at e2
  refine ⟨_, _, _, e1, e2, g3.inv, g3.len, g3.lo, g3.hi, fun _ => g3.cap fun q2 => q2⟩
 by_cases h3 : k = 3
 ·subst h3
  rw [if_neg (by decide), if_neg (by decide), if_neg (by decide), if_pos (by decide)] at e1 e2
  obtain ⟨e, m', u', g1, g2, g3⟩ := drop_ok hI n hu0 hu1
  rw [g1] at e1
  rw [g2] at e2
  refine ⟨_, _, _, e1, e2, g3.inv, g3.len, g3.lo, g3.hi, fun _ => g3.cap fun q2 => q2⟩
 by_cases h4 : k = 4
 ·subst h4
  rw [if_neg (by decide), if_neg (by decide), if_neg (by decide), if_neg (by decide), if_pos (by decide)] at e1 e2
  rw [z2f] at e1
  simp only [Option.bind_some] at e1
  rw [show L16 ((m, u, ()), t, (p0, p1), ()) = _ from L16_val hI u hty (p0, p1)] at e1
  rw [show L75 ((cv m, u, ()), t, (p0, p1), ()) = _ from L75_val hI u (p0, p1)] at e2
  simp only [Option.bind_some] at e1 e2
  rw [show L41 (((ldW m t (p0, p1)).1.1, (ldW m t (p0, p1)).1.2.1, (ldW m t (p0, p1)).1.2.2.1, (ldW m t (p0, p1)).1.2.2.2), ()) = _ from L41_val (ldW m t (p0, p1)).1] at e1
  exact ⟨_, _, _, e1, e2, .same hI⟩
 by_cases h5 : k = 5
 ·subst h5
  rw [if_neg (by decide), if_neg (by decide), if_neg (by decide), if_neg (by decide), if_neg (by decide), if_pos (by decide)] at e1 e2
  rw [z2f] at e1
  simp only [Option.bind_some] at e1
  rw [show L18 ((w0, w1, w2, w3), ()) = _ from L18_val (w0, w1, w2, w3)] at e1
  simp only [Option.bind_some] at e1
  rw [show L17 (((), t, (p0, p1), (w0, w1, w2, w3), ()), ((), u, ()), m, ()) = _ from L17_val hI u hty (p0, p1) (w0, w1, w2, w3)] at e1
  rw [show L76 (((), t, (p0, p1), (w0, w1, w2, w3), ()), ((), u, ()), cv m, ()) = _ from L76_val hI u (p0, p1) (w0, w1, w2, w3)] at e2
  exact ⟨_, _, _, e1, e2, stM_stp hI t (p0, p1) (w0, w1, w2, w3)⟩
 by_cases h6 : k = 6
 ·subst h6
  rw [if_neg (by decide), if_neg (by decide), if_neg (by decide), if_neg (by decide), if_neg (by decide), if_neg (by decide), if_pos (by decide)] at e1 e2
  rw [z2f, z2f] at e1
  simp only [Option.bind_some] at e1
  rw [show L19 (((), (p0, p1), (q0, q1), n, ()), ((), u, ()), m, ()) = _ from L19_val hI u (p0, p1) (q0, q1) n] at e1
  rw [show L77 (((), (p0, p1), (q0, q1), n, ()), ((), u, ()), cv m, ()) = _ from L77_val hI u (p0, p1) (q0, q1) n] at e2
  exact ⟨_, _, _, e1, e2, cpM_stp hI (p0, p1) (q0, q1) n⟩
 by_cases h7 : k = 7
 ·subst h7
  rw [if_neg (by decide), if_neg (by decide), if_neg (by decide), if_neg (by decide), if_neg (by decide), if_neg (by decide), if_neg (by decide), if_pos (by decide)] at e1 e2
  rw [z2f] at e1
  simp only [Option.bind_some] at e1
  rw [show L20 (((), (p0, p1), n, ()), ((), u, ()), m, ()) = _ from L20_val hI u (p0, p1) n] at e1
  rw [show L78 (((), (p0, p1), n, ()), ((), u, ()), cv m, ()) = _ from L78_val hI u (p0, p1) n] at e2
  exact ⟨_, _, _, e1, e2, erM_stp hI (p0, p1) n⟩
 by_cases h8 : k = 8
 ·subst h8
  rw [if_neg (by decide), if_neg (by decide), if_neg (by decide), if_neg (by decide), if_neg (by decide), if_neg (by decide), if_neg (by decide), if_neg (by decide), if_pos (by decide)] at e1 e2
  rw [z2f] at e1
  simp only [Option.bind_some] at e1
  rw [show L42 ((m, u, ()), (p0, p1), n, ()) = _ from L42_val hI u (p0, p1) n] at e1
  rw [show L79 ((cv m, u, ()), (p0, p1), n, ()) = _ from L79_val hI u (p0, p1) n] at e2
  exact ⟨_, _, _, e1, e2, .same hI⟩
 by_cases h9 : k = 9
 ·subst h9
  rw [if_neg (by decide), if_neg (by decide), if_neg (by decide), if_neg (by decide), if_neg (by decide), if_neg (by decide), if_neg (by decide), if_neg (by decide), if_neg (by decide), if_pos (by decide)] at e1 e2
  rw [L44_val hby, L45_val hun] at e1
  simp only [Option.bind_some] at e1
  rw [show L43 (((), p0, p1, b, un, ()), ((), u, ()), m, ()) = _ from L43_val hI u p0 p1 hby] at e1
  rw [show L80 (((), p0, p1, b, un, ()), ((), u, ()), cv m, ()) = _ from L80_val hI u p0 p1 hby] at e2
  exact ⟨_, _, _, e1, e2, puM_stp hI p0 p1 b un⟩
 by_cases h10 : k = 10
 ·subst h10
  rw [if_neg (by decide), if_neg (by decide), if_neg (by decide), if_neg (by decide), if_neg (by decide), if_neg (by decide), if_neg (by decide), if_neg (by decide), if_neg (by decide), if_neg (by decide), if_pos (by decide)] at e1 e2
  rw [z2f] at e1
  simp only [Option.bind_some] at e1
  rw [show L46 (((), p0, p1, (q0, q1), ()), ((), u, ()), m, ()) = _ from L46_val hI u p0 p1 (q0, q1)] at e1
  rw [show L81 (((), p0, p1, (q0, q1), ()), ((), u, ()), cv m, ()) = _ from L81_val hI u p0 p1 (q0, q1)] at e2
  exact ⟨_, _, _, e1, e2, rfM_stp hI p0 p1 (q0, q1)⟩
 by_cases h11 : k = 11
 ·subst h11
  rw [if_neg (by decide), if_neg (by decide), if_neg (by decide), if_neg (by decide), if_neg (by decide), if_neg (by decide), if_neg (by decide), if_neg (by decide), if_neg (by decide), if_neg (by decide), if_neg (by decide), if_pos (by decide)] at e1 e2
  rw [z2f, z2f] at e1
  simp only [Option.bind_some] at e1
  rw [show L25 ((m, u, ()), (p0, p1), (q0, q1), ()) = _ from L25_val m u (p0, p1) (q0, q1)] at e1
  rw [show L82 ((cv m, u, ()), (p0, p1), (q0, q1), ()) = _ from L82_val m u (p0, p1) (q0, q1)] at e2
  exact ⟨_, _, _, e1, e2, .same hI⟩
 by_cases h12 : k = 12
 ·subst h12
  rw [if_neg (by decide), if_neg (by decide), if_neg (by decide), if_neg (by decide), if_neg (by decide), if_neg (by decide), if_neg (by decide), if_neg (by decide), if_neg (by decide), if_neg (by decide), if_neg (by decide), if_neg (by decide), if_pos (by decide)] at e1 e2
  rw [z2f] at e1
  simp only [Option.bind_some] at e1
  rw [show L47 ((m, u, ()), (p0, p1), n, ()) = _ from L47_val m u (p0, p1) n] at e1
  rw [show L83 ((cv m, u, ()), (p0, p1), n, ()) = _ from L83_val m u (p0, p1) n] at e2
  simp only [Option.bind_some] at e1 e2
  rw [show L38 (((ofR m (p0, p1) n).1.1, (ofR m (p0, p1) n).1.2), ()) = _ from L38_val (ofR m (p0, p1) n).1] at e1
  exact ⟨_, _, _, e1, e2, .same hI⟩
 rw [if_neg (by rw [beq_iff_eq]; exact h0), if_neg (by rw [beq_iff_eq]; exact h1), if_neg (by rw [beq_iff_eq]; exact h2), if_neg (by rw [beq_iff_eq]; exact h3), if_neg (by rw [beq_iff_eq]; exact h4), if_neg (by rw [beq_iff_eq]; exact h5), if_neg (by rw [beq_iff_eq]; exact h6), if_neg (by rw [beq_iff_eq]; exact h7), if_neg (by rw [beq_iff_eq]; exact h8), if_neg (by rw [beq_iff_eq]; exact h9), if_neg (by rw [beq_iff_eq]; exact h10), if_neg (by rw [beq_iff_eq]; exact h11), if_neg (by rw [beq_iff_eq]; exact h12)] at e1 e2
 exact ⟨_, _, _, e1, e2, .same hI⟩
end Go.Proofs.Rf
set_option linter.unusedVariables false
namespace Go.Proofs.Rf
open Go Go.RowKit
noncomputable def K12 : TF12 := F12
theorem okK12 : z0a Tryz.prog 12 (mkCall ps12 rs12 K12) := call12
noncomputable def Kg48_2 : z4f.den → Option (denX w48_2) := iterL (S48_2) 100
noncomputable def K48 : TF48 := F48 Kg48_2
theorem okK48 : z0a Tryz.prog 48 (mkCall ps48 rs48 K48) := call48 (z1I _ _)
noncomputable def K49 : TF49 := F49
theorem okK49 : z0a Tryz.prog 49 (mkCall ps49 rs49 K49) := call49
noncomputable def Kg115_2 : z2J.den → Option (denX z4z) := iterL (S115_2) 100
noncomputable def K115 : TF115 := F115 Kg115_2
theorem okK115 : z0a Tryz.prog 115 (mkCall ps115 rs115 K115) := call115 (z1I _ _)
noncomputable def K90 : TF90 := F90 K115
theorem okK90 : z0a Tryz.prog 90 (mkCall ps90 rs90 K90) := call90 okK115
noncomputable def K50 : TF50 := F50 K90
theorem okK50 : z0a Tryz.prog 50 (mkCall ps50 rs50 K50) := call50 okK90
noncomputable def K51 : TF51 := F51
theorem z6j : z0a Tryz.prog 51 (mkCall ps51 rs51 K51) := call51
noncomputable def K68 : TF68 := F68
theorem okK68 : z0a Tryz.prog 68 (mkCall ps68 rs68 K68) := call68
noncomputable def K52 : TF52 := F52 K51 K68
theorem okK52 : z0a Tryz.prog 52 (mkCallB z6T rs52 m52 1 K52) := call52 z6j okK68
noncomputable def K14 : TF14 := F14 K48 K49 K50 K51 K52
theorem okK14 : z0a Tryz.prog 14 (mkCallB z6Y rs14 m14 1 K14) := call14 okK48 okK49 okK50 z6j okK52
noncomputable def K98 : TF98 := F98
theorem okK98 : z0a Tryz.prog 98 (mkCall ps98 rs98 K98) := call98
abbrev K99 : TF99 := F99
theorem okK99 : z0a Tryz.prog 99 (mkCall ps99 rs99 K99) := call99
noncomputable def Kg69_7 : z4a.den → Option (denX w69_7) := iterL (S69_7) 100
noncomputable def K69 : TF69 := F69 K98 K99 Kg69_7
theorem okK69 : z0a Tryz.prog 69 (mkCall ps69 rs69 K69) := call69 okK98 okK99 (z1I _ _)
noncomputable def K28 : TF28 := F28 K69
theorem okK28 : z0a Tryz.prog 28 (mkCall ps28 rs28 K28) := call28 okK69
noncomputable def Kg70_2 : z4I.den → Option (denX w70_2) := iterL (S70_2) 100
noncomputable def K70 : TF70 := F70 Kg70_2
theorem okK70 : z0a Tryz.prog 70 (mkCall ps70 rs70 K70) := call70 (z1I _ _)
noncomputable def K54 : TF54 := F54 K28 K70
theorem okK54 : z0a Tryz.prog 54 (mkCall ps54 rs54 K54) := call54 okK28 okK70
noncomputable def K92 : TF92 := F92
theorem okK92 : z0a Tryz.prog 92 (mkCall ps92 rs92 K92) := call92
noncomputable def K65 : TF65 := F65 K51
theorem okK65 : z0a Tryz.prog 65 (mkCall ps65 rs65 K65) := call65 z6j
noncomputable def K117 : TF117 := F117 K51 K65
theorem okK117 : z0a Tryz.prog 117 (mkCall ps117 rs117 K117) := call117 z6j okK65
noncomputable def K118 : TF118 := F118
theorem okK118 : z0a Tryz.prog 118 (mkCall ps118 rs118 K118) := call118
noncomputable def K119 : TF119 := F119
theorem okK119 : z0a Tryz.prog 119 (mkCall ps119 rs119 K119) := call119
noncomputable def K120 : TF120 := F120
theorem okK120 : z0a Tryz.prog 120 (mkCall ps120 rs120 K120) := call120
noncomputable def Kg55_4 : z4e.den → Option (denX w55_4) := iterL (S55_4 K117 K118 K119 K120) 100
noncomputable def K55 : TF55 := F55 K92 Kg55_4
theorem okK55 : z0a Tryz.prog 55 (mkCall ps55 rs55 K55) := call55 okK117 okK118 okK119 okK120 okK92 (z1I _ _)
noncomputable def K96 : TF96 := F96
theorem okK96 : z0a Tryz.prog 96 (mkCall ps96 rs96 K96) := call96
noncomputable def KD121 : z8g := colK (B121) (Y121) 100
theorem okKI121 : z5s Tryz.prog 121 z4x (z7D KD121) := it121 (coll_colK _ _ _)
noncomputable def Kg93_5 : List z3b → z2s.den → Option (z2s.den ⊕ denX w93_5) := foldR (S93_5 K51)
noncomputable def K93 : TF93 := F93 K51 K96 KD121 Kg93_5
theorem okK93 : z0a Tryz.prog 93 (mkCall ps93 rs93 K93) := call93 okKI121 z6j okK96 rfl
noncomputable def K94 : TF94 := F94 K69
theorem okK94 : z0a Tryz.prog 94 (mkCall ps94 rs94 K94) := call94 okK69
noncomputable def Kg56_9 : z4d.den → Option (denX w56_9) := iterL (S56_9) 100
noncomputable def K56 : TF56 := F56 K51 K93 K94 Kg56_9
theorem okK56 : z0a Tryz.prog 56 (mkCall ps56 rs56 K56) := call56 z6j okK93 okK94 (z1I _ _)
noncomputable def K57v : TF57v := F57v
theorem okK57v : z0a Tryz.prog 57 (mkCall z6Z z6i K57v) := call57v
noncomputable def K16 : TF16 := F16 K51 K54 K55 K56 K57v
theorem okK16 : z0a Tryz.prog 16 (mkCall ps16 rs16 K16) := call16 z6j okK54 okK55 okK56 okK57v
noncomputable def K57 : TF57 := F57
theorem okK57 : z0a Tryz.prog 57 (mkCallB z4W rs57 m57 1 K57) := call57
noncomputable def K95 : TF95 := F95 K65 K94
theorem okK95 : z0a Tryz.prog 95 (mkCall ps95 rs95 K95) := call95 okK65 okK94
noncomputable def K126 : TF126 := F126
theorem okK126 : z0a Tryz.prog 126 (mkCall ps126 rs126 K126) := call126
noncomputable def K122 : TF122 := F122 K126
theorem okK122 : z0a Tryz.prog 122 (mkCall ps122 rs122 K122) := call122 okK126
noncomputable def Kg97_8 : z4D.den → Option (denX w97_8) := iterL (S97_8) 100
noncomputable def K97 : TF97 := F97 K122 Kg97_8
theorem okK97 : z0a Tryz.prog 97 (mkCall ps97 rs97 K97) := call97 okK122 (z1I _ _)
noncomputable def Kg58_10 : List z3b → z1G.den → Option (z1G.den ⊕ denX z5U) := foldR (S58_10)
noncomputable def Kg58_3 : z4c.den → Option (denX w58_3) := iterL (S58_3) 100
noncomputable def K58 : TF58 := F58 K51 K95 K96 K97 KD121 Kg58_10 Kg58_3
theorem okK58 : z0a Tryz.prog 58 (mkCall ps58 rs58 K58) := call58 okKI121 z6j okK95 okK96 okK97 rfl (z1I _ _)
noncomputable def K17 : TF17 := F17 K54 K55 K57 K58
theorem okK17 : z0a Tryz.prog 17 (mkCallB z6X rs17 m17 1 K17) := call17 okK54 okK55 okK57 okK58
noncomputable def Kg59_2 : z4b.den → Option (denX w59_2) := iterL (S59_2) 100
noncomputable def K59 : TF59 := F59 Kg59_2
theorem okK59 : z0a Tryz.prog 59 (mkCall ps59 rs59 K59) := call59 (z1I _ _)
noncomputable def K60 : TF60 := F60
theorem okK60 : z0a Tryz.prog 60 (mkCall ps60 rs60 K60) := call60
noncomputable def K19 : TF19 := F19 K55 K57 K59 K60
theorem okK19 : z0a Tryz.prog 19 (mkCallB z6W rs19 m19 1 K19) := call19 okK55 okK57 okK59 okK60
noncomputable def K22 : TF22 := F22
theorem okK22 : z0a Tryz.prog 22 (mkCall ps22 rs22 K22) := call22
noncomputable def K24 : TF24 := F24
theorem okK24 : z0a Tryz.prog 24 (mkCall ps24 rs24 K24) := call24
noncomputable def K66 : TF66 := F66 K51
theorem okK66 : z0a Tryz.prog 66 (mkCall ps66 rs66 K66) := call66 z6j
noncomputable def K25 : TF25 := F25 K51 K65 K66
theorem okK25 : z0a Tryz.prog 25 (mkCall ps25 rs25 K25) := call25 z6j okK65 okK66
noncomputable def K67 : TF67 := F67 K68
theorem okK67 : z0a Tryz.prog 67 (mkCallB z6S rs67 m67 1 K67) := call67 okK68
noncomputable def K26 : TF26 := F26 K51 K65 K67
theorem okK26 : z0a Tryz.prog 26 (mkCallB z6V rs26 m26 1 K26) := call26 z6j okK65 okK67
noncomputable def K27 : TF27 := F27 K50 K51 K52 K68
theorem okK27 : z0a Tryz.prog 27 (mkCallB z6U rs27 m27 1 K27) := call27 okK50 z6j okK52 okK68
noncomputable def K29 : TF29 := F29 K28 K70
theorem okK29 : z0a Tryz.prog 29 (mkCall ps29 rs29 K29) := call29 okK28 okK70
noncomputable def K9 : TF9 := F9 K12 K14 K16 K17 K19 K22 K24 K25 K26 K27 K28 K29
theorem okK9 : z0a Tryz.prog 9 (mkCall ps9 rs9 K9) := call9 okK12 okK14 okK16 okK17 okK19 okK22 okK24 okK25 okK26 okK27 okK28 okK29
end Go.Proofs.Rf
namespace Go.Proofs.Rf
open Go Go.RowKit
theorem K9_val : K9 () = some ((true, ()), ()) := by kernel_rfl
end Go.Proofs.Rf
namespace Go.Proofs.Rf
open Go Go.RowKit
theorem L61_val (l : List Int) : L61 (l, l, ()) = some ((true, ()), ()) := by
 refine (F61_eq l l).trans ?_
 rw [show (List.map (fun n : Int => UInt8.ofNat n.toNat) l == List.map (fun n : Int => UInt8.ofNat n.toNat) l) = true by rw [beq_iff_eq]]
theorem L21_val (x : Ans) : L21 (x, x, ()) = some ((true, ()), ()) := by
 obtain ⟨⟨a0, a1⟩, ⟨b0, b1, b2, b3⟩, c, d, l⟩ := x
 refine (F21_eq L61 a0 a1 b0 b1 b2 b3 c d l a0 a1 b0 b1 b2 b3 c d l).trans ?_
 rw [if_pos (by simp), if_pos (by simp), if_pos (by simp), if_pos (by simp), L61_val]
 rfl
structure Sh (a : Ac) : Prop where
 ty : a.2.1.length ≤ 100
 by_ : a.2.2.2.2.2.2.2.2.2.1.length ≤ 100
 un : a.2.2.2.2.2.2.2.2.2.2.length ≤ 100
theorem S8_4_step (l : List Ac) {i : Nat} (hi : i < l.length) (hl : l.length ≤ 60) :
  (S8_4 ((l, (l.length : Int), (i : Int), ()), ()) = some (.inl ((l, (l.length : Int), ((i + 1 : Nat) : Int), ()), ())) ∧ Sh (l.getD i dAc)) ∨ S8_4 ((l, (l.length : Int), (i : Int), ()), ()) = some (.inr (.inl ((false, ()), ()))) := by
 have e := S8_4_eq l (l.length : Int) (i : Int)
 have e1 : IntKind.i64.wrap ((i : Int) + 1) = ((i + 1 : Nat) : Int) := by rw [wi (by omega) (by omega)]; omega
 rw [if_pos (by rw [decide_eq_true_eq]; omega), if_pos (by omega), if_pos (by omega), Int.toNat_natCast, e1] at e
 have fin : ∀ {x : Option (z7Z.den ⊕ denX w8_4)}, x = (if decide (((l.getD i dAc).2.1.length : Int) > 100) = true then some (Sum.inr (Sum.inl ((false, ()), ())))
   else if decide (((l.getD i dAc).2.2.2.2.2.2.2.2.2.1.length : Int) > 100) = true then some (Sum.inr (Sum.inl ((false, ()), ())))
   else if decide (((l.getD i dAc).2.2.2.2.2.2.2.2.2.2.length : Int) > 100) = true then some (Sum.inr (Sum.inl ((false, ()), ())))
   else some (Sum.inl ((l, (l.length : Int), ((i + 1 : Nat) : Int), ()), ()))) → (x = some (.inl ((l, (l.length : Int), ((i + 1 : Nat) : Int), ()), ())) ∧ Sh (l.getD i dAc)) ∨ x = some (.inr (.inl ((false, ()), ()))) := by
  intro x hx
  by_cases h1 : ((l.getD i dAc).2.1.length : Int) > 100
  ·rw [if_pos (decide_eq_true h1)] at hx
   exact .inr hx
  ·rw [if_neg (by rw [decide_eq_true_eq]; exact h1)] at hx
   by_cases h2 : ((l.getD i dAc).2.2.2.2.2.2.2.2.2.1.length : Int) > 100
   ·rw [if_pos (decide_eq_true h2)] at hx
    exact .inr hx
   ·rw [if_neg (by rw [decide_eq_true_eq]; exact h2)] at hx
    by_cases h3 : ((l.getD i dAc).2.2.2.2.2.2.2.2.2.2.length : Int) > 100
    ·rw [if_pos (decide_eq_true h3)] at hx
     exact .inr hx
    ·rw [if_neg (by rw [decide_eq_true_eq]; exact h3)] at hx
     exact .inl ⟨hx, by omega, by omega, by omega⟩
 split at e
 ·split at e
  ·split at e
   ·exact .inr e
   ·exact fin e
  ·exact fin e
 ·exact fin e
theorem L8_val (l : List Ac) : ∃ b : Bool, L8 (l, ()) = some ((b, ()), ()) ∧ (b = true → l.length ≤ 60 ∧ ∀ i, i < l.length → Sh (l.getD i dAc)) := by
 have e : L8 (l, ()) = _ := F8_eq Lg8_4 l
 by_cases hl : (l.length : Int) > 60
 ·rw [if_pos (decide_eq_true hl)] at e
  exact ⟨false, e, fun q => by cases q⟩
 ·rw [if_neg (by rw [decide_eq_true_eq]; exact hl)] at e
  obtain ⟨z, h1, h2⟩ := z0K (f := S8_4) (fun t => l.length - t.1.2.2.1.toNat)
   (fun t => ∃ i : Nat, i ≤ l.length ∧ t = ((l, (l.length : Int), (i : Int), ()), ()) ∧ ∀ j, j < i → Sh (l.getD j dAc))
   (fun z => z = .inl ((false, ()), ()) ∨ (z = .inr ((), ()) ∧ ∀ j, j < l.length → Sh (l.getD j dAc))) (by
   rintro t ⟨i, hi, rfl, hs⟩
   by_cases h : i < l.length
   ·rcases S8_4_step l h (by omega) with ⟨h1, h2⟩ | h1
    ·refine .inl ⟨_, h1, ⟨i + 1, by omega, rfl, fun j hj => ?_⟩, ?_⟩
     ·by_cases hji : j = i
      ·subst hji; exact h2
      ·exact hs j (by omega)
     ·show l.length - ((i + 1 : Nat) : Int).toNat < l.length - (i : Int).toNat
      omega
    ·exact .inr ⟨_, h1, .inl rfl⟩
   ·have : i = l.length := by omega
    subst this
    rw [S8_4_eq, if_neg (by rw [decide_eq_true_eq]; omega)]
    exact .inr ⟨_, rfl, .inr ⟨rfl, hs⟩⟩) ((l, (l.length : Int), ((0 : Nat) : Int), ()), ()) ⟨0, by omega, rfl, fun j hj => by omega⟩
  have h1 : Lg8_4 ((l, (l.length : Int), 0, ()), ()) = some z := h1
  rw [h1] at e
  rcases h2 with rfl | ⟨rfl, h2⟩
  ·exact ⟨false, e, fun q => by cases q⟩
  ·exact ⟨true, e, fun _ => ⟨by omega, h2⟩⟩
def Lv (m : List Bp) (kind : Int) (n : Nat) : List Int := ((List.range n).filter fun i => decide ((m.getD i dB).1.1 = kind) && !(m.getD i dB).1.2.2.2).map fun i : Nat => (i : Int)
theorem Lv_succ (m : List Bp) (kind : Int) (n : Nat) : Lv m kind (n + 1) = if (m.getD n dB).1.1 = kind ∧ (m.getD n dB).1.2.2.2 = false then Lv m kind n ++ [(n : Int)] else Lv m kind n := by
 unfold Lv
 rw [List.range_succ, List.filter_append, List.map_append]
 by_cases h : (m.getD n dB).1.1 = kind ∧ (m.getD n dB).1.2.2.2 = false
 ·rw [if_pos h, List.filter_cons, if_pos (by rw [decide_eq_true h.1, h.2]; rfl)]
  rfl
 ·rw [if_neg h, List.filter_cons, if_neg (by
   intro q
   rw [Bool.and_eq_true, decide_eq_true_eq, Bool.not_eq_true'] at q
   exact h q)]
  simp
theorem Lv_len (m : List Bp) (kind : Int) (n : Nat) : (Lv m kind n).length ≤ n := by
 unfold Lv
 rw [List.length_map]
 have := List.length_filter_le (fun i => decide ((m.getD i dB).1.1 = kind) && !(m.getD i dB).1.2.2.2) (List.range n)
 rwa [List.length_range] at this
theorem L33_val {m : List Bp} (hl : m.length ≤ 1000) (u kind : Int) : L33 ((m, u, ()), kind, ()) = some (((), ()), Lv m kind m.length, ()) := by
 refine (F33_eq Lg33_3 m u kind).trans ?_
 obtain ⟨z, h1, rfl⟩ := z0K (f := S33_3) (fun t => m.length - t.1.2.2.2.2.1.toNat)
  (fun t => ∃ i : Nat, i ≤ m.length ∧ t = ((kind, (), m, (m.length : Int), (i : Int), ()), Lv m kind i, ()))
  (fun z => z = (((), ()), Lv m kind m.length, ())) (by
  rintro t ⟨i, hi, rfl⟩
  rw [S33_3_eq]
  have hle := Lv_len m kind i
  by_cases h : i < m.length
  ·rw [if_pos (by rw [decide_eq_true_eq]; omega), if_pos (by omega), if_pos (by omega), Int.toNat_natCast, wi (by omega) (by omega)]
   refine .inl ⟨((kind, (), m, (m.length : Int), ((i + 1 : Nat) : Int), ()), Lv m kind (i + 1), ()), ?_, ⟨i + 1, by omega, rfl⟩, ?_⟩
   ·rw [Lv_succ]
    by_cases k1 : (m.getD i dB).1.1 = kind
    ·rw [if_pos (by rw [beq_iff_eq]; exact k1)]
     cases k2 : (m.getD i dB).1.2.2.2 with
     | true => rw [if_neg (by decide), if_neg (by rintro ⟨_, q⟩; cases q)]; rfl
     | false =>
      have q3 : (Lv m kind i).length + [(i : Int)].length ≤ 4294967296 := by simp; omega
      rw [if_pos (by decide), if_pos q3, if_pos ⟨k1, rfl⟩]; rfl
    ·rw [if_neg (by rw [beq_iff_eq]; exact k1), if_neg fun q => k1 q.1]; rfl
   ·show m.length - ((i + 1 : Nat) : Int).toNat < m.length - (i : Int).toNat
    omega
  ·have : i = m.length := by omega
   subst this
   rw [if_neg (by rw [decide_eq_true_eq]; omega)]
   exact .inr ⟨_, rfl, rfl⟩) ((kind, (), m, (m.length : Int), ((0 : Nat) : Int), ()), Lv m kind 0, ()) ⟨0, by omega, rfl⟩
 have h1 : Lg33_3 ((kind, (), m, (m.length : Int), 0, ()), [], ()) = _ := h1
 rw [h1]
 rfl
theorem L34_val {m : List Bp} (hl : m.length ≤ 1000) (u kind : Int) : L34 ((cv m, u, ()), kind, ()) = some (((), ()), Lv m kind m.length, ()) := by
 refine (F34_eq Lg34_3 (cv m) u kind).trans ?_
 obtain ⟨z, h1, rfl⟩ := z0K (f := S34_3) (fun t => m.length - t.1.2.2.2.1.toNat)
  (fun t => ∃ i : Nat, i ≤ m.length ∧ t = (((cv m, u, ()), kind, (), (i : Int), ()), Lv m kind i, ()))
  (fun z => z = (((), ()), Lv m kind m.length, ())) (by
  rintro t ⟨i, hi, rfl⟩
  rw [S34_3_eq, z0z]
  have hle := Lv_len m kind i
  by_cases h : i < m.length
  ·have q1 : (0 : Int) ≤ (i : Int) := by omega
   have q2 : (i : Int) < (m.length : Int) := by omega
   rw [if_pos (decide_eq_true q2)]
   simp only [if_pos q1, if_pos q2, Int.toNat_natCast]
   rw [wi (by omega) (by omega), show (cv m).getD i ((0, 0, false, false), []) = _ from z2e h]
   refine .inl ⟨(((cv m, u, ()), kind, (), ((i + 1 : Nat) : Int), ()), Lv m kind (i + 1), ()), ?_, ⟨i + 1, by omega, rfl⟩, ?_⟩
   ·rw [Lv_succ]
    show (if (!(m.getD i dB).1.2.2.2) = true then if ((m.getD i dB).1.1 == kind) = true then _ else _ else _) = _
    cases k2 : (m.getD i dB).1.2.2.2 with
    | true => rw [if_neg (by decide), if_neg (by rintro ⟨_, q⟩; cases q)]; rfl
    | false =>
     rw [if_pos (by decide)]
     by_cases k1 : (m.getD i dB).1.1 = kind
     ·have q3 : (Lv m kind i).length + [(i : Int)].length ≤ 4294967296 := by simp; omega
      rw [if_pos (by rw [beq_iff_eq]; exact k1), if_pos q3, if_pos ⟨k1, rfl⟩]; rfl
     ·rw [if_neg (by rw [beq_iff_eq]; exact k1), if_neg fun q => k1 q.1]; rfl
   ·show m.length - ((i + 1 : Nat) : Int).toNat < m.length - (i : Int).toNat
    omega
  ·have : i = m.length := by omega
   subst this
   rw [if_neg (by rw [decide_eq_true_eq]; omega)]
   exact .inr ⟨_, rfl, rfl⟩) (((cv m, u, ()), kind, (), ((0 : Nat) : Int), ()), Lv m kind 0, ()) ⟨0, by omega, rfl⟩
 have h1 : Lg34_3 (((cv m, u, ()), kind, (), 0, ()), [], ()) = _ := h1
 rw [h1]
 rfl
theorem L32_val {l : List Int} (hl : l.length ≤ 1000) : L32 (l, l, ()) = some ((true, ()), ()) := by
 refine (F32_eq Lg32_4 l l).trans ?_
 rw [if_neg (by simp)]
 obtain ⟨z, h1, rfl⟩ := z0K (f := S32_4) (fun t => l.length - t.1.2.2.1.toNat)
  (fun t => ∃ i : Nat, i ≤ l.length ∧ t = ((l, l, (i : Int), ()), ())) (fun z => z = .inr ((), ())) (by
  rintro t ⟨i, hi, rfl⟩
  rw [S32_4_eq]
  by_cases h : i < l.length
  ·have q1 : (0 : Int) ≤ (i : Int) := by omega
   have q2 : (i : Int) < (l.length : Int) := by omega
   rw [if_pos (decide_eq_true q2)]
   simp only [if_pos q1, if_pos q2]
   rw [if_neg (by simp), wi (by omega) (by omega)]
   refine .inl ⟨_, rfl, ⟨i + 1, by omega, rfl⟩, ?_⟩
   show l.length - ((i : Int) + 1).toNat < l.length - (i : Int).toNat
   omega
  ·rw [if_neg (by rw [decide_eq_true_eq]; omega)]
   exact .inr ⟨_, rfl, rfl⟩) ((l, l, ((0 : Nat) : Int), ()), ()) ⟨0, by omega, rfl⟩
 have h1 : Lg32_4 ((l, l, 0, ()), ()) = _ := h1
 rw [h1]
 rfl
theorem capA_ok {a : Ac} (h : Sh a) : ActOK (capA a) := ⟨by show (0 : Int) ≤ 1099511627776; decide, by have := h.ty; show a.2.1.length ≤ 1000; omega, by have := h.by_; show a.2.2.2.2.2.2.2.2.2.1.length ≤ 1000; omega, by have := h.un; show a.2.2.2.2.2.2.2.2.2.2.length ≤ 1000; omega⟩
theorem act_sh {a : Ac} (h : Sh a) (h0 : 0 ≤ a.2.2.2.2.2.2.2.1) : ActOK a := ⟨h0, by have := h.ty; omega, by have := h.by_; omega, by have := h.un; omega⟩
structure At (m : List Bp) (u : Int) (i : Nat) : Prop where
 inv : Inv m
 len : m.length ≤ i
 lo : -70000 * (i : Int) ≤ u
 hi : u ≤ 70000 * (i : Int)
theorem At.next {m m' : List Bp} {u u' : Int} {i : Nat} {hp : Prop} (h : At m u i) (s : Stp m u hp m' u') : At m' u' (i + 1) :=
 ⟨s.inv, by have := s.len; have := h.len; omega, by have := s.lo; have := h.lo; omega, by have := s.hi; have := h.hi; omega⟩
theorem S10_5_step {m : List Bp} {u : Int} {i : Nat} (hA : At m u i) {l : List Ac} (hl : l.length ≤ 60) (hi : i < l.length) (hs : Sh (l.getD i dAc)) (h0 : 0 ≤ (l.getD i dAc).2.2.2.2.2.2.2.1) (fr to : Int) :
  ∃ m' u', S10_5 L13 L21 L31 ((fr, to, (), (), l, (l.length : Int), (i : Int), ()), ((), u, ()), ((), u, ()), m, cv m, ()) = some (.inl ((fr, to, (), (), l, (l.length : Int), ((i + 1 : Nat) : Int), ()), ((), u', ()), ((), u', ()), m', cv m', ())) ∧ At m' u' (i + 1) := by
 have hlo := hA.lo
 have hhi := hA.hi
 have hlen := hA.len
 have key : ∀ a, ActOK a → ∃ m' u', kont10 L13 L21 L31 fr to l (l.length : Int) (i : Int) u u m (cv m) a = some (.inl ((fr, to, (), (), l, (l.length : Int), ((i + 1 : Nat) : Int), ()), ((), u', ()), ((), u', ()), m', cv m', ())) ∧ At m' u' (i + 1) := by
  intro a ha
  obtain ⟨ans, m', u', g1, g2, g3⟩ := act_ok hA.inv (show m.length < 1000 by omega) (show -1000000000 ≤ u by omega) (show u ≤ 1000000000 by omega) a ha
  refine ⟨m', u', ?_, hA.next g3⟩
  unfold kont10
  rw [g2]
  simp only [Option.bind_some]
  rw [g1]
  simp only [Option.bind_some]
  rw [L21_val, wi (by omega) (by omega)]
  simp only [Option.bind_some]
  split
  ·split
   ·rfl
   ·rfl
  ·rfl
 rw [S10_5_eq, if_pos (by rw [decide_eq_true_eq]; omega), if_pos (by omega), if_pos (by omega), Int.toNat_natCast]
 split
 ·split
  ·exact key _ (capA_ok hs)
  ·exact key _ (act_sh hs h0)
 ·exact key _ (act_sh hs h0)
theorem Lg10_5_val {l : List Ac} (hl : l.length ≤ 60) (hs : ∀ i, i < l.length → Sh (l.getD i dAc)) (h0 : ∀ i, i < l.length → 0 ≤ (l.getD i dAc).2.2.2.2.2.2.2.1) (fr to : Int) :
  ∃ m u, Lg10_5 ((fr, to, (), (), l, (l.length : Int), 0, ()), ((), 0, ()), ((), 0, ()), [], [], ()) = some (.inr ((fr, (), (), ()), ((), u, ()), ((), u, ()), m, cv m, ())) ∧ At m u l.length := by
 obtain ⟨z, h1, m, u, rfl, h2⟩ := z0K (f := S10_5 L13 L21 L31) (fun t => l.length - t.1.2.2.2.2.2.2.1.toNat)
  (fun t => ∃ (i : Nat) (m : List Bp) (u : Int), i ≤ l.length ∧ t = ((fr, to, (), (), l, (l.length : Int), (i : Int), ()), ((), u, ()), ((), u, ()), m, cv m, ()) ∧ At m u i)
  (fun z => ∃ m u, z = .inr ((fr, (), (), ()), ((), u, ()), ((), u, ()), m, cv m, ()) ∧ At m u l.length) (by
  rintro t ⟨i, m, u, hi, rfl, hA⟩
  by_cases h : i < l.length
  ·obtain ⟨m', u', g1, g2⟩ := S10_5_step hA hl h (hs i h) (h0 i h) fr to
   refine .inl ⟨_, g1, ⟨i + 1, m', u', by omega, rfl, g2⟩, ?_⟩
   show l.length - ((i + 1 : Nat) : Int).toNat < l.length - (i : Int).toNat
   omega
  ·have : i = l.length := by omega
   subst this
   rw [S10_5_eq, if_neg (by rw [decide_eq_true_eq]; omega)]
   exact .inr ⟨_, rfl, m, u, rfl, hA⟩) ((fr, to, (), (), l, (l.length : Int), ((0 : Nat) : Int), ()), ((), 0, ()), ((), 0, ()), [], [], ()) ⟨0, [], 0, by omega, rfl, ⟨by simp, fun b hb => by cases hb⟩, by simp, by omega, by omega⟩
 exact ⟨m, u, h1, h2⟩
theorem Lg10_15_val {m : List Bp} (hl : m.length ≤ 1000) (fr u : Int) : Lg10_15 ((fr, (), (), -1, ()), ((), u, ()), ((), u, ()), m, cv m, ()) = some (.inr ((fr, (), (), ()), ((), u, ()), ((), u, ()), m, cv m, ())) := by
 obtain ⟨z, h1, rfl⟩ := z0K (f := S10_15 L32 L33 L34) (fun t => (3 - t.1.2.2.2.1 + 1).toNat)
  (fun t => ∃ k : Int, -1 ≤ k ∧ k ≤ 4 ∧ t = ((fr, (), (), k, ()), ((), u, ()), ((), u, ()), m, cv m, ()))
  (fun z => z = .inr ((fr, (), (), ()), ((), u, ()), ((), u, ()), m, cv m, ())) (by
  rintro t ⟨k, hk, hk2, rfl⟩
  rw [S10_15_eq]
  by_cases h : k ≤ 3
  ·rw [if_pos (by rw [decide_eq_true_eq]; exact h), wi (by omega) (by omega)]
   have next : ∃ y, (some (Sum.inl ((fr, (), (), k + 1, ()), ((), u, ()), ((), u, ()), m, cv m, ())) : Option (z2K.den ⊕ denX z4A)) = some (.inl y) ∧ (∃ k' : Int, -1 ≤ k' ∧ k' ≤ 4 ∧ y = ((fr, (), (), k', ()), ((), u, ()), ((), u, ()), m, cv m, ())) ∧ (3 - y.1.2.2.2.1 + 1).toNat < (3 - k + 1).toNat := by
    refine ⟨_, rfl, ⟨k + 1, by omega, by omega, rfl⟩, ?_⟩
    show (3 - (k + 1) + 1).toNat < (3 - k + 1).toNat
    omega
   left
   by_cases hf : fr = 0
   ·rw [if_pos (by rw [beq_iff_eq]; exact hf), L33_val hl, L34_val hl]
    simp only [Option.bind_some]
    rw [L32_val (by have := Lv_len m k m.length; omega)]
    simp only [Option.bind_some]
    rw [if_neg (by decide)]
    exact next
   ·rw [if_neg (by rw [beq_iff_eq]; exact hf)]
    exact next
  ·rw [if_neg (by rw [decide_eq_true_eq]; exact h)]
   exact .inr ⟨_, rfl, rfl⟩) ((fr, (), (), -1, ()), ((), u, ()), ((), u, ()), m, cv m, ()) ⟨-1, by omega, by omega, rfl⟩
 exact h1
theorem L10_val {l : List Ac} (hl : l.length ≤ 60) (hs : ∀ i, i < l.length → Sh (l.getD i dAc)) (h0 : ∀ i, i < l.length → 0 ≤ (l.getD i dAc).2.2.2.2.2.2.2.1) (fr to : Int) : L10 (l, fr, to, ()) = some ((true, ()), ()) := by
 refine (F10_eq L12 L22 L30 L35 Lg10_5 Lg10_15 l fr to).trans ?_
 rw [show L12 () = _ from F12_eq, show L30 () = _ from F30_eq]
 simp only [Option.bind_some]
 obtain ⟨m, u, g1, g2⟩ := Lg10_5_val hl hs h0 fr to
 rw [g1]
 simp only [Option.bind_some, Sum.elim_inr]
 rw [Lg10_15_val (by have := g2.len; omega)]
 simp only [Option.bind_some, Sum.elim_inr]
 split
 ·rfl
 ·rw [show L22 ((m, u, ()), ()) = some ((u, ()), ()) from F22_eq m u, show L35 ((cv m, u, ()), ()) = some ((u, ()), ()) from F35_eq (cv m) u]
  simp only [Option.bind_some]
  rw [show (u == u) = true by simp]
noncomputable def law5 : (SV.denL ps5) → Option (rs5).den := F5 L8 K9 L10
theorem law5_ok : z0a Tryz.prog 5 (mkCall ps5 rs5 law5) := call5 okL10 okL8 okK9
theorem law_acts {l : List Ac} (h0 : ∀ a ∈ l, 0 ≤ a.2.2.2.2.2.2.2.1) (fr to : Int) : ((L8 (l, ())).bind fun y =>
  if (!y.1.1) = true then (K9 ()).bind fun y => some ((y.1.1, ()), ())
  else
   (L10 (l, fr, to, ())).bind fun y =>
    if y.1.1 = true then (K9 ()).bind fun y => some ((y.1.1, ()), ()) else some ((false, ()), ()) : Option rs3.den) = some ((true, ()), ()) := by
 obtain ⟨b, h1, h2⟩ := L8_val l
 rw [h1, show K9 () = _ from K9_val]
 simp only [Option.bind_some]
 cases b with
 | false => rfl
 | true =>
  obtain ⟨h3, h4⟩ := h2 rfl
  rw [if_neg (by decide), L10_val h3 h4 (fun i hi => h0 _ (by rw [z1S dAc hi]; exact List.getElem_mem hi)) fr to]
  rfl
theorem law5_true {l : List Ac} (h0 : ∀ a ∈ l, 0 ≤ a.2.2.2.2.2.2.2.1) : law5 (l, ()) = some ((true, ()), ()) := (F5_eq L8 K9 L10 l).trans (law_acts h0 11 12)
end Go.Proofs.Rf
namespace Go.Proofs.Rf
open Go Go.RowKit
def iNone : Nat → Option Value := fun _ => none
def cDead : Nat → Blk := fun _ => .dead
theorem z3S {ι : Nat → Option Value} {b : Nat} : ¬ owned ι cDead b := by
 rintro ⟨k, hk⟩
 rw [z0V rfl] at hk
 cases hk
theorem HRel.start (w : World) (hg : GlOK w (fun b => b < w.heap.size)) : HRel (fun _ => False) (fun b => b < w.heap.size) w iNone cDead w :=
 ⟨fun k => trivial, fun k k' b h1 _ => (by rw [z0V rfl] at h1; cases h1), Kept.refl _ _, fun b hb => (z3S hb).elim, fun b hb => hb, fun b hb => (z3S hb).elim, fun b hb => hb.elim, hg.mono fun g q => ⟨⟨q, z3S, fun q => q⟩, rfl⟩⟩
theorem law_walk {P : Program} {f : Nat} {ps : List SV} {F : SV.denL ps → Option (Shape.den ⟨[(0, .d false .bool)], []⟩)} (h : z0a P f (mkCall ps ⟨[(0, .d false .bool)], []⟩ F)) (w : World) {args : List AV} {vs : List Value} {x : SV.denL ps} {fz : List (Nat × Blk)}
  (ht : SV.takeL cDead [] ps args = some (x, fz)) (hF : F x = some ((true, ()), ())) (hrel : RelL w (fun b => b < w.heap.size) iNone args vs) (hg : GlOK w (fun b => b < w.heap.size)) : Calls P f vs.toArray w fun e w' => e = .returned (.bool true) ∧ Below w.heap.size w w' := by
 have hok : okb (fun _ => False) w iNone cDead = fun b => b < w.heap.size := by
  funext b
  exact propext ⟨fun q => q.1, fun q => ⟨q, z3S, fun q => q⟩⟩
 have hco : mkCall ps ⟨[(0, .d false .bool)], []⟩ F args cDead 0 Eff some = some ⟨.d .bool true, [], []⟩ := by
  unfold mkCall
  rw [ht]
  simp only [hF]
  rfl
 refine (h.run _ _ w w iNone cDead 0 args vs _ (HRel.start w hg) (by rw [hok]; exact hrel) hco (fun _ _ _ => rfl)).mono ?_
 rintro e w' ⟨v, rfl, ι', H, E, hv, _⟩
 have hv := z0u.1 hv
 exact ⟨by rw [hv], H.fr.os, H.fr.tape, H.fr.output, H.fr.size, fun i hi => H.fr.block i hi hi⟩
end Go.Proofs.Rf
namespace Go.Proofs.Rf
open Go Go.RowKit Go.ChangeShapes Go.WideShapes
def fitK (k : IntKind) (n : Int) : Prop := k.min ≤ n ∧ n ≤ k.max
def Ty.fit : (t : Ty) → t.den → Prop
 | .int k, n => fitK k n
 | .str, s => s.length ≤ maxLen
 | .sl t, xs => xs.length ≤ maxLen ∧ ∀ x ∈ xs, t.fit x
 | .pr a b, x => a.fit x.1 ∧ b.fit x.2
 | _, _ => True
def tyFs (g : Nat → Option Ty) (c : Nat → Nat) : Nat → List Field → Option (List Ty)
 | _, [] => some []
 | o, f :: r => match g f.type with
  | some ty => if (Nat.beq f.offset o && Nat.beq (c f.type) ty.size) = true then (match tyFs g c (o + ty.size) r with
   | some ts => some (ty :: ts)
   | none => none) else none
  | none => none
def goodTy (P : Program) : Nat → Nat → Option Ty
 | 0, _ => none
 | k + 1, t => match P.underlying t with
  | some (.int i) => some (.int i)
  | some .bool => some .bool
  | some .string => some .str
  | some (.slice e) => (match goodTy P k e with
   | some ty => if (Nat.blt 0 ty.size && Nat.beq (P.cellsOf e) ty.size) = true then some (.sl ty) else none
   | none => none)
  | some (.struct fields) => (match tyFs (goodTy P k) P.cellsOf 0 fields.toList with
   | some ts => if Nat.beq (P.cellsOf t) (prL ts).size = true then some (prL ts) else none
   | none => none)
  | _ => none
section
variable {H : Type} {enc : TypeId × Value → H} {P : Program} {w : World} {sp : Nat → Bool} {held : Bool}
theorem cells_get {a : Addr} {n : Nat} {cs : List Value} (h : w.cells? 0 a n = some cs) : cs.length = n ∧ ∀ j u, cs[j]? = some u → w.cell? (a.add j) = some u := by
 unfold World.cells? at h
 rw [if_pos (Nat.zero_le _)] at h
 have hl := mapM_some_length h
 rw [List.length_range] at hl
 refine ⟨hl, fun j u hu => ?_⟩
 have hj : j < n := by
  rw [← hl]
  exact (List.getElem?_eq_some_iff.1 hu).1
 have := mapM_some_get h j j (by simp [hj])
 rw [hu] at this
 exact this
theorem add_plain (g o j : Nat) : Addr.add ⟨g, o, none⟩ j = ⟨g, o + j, none⟩ := by
 unfold Addr.add
 split
 ·rename_i h
  rw [h]; rfl
 ·rfl
theorem add_two (a : Addr) {m r j : Nat} (h : m + r = j) : (a.add m).add r = a.add j := by
 subst h
 unfold Addr.add
 by_cases h1 : m = 0
 ·subst h1
  simp
 ·by_cases h2 : r = 0
  ·subst h2
   simp [h1]
  ·rw [if_neg h1, if_neg h2, if_neg (by omega), Nat.add_assoc]
theorem cell_place {a : Addr} {u : Value} (h : w.cell? a = some u) : a.spot = none ∧ a.block < w.heap.size := by
 refine ⟨World.cell?_spot h, ?_⟩
 unfold World.cell? at h
 split at h
 ·rename_i h1
  exact (Array.getElem?_eq_some_iff.1 h1).1
 ·cases h
theorem rowL {α : Type} {D : α → List Value → Prop} {Q : α → Prop} {n : Nat} (at_ : Nat → Option (List Value)) : ∀ (len k : Nat), (∀ i, i < len → ∃ cs x, at_ (k + i) = some cs ∧ cs.length = n ∧ D x cs ∧ Q x) →
  ∃ (xs : List α) (cs : List Value), xs.length = len ∧ RzL D xs cs ∧ cs.length = len * n ∧ (∀ x ∈ xs, Q x) ∧ ∀ i j c, i < len → at_ (k + i) = some c → j < n → cs[i * n + j]? = c[j]?
 | 0, k, _ => ⟨[], [], rfl, rfl, by simp, by simp, fun i j c hi => by omega⟩
 | len + 1, k, h => by
  obtain ⟨c0, x0, h0, hl0, hd0, hq0⟩ := h 0 (by omega)
  obtain ⟨xs, cs, hxl, hr, hcl, hq, hg⟩ := rowL at_ len (k + 1) (fun i hi => by
   obtain ⟨c, x, h1, h2⟩ := h (i + 1) (by omega)
   exact ⟨c, x, by rw [show k + 1 + i = k + (i + 1) by omega]; exact h1, h2⟩)
  refine ⟨x0 :: xs, c0 ++ cs, by simp [hxl], ⟨c0, cs, rfl, hd0, hr⟩, by rw [List.length_append, hl0, hcl, Nat.add_mul]; omega, ?_, ?_⟩
  ·intro x hx
   rcases List.mem_cons.1 hx with rfl | hx
   ·exact hq0
   ·exact hq x hx
  ·intro i j c hi hc hj
   cases i with
   | zero =>
    rw [Nat.add_zero] at h0 hc
    rw [h0] at hc
    cases hc
    rw [Nat.zero_mul, Nat.zero_add, List.getElem?_append_left (by omega)]
   | succ i =>
    rw [List.getElem?_append_right (by rw [hl0, Nat.add_mul]; omega), show (i + 1) * n + j - c0.length = i * n + j by rw [hl0, Nat.add_mul]; omega]
    exact hg i j c (by omega) (by rw [show k + 1 + i = k + (i + 1) by omega]; exact hc) hj
theorem z7s {g : Nat → Option Ty} {c : Nat → Nat} {cs : List Value} {D : Nat → List Value → Prop} (ho : ∀ t ty us, g t = some ty → D t us → ∃ x : ty.den, Rz w (fun b => b < w.heap.size) ty x us ∧ ty.fit x) :
  ∀ (fs : List Field) (ts : List Ty) (o : Nat), tyFs g c o fs = some ts → (∀ f ∈ fs, D f.type ((cs.drop f.offset).take (c f.type))) → (cs.drop o).length = (prL ts).size →
   ∃ x : (prL ts).den, Rz w (fun b => b < w.heap.size) (prL ts) x (cs.drop o) ∧ (prL ts).fit x
 | [], ts, o, ht, _, hl => by
  cases ht
  exact ⟨(), List.eq_nil_of_length_eq_zero hl, trivial⟩
 | f :: r, ts, o, ht, hD, hl => by
  unfold tyFs at ht
  split at ht
  ·rename_i ty hty
   split at ht
   ·rename_i hc
    split at ht
    ·rename_i ts' hts
     cases ht
     simp only [Bool.and_eq_true] at hc
     have ho' := Nat.eq_of_beq_eq_true hc.1
     have hs := Nat.eq_of_beq_eq_true hc.2
     have hd := hD f (by simp)
     rw [ho', hs] at hd
     obtain ⟨x, hx, hf⟩ := ho _ _ _ hty hd
     cases ts' with
     | nil =>
      have hl : _ = ty.size := hl
      rw [List.take_of_length_le (by omega)] at hx
      exact ⟨x, hx, hf⟩
     | cons b r' =>
      have hl : _ = ty.size + (prL (b :: r')).size := hl
      obtain ⟨y, hy, hg⟩ := z7s ho r (b :: r') (o + ty.size) hts (fun f hf => hD f (by simp [hf])) (by rw [← List.drop_drop, List.length_drop]; omega)
      exact ⟨(x, y), ⟨_, _, by rw [← List.drop_drop, List.take_append_drop], hx, hy⟩, hf, hg⟩
    ·cases ht
   ·cases ht
  ·cases ht
theorem z5E : ∀ (k : Nat) (t : Nat) (ty : Ty), goodTy P k t = some ty → ∀ (fuel : Nat) (cs : List Value) (d : DataW H × List MemPlace), DataW.trod enc P w 0 sp held fuel t cs = some d →
  ∃ x : ty.den, Rz w (fun b => b < w.heap.size) ty x cs ∧ ty.fit x
 | 0, t, ty, hty, _, _, _, _ => by cases hty
 | k + 1, t, ty, hty, fuel, cs, d, h => by
  unfold goodTy at hty
  split at hty
  ·rename_i i hu
   cases hty
   obtain ⟨n, rfl, _, hw⟩ := DataW.trod_int hu h
   simp only [Lit.wf, Bool.and_eq_true, decide_eq_true_eq] at hw
   exact ⟨n, rfl, hw⟩
  ·rename_i hu
   cases hty
   obtain ⟨b, rfl, _⟩ := DataW.trod_bool hu h
   exact ⟨b, rfl, trivial⟩
  ·rename_i hu
   cases hty
   obtain ⟨s, rfl, _, hs⟩ := DataW.trod_string hu h
   refine ⟨s.data.toList, ?_, ?_⟩
   ·show _ = _
    cases s
    rfl
   ·show _ ≤ _
    rw [Array.length_toList]
    exact hs
  ·rename_i e hu
   split at hty
   ·rename_i te hte
    split at hty
    ·rename_i hc
     cases hty
     simp only [Bool.and_eq_true] at hc
     have hpos : 0 < te.size := Nat.le_of_ble_eq_true hc.1
     have hsz := Nat.eq_of_beq_eq_true hc.2
     rcases DataW.trod_slice hu h with ⟨rfl, _⟩ | ⟨a, len, cap, elems, rest, n, _, rfl, _, _, hlc, hcm, hel, hget, _, _⟩
     ·exact ⟨[], ⟨none, 0, rfl, Nat.le_refl _, fun hp => by simp at hp⟩, by simp [Ty.fit]⟩
     ·have hrow : ∀ i, i < len → ∃ cs x, (fun i => w.cells? 0 (a.add (i * te.size)) te.size) (0 + i) = some cs ∧ cs.length = te.size ∧ Rz w (fun b => b < w.heap.size) te x cs ∧ te.fit x := by
       intro i hi
       have hg := hget i hi
       rw [hsz, List.getElem?_eq_getElem (by omega)] at hg
       obtain ⟨c, h1, h2⟩ := Option.bind_eq_some_iff.1 hg
       obtain ⟨x, hx, hf⟩ := z5E k e te hte n c _ h2
       exact ⟨c, x, by rw [Nat.zero_add]; exact h1, (cells_get h1).1, hx, hf⟩
      obtain ⟨xs, cs, hxl, hr, hcl, hq, hg⟩ := rowL (fun i => w.cells? 0 (a.add (i * te.size)) te.size) len 0 hrow
      refine ⟨xs, ⟨some a, cap, by rw [hxl], by rw [hxl]; exact hlc, fun hp => ?_⟩, by rw [hxl]; omega, hq⟩
      rw [hxl] at hp
      have hcell : ∀ j u, cs[j]? = some u → w.cell? (a.add j) = some u := by
       intro j u hu
       have hj : j < len * te.size := by rw [← hcl]; exact (List.getElem?_eq_some_iff.1 hu).1
       have hi : j / te.size < len := Nat.div_lt_of_lt_mul (by rw [Nat.mul_comm]; exact hj)
       obtain ⟨c, _, h1, hl, _⟩ := hrow (j / te.size) hi
       have hjm : j % te.size < te.size := Nat.mod_lt _ hpos
       have e1 : j / te.size * te.size + j % te.size = j := by rw [Nat.mul_comm]; exact Nat.div_add_mod _ _
       have := hg (j / te.size) (j % te.size) c hi h1 hjm
       rw [e1, hu] at this
       rw [Nat.zero_add] at h1
       have h3 := (cells_get h1).2 (j % te.size) u this.symm
       have e2 : (a.add (j / te.size * te.size)).add (j % te.size) = a.add j := add_two a e1
       rw [← e2]
       exact h3
      have h0 : ∃ u, cs[0]? = some u := by
       refine ⟨_, List.getElem?_eq_getElem ?_⟩
       rw [hcl]
       exact Nat.mul_pos hp hpos
      obtain ⟨u, hu⟩ := h0
      have hp := cell_place (hcell 0 u hu)
      obtain ⟨g, o, s⟩ := a
      obtain ⟨hp1, hp2⟩ := hp
      have hs : s = none := hp1
      subst hs
      exact ⟨g, o, cs, rfl, hp2, hr, fun j u hu => by rw [← add_plain]; exact hcell j u hu⟩
    ·cases hty
   ·cases hty
  ·rename_i fields hu
   split at hty
   ·rename_i ts hts
    split at hty
    ·rename_i hc
     cases hty
     obtain ⟨xs, n, _, _, hlen, _, hf⟩ := DataW.trod_struct hu h
     rw [Nat.eq_of_beq_eq_true hc] at hlen
     have hf : ∀ f ∈ fields.toList, ∃ y, DataW.trod enc P w 0 sp held n f.type ((cs.drop f.offset).take (P.cellsOf f.type)) = some y := by
      intro f hm
      obtain ⟨i, hi, e⟩ := List.getElem_of_mem hm
      have hi' : i < fields.size := by simpa using hi
      have e' : fields[i]? = some f := by rw [Array.getElem?_eq_getElem hi']; simp only [← e, Array.getElem_toList]
      have := hf i f e'
      rw [this]
      exact ⟨xs[i]'(by omega), List.getElem?_eq_getElem _⟩
     have := z7s (cs := cs) (D := fun t us => ∃ y, DataW.trod enc P w 0 sp held n t us = some y) (fun t ty us h1 ⟨y, h2⟩ => z5E k t ty h1 n us y h2) fields.toList ts 0 hts hf (by rw [List.drop_zero]; exact hlen)
     rw [List.drop_zero] at this
     exact this
    ·cases hty
   ·cases hty
  ·cases hty
def aggB (P : Program) (t : Nat) : Bool := match P.underlying t with
 | some (.struct _) => true
 | _ => false
theorem z3q : ∀ (t : Ty), t.eqv t = some ⟨rfl⟩
 | .int k => by
  have : ikEq k k = true := by cases k <;> rfl
  simp [Ty.eqv, this]
 | .bool => rfl
 | .str => rfl
 | .sl t => by
  unfold Ty.eqv
  rw [z3q t]
 | .pr a b => by
  unfold Ty.eqv
  rw [z3q a, z3q b]
 | .un => rfl
 | .ic => rfl
 | .fv => rfl
 | .fk f => by simp [Ty.eqv]
 | .tr a b => by
  unfold Ty.eqv
  rw [z3q a, z3q b]
theorem z3m (C : Nat → Blk) : ∀ (t : Ty) (x : t.den) (r : List AV), pack C t (unpack t x ++ r) = some (x, r, [])
 | .int k, x, r => by
  have : dat1 C (.int k) (.d (.int k) x) = some (x, []) := by
   show (if ikEq k k = true then some (x, []) else none) = _
   rw [if_pos (by cases k <;> rfl)]
  show (match dat1 C (.int k) (.d (.int k) x) with | some (x, f) => some (x, r, f) | none => none) = _
  rw [this]
 | .bool, x, r => rfl
 | .str, x, r => rfl
 | .sl t, x, r => by
  have : dat1 C (.sl t) (.d (.sl t) x) = some (x, []) := by
   simp only [dat1, z3q]
   rfl
  show (match dat1 C (.sl t) (.d (.sl t) x) with | some (x, f) => some (x, r, f) | none => none) = _
  rw [this]
 | .pr a b, x, r => by
  show pack C (.pr a b) ((unpack a x.1 ++ unpack b x.2) ++ r) = _
  rw [List.append_assoc]
  unfold pack
  rw [z3m C a x.1]
  simp only
  rw [z3m C b x.2]
  rfl
 | .un, x, r => rfl
 | .ic, x, r => rfl
 | .fv, x, r => rfl
 | .fk f, x, r => by
  have : dat1 C (.fk f) (.fn f []) = some ((), []) := by
   show (if Nat.beq f f = true then some ((), []) else none) = _
   rw [if_pos (Nat.beq_refl f)]
  show (match dat1 C (.fk f) (.fn f []) with | some (x, f) => some (x, r, f) | none => none) = _
  rw [this]
 | .tr a b, x, r => by
  have : dat1 C (.tr a b) (.d (.tr a b) x) = some (x, []) := by
   simp only [dat1, z3q]
   rfl
  show (match dat1 C (.tr a b) (.d (.tr a b) x) with | some (x, f) => some (x, r, f) | none => none) = _
  rw [this]
theorem dat_ag (C : Nat → Blk) (t : Ty) (x : t.den) : dat C t (.ag (unpack t x)) = some (x, []) := by
 have := z3m C t x []
 rw [List.append_nil] at this
 show (match pack C t (unpack t x) with | some (x, [], f) => some (x, f) | _ => none) = _
 rw [this]
theorem take_ag (C : Nat → Blk) (t : Ty) (x : t.den) : SV.take C [] (.d true t) (.ag (unpack t x)) = some (x, []) := dat_ag C t x
theorem take_one (C : Nat → Blk) (t : Ty) (x : t.den) (h : unpack t x = [.d t x]) : SV.take C [] (.d false t) (.d t x) = some (x, []) := by
 have := z3m C t x []
 rw [List.append_nil, h] at this
 show (match pack C t [.d t x] with | some (x, [], f) => some (x, f) | _ => none) = _
 rw [this]
theorem open_arg {r : Reach} {b0 k t : Nat} {ty : Ty} {v : Value} {d : DataW H} {ps : List MemPlace} (hg : goodTy P (k + 1) t = some ty) (hv : Value.okWide P w r b0 t v) (hd : DataW.Trod enc P w 0 sp held t v d ps) :
  ∃ (a : AV) (x : ty.den), RelV w (fun b => b < w.heap.size) iNone a v ∧ SV.take cDead [] (.d (aggB P t) ty) a = some (x, []) ∧ ty.fit x := by
 obtain ⟨fuel, hf⟩ := hd
 obtain ⟨x, hx, hfit⟩ := z5E (k + 1) t ty hg fuel _ _ hf
 unfold goodTy at hg
 unfold aggB
 split at hg
 ·rename_i i hu
  cases hg
  obtain ⟨n, rfl⟩ := okWide_int hu hv
  rw [hu]
  exact ⟨_, x, by simp only [RelV]; exact hx, take_one _ _ x rfl, hfit⟩
 ·rename_i hu
  cases hg
  obtain ⟨n, rfl⟩ := okWide_bool hu hv
  rw [hu]
  exact ⟨_, x, by simp only [RelV]; exact hx, take_one _ _ x rfl, hfit⟩
 ·rename_i hu
  cases hg
  obtain ⟨n, rfl⟩ := okWide_string hu hv
  rw [hu]
  exact ⟨_, x, by simp only [RelV]; exact hx, take_one _ _ x rfl, hfit⟩
 ·rename_i e hu
  split at hg
  ·split at hg
   ·cases hg
    obtain ⟨a, l, c, rfl⟩ := okWide_slice hu hv
    rw [hu]
    exact ⟨_, x, by simp only [RelV]; exact hx, take_one _ _ x rfl, hfit⟩
   ·cases hg
  ·cases hg
 ·rename_i fs hu
  split at hg
  ·split at hg
   ·cases hg
    obtain ⟨cs, rfl, _⟩ := okWide_struct hu hv
    rw [hu]
    have hx : Rz _ _ _ x cs.toList := hx
    exact ⟨_, x, by simp only [RelV]; exact ⟨cs.toList, by simp, z0H _ _ _ hx⟩, take_ag _ _ x, hfit⟩
   ·cases hg
  ·cases hg
 ·cases hg
def argsOf (P : Program) : List Nat → Option (List SV)
 | [] => some []
 | t :: r => match goodTy P 16 t with
  | some ty => match argsOf P r with
   | some s => some (.d (aggB P t) ty :: s)
   | none => none
  | none => none
def fitDL : (l : List SV) → SV.denL l → Prop
 | [], _ => True
 | .d _ t :: r, x => t.fit x.1 ∧ fitDL r x.2
 | _ :: _, _ => False
theorem open_args {r : Reach} {b0 : Nat} : ∀ (ts : List TypeId) (vs : List Value) (ds : List (DataW H)) (ps : List MemPlace), DataW.TrodAll enc P w 0 sp held ts vs ds ps →
  (∀ (j : Nat) t v, ts[j]? = some t → vs[j]? = some v → Value.okWide P w r b0 t v) → ∀ (svs : List SV), argsOf P ts = some svs →
  ∃ (avs : List AV) (x : SV.denL svs), RelL w (fun b => b < w.heap.size) iNone avs vs ∧ SV.takeL cDead [] svs avs = some (x, []) ∧ fitDL svs x
 | [], vs, ds, ps, h, _, svs, hs => by
  obtain ⟨rfl, _, _⟩ := trodAll_nil h
  cases hs
  exact ⟨[], (), z0d.2 rfl, rfl, trivial⟩
 | t :: ts, vs, ds, ps, h, hv, svs, hs => by
  obtain ⟨v, vs', d, ds', p, q, rfl, rfl, rfl, hd, hr⟩ := trodAll_cons h
  unfold argsOf at hs
  split at hs
  ·rename_i ty hty
   split at hs
   ·rename_i s hs'
    cases hs
    obtain ⟨a, x, h1, h2, h3⟩ := open_arg hty (hv 0 t v rfl rfl) hd
    obtain ⟨avs, y, h4, h5, h6⟩ := open_args ts vs' ds' q hr (fun j t' v' h7 h8 => hv (j + 1) t' v' h7 h8) s hs'
    refine ⟨a :: avs, (x, y), z0c.2 ⟨v, vs', rfl, h1, h4⟩, ?_, h3, h6⟩
    unfold SV.takeL
    rw [h2]
    simp only
    rw [h5]
    rfl
   ·cases hs
  ·cases hs
theorem shut_args {W W' : World} (hl : laidOutB P = true) (hb : Below W.heap.size W W') : ∀ (ts : List TypeId) (vs : List Value) (ds : List (DataW H)) (ps : List MemPlace), (∀ t ∈ ts, P.readableRec t = true ∧ t < P.types.size) →
  DataW.TrodAll enc P W 0 (fun _ => true) true ts vs ds ps → DataW.TrodAll enc P W' 0 (fun b => decide (b < W.heap.size)) true ts vs ds ps
 | [], vs, ds, ps, _, h => by
  obtain ⟨rfl, rfl, rfl⟩ := trodAll_nil h
  exact trodAll_mk0
 | t :: ts, vs, ds, ps, ht, h => by
  obtain ⟨v, vs', d, ds', p, q, rfl, rfl, rfl, hd, hr⟩ := trodAll_cons h
  have lt : ∀ x ∈ p, x.block < W.heap.size := by
   obtain ⟨m, hm⟩ := hd
   exact DataW.trod_lt m _ _ _ hm
  exact trodAll_cons_mk (Below.trod hl (ht t (by simp)).1 (ht t (by simp)).2 hd hb lt) (shut_args hl hb ts vs' ds' q (fun t' h' => ht t' (by simp [h'])) hr)
end
end Go.Proofs.Rf
namespace Go.Proofs.Rf
open Go Go.RowKit
theorem u64_lo {n : Int} (h : fitK .u64 n) : 0 ≤ n := h.1
theorem acts_fit {x : SV.denL ps3} (h : fitDL ps3 x) : ∀ a ∈ (x.1 : List Ac), 0 ≤ a.2.2.2.2.2.2.2.1 := fun a ha => u64_lo ((h.1.2 a ha).2.2.2.2.2.2.2.1)
end Go.Proofs.Rf
namespace Go.Proofs.Rf
open Go Go.ChangeShapes Go.WideShapes Go.ChangeAt Go.RowKit
abbrev z8z : List (String × DataW Unit) := Go.Proofs.YtdecfjlhidgceaaGreatDoor.Rows.memoryBlocksRow.laid
theorem var_block {W : World} {name : String} {g : Nat} {us : List Value} (hg : Tryz.prog.globalNamed name = some g) (hv : W.var? Tryz.prog name = some us.toArray) : ∃ e fz, W.heap[g]? = some (.cells us.toArray e fz) := by
 unfold World.var? at hv
 rw [hg] at hv
 simp only [Option.bind_some] at hv
 split at hv
 ·rename_i cs' e' fz hh
  injection hv with hv
  subst hv
  exact ⟨e', fz, hh⟩
 ·cases hv
theorem err_var {W : World} (h : laidMetH Tryz.prog z8z W) : ∃ u v, W.var? Tryz.prog "strconv.ErrRange" = some #[.iface u v] := by
 have h1 := (laidMetH_iff.1 h).1
 obtain ⟨g, t, cs, fuel, p, hg, ht, hv, hd⟩ := Go.Lib.laidMet.reads h1 (n := "strconv.ErrRange") (d := _) (List.mem_filter.2 ⟨List.mem_cons_of_mem _ (List.mem_cons_of_mem _ (List.mem_cons_of_mem _ (List.mem_cons_self ..))), rfl⟩)
 obtain rfl := Option.some.inj ((show Tryz.prog.globalNamed "strconv.ErrRange" = some 1 by kernel_rfl).symm.trans hg)
 obtain rfl := Option.some.inj ((show (Tryz.prog.globals[1]?).map (·.type) = some 166 by kernel_rfl).symm.trans ht)
 obtain ⟨_, u, v, hcs, _⟩ := iface_of_trod Tryz.underlying166 hd
 refine ⟨u, v, ?_⟩
 rw [hv]
 congr 1
 apply Array.ext'
 simpa using hcs
theorem gl12 {W : World} (h : laidMetH Tryz.prog z8z W) : GlOK W (fun b => b < W.heap.size) := by
 obtain ⟨u, v, hv⟩ := err_var h
 obtain ⟨e0, fz0, h0⟩ := var_block (g := 1) (us := [.iface u v]) (by kernel_rfl) hv
 refine ⟨fun g us hgl => (by cases hgl), fun g hg => ?_⟩
 unfold globI at hg
 split at hg
 ·exact ⟨(Array.getElem?_eq_some_iff.1 h0).1, _, e0, fz0, .inr ⟨u, v, rfl⟩, h0⟩
 ·cases hg
end Go.Proofs.Rf
