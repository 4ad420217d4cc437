/-
  bowlinelaw40.BigintLaws returns true for every input: numerals come back, sums and products are as in a ring, quotients and remainders give the dividend, the greatest common divisor divides both and is the sum of the multiples, powers add up, and the examples hold.
  No condition.
-/
import Derived.Test.YtgkgjgcoalmldaaRows
import Derived.WalkKit
import Derived.ProofKit
import Derived.OpenShut
import Derived.ChangeOld
import Derived.Below
import Derived.Test.YtgkgjgcoalmldaaM5
namespace Go.Proofs.Ytgkgjgcoalmldaa.laws
open Go.ChangeShapes Go.WideShapes Go.ChangeAt Go.RowKit
set_option linter.unusedVariables false

theorem own : ownKnob Try.prog.godebug = none := by kernel_rfl
theorem laidOut : laidOutB Try.prog = true := by kernel_rfl
theorem args8 : Rf.argsOf Try.prog Try.f8.params.toList = some Rf.ps8 := by kernel_rfl
theorem readable8 : (Try.f8.params.toList.all fun t => Try.prog.readableRec t && Nat.blt t Try.prog.types.size) = true := by kernel_rfl

set_option maxRecDepth 100000 in
theorem lifted (os : Os) (started : os.Started) (H : Type) (enc : TypeId × Value → H) :
    ReturnsInHanded {} Try.checked os 8 .any (Rows.bigintLawsSpec.pre6 enc Try.prog Try.f8 Rows.bigintLawsRow.domain false) (Rows.bigintLawsSpec.post enc Try.prog Try.f8 false true false false) := by
  refine returnsInHanded_of_change (C := Try.checked) own started (by kernel_rfl) Try.func8
    (ChangeSpec.witness6 (enc := enc) (C := Try.checked) false ⟨#[], #[.agg #[.bool false, .slice none 0 0], .agg #[.bool false, .slice none 0 0], .agg #[.bool false, .slice none 0 0]], []⟩ 8 (by kernel_rfl) (by kernel_rfl) (by kernel_rfl) (by kernel_rfl)) ?_
  intro W base args ds gs before hval0 hW hcnd _
  have hval : ∀ (j : Nat) t v, Try.f8.params.toList[j]? = some t → args.toList[j]? = some v → Value.okWide Try.prog W .any base t v := fun j t v h1 h2 => hval0 j t v (by simpa using h1) (by simpa using h2)
  have hW' := hW
  obtain ⟨p, q, hA0, hV, rfl, hfz, hnd⟩ := hW
  have hA : DataW.TrodAll enc Try.prog W 0 (fun _ => true) true Try.f8.params.toList args.toList ds p := hA0
  obtain ⟨avs, x, hrel, htake, hfit⟩ := Rf.open_args _ _ _ _ hA hval _ args8
  have hA1 := hA
  rw [Try.params8] at hA1
  obtain ⟨v0, vs0, d0, ds0, p0, q0, hargs, rfl, rfl, h0, r0⟩ := trodAll_cons hA1
  obtain ⟨v1, vs1, d1, ds1, p1, q1, rfl, rfl, rfl, h1, r1⟩ := trodAll_cons r0
  obtain ⟨v2, vs2, d2, ds2, p2, q2, rfl, rfl, rfl, h2, r2⟩ := trodAll_cons r1
  obtain ⟨rfl, rfl, rfl⟩ := trodAll_nil r2
  obtain ⟨rfl, rfl⟩ := trodVars_none hV
  have walk := Rf.law_walk Rf.law8_ok W htake (Rf.law8_true (Rf.Wf_of_fit hfit.1.2) (Rf.Wf_of_fit hfit.2.1.2) (Rf.Wf_of_fit hfit.2.2.1.2)) hrel
  rw [Array.toArray_toList] at walk
  refine walk.mono fun e W' ⟨he, bel⟩ => ?_
  subst he
  exact ⟨_, rfl, _, _, _, [], _, [], hW', trodAll_mk1 (shut_bool Try.underlying4 _), Rf.shut_args laidOut bel _ _ _ _ (fun t ht => by
    have := List.all_eq_true.1 readable8 t ht
    rw [Bool.and_eq_true] at this
    exact ⟨this.1, Nat.le_of_ble_eq_true this.2⟩) hA, rfl, bel.frame _, fun h => by cases h⟩

theorem over : Rows.bigintLawsRow.holds Try.pinned (OpenSpec.ofChange Rows.bigintLawsSpec) :=
  OpenClaim.holds_of_wide 8 Try.f8 rfl rfl rfl rfl rfl rfl rfl ⟨rfl, rfl, rfl, rfl, rfl⟩ rfl rfl rfl rfl rfl (by kernel_rfl) Try.func8 (by kernel_rfl)
    (of_decide_eq_true (by kernel_rfl)) (by unfold Func.isWrapper; first | (rw [if_pos (by decide +kernel)]; kernel_rfl) | (rw [if_neg (by decide +kernel)]; exact ⟨rfl, rfl⟩))
    (fun os started H enc _ => lifted os started H enc)
end Go.Proofs.Ytgkgjgcoalmldaa.laws

namespace Go.Proofs.Ytgkgjgcoalmldaa
/-- The given statement. -/
theorem BigintLaws_proved : Rows.BigintLawsSaid := laws.over
#print axioms BigintLaws_proved
end Go.Proofs.Ytgkgjgcoalmldaa
