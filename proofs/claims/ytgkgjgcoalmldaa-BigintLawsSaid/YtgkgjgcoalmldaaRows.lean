/-
  No cell of these rows narrows 'for every input' (looked for: loops, veiled, ifaces, maps, wideKeys, modest, calm, conditions, laid).
  DERIVED. THE GIVEN ROWS OF THIS SEAT. 6 by the template 'for every input the law returns true; each argument reads behind the call as it read before'; 0 by the template 'total and deterministic' (their statements: YtgkgjgcoalmldaaTotals.lean).
  GIVEN WITH THE SEED: the statements are not yours to turn. If you find one false, say at which input.
  Laid BY PROGRAM, IN A SANDBOX (cutbox-rows.mjs): the forced cells as the released guide's own fill.sh prints them over the translation 9d068ec8679180a7… (all of the seat's roots in one cut). By AI agents, Wed Nov 11 2026. No macro, syntax, notation, axiom, sorry.
-/
import Derived.Test.YtgkgjgcoalmldaaChecked
import GoSem.Claim
import GoSem.ClaimJoined
import GoSem.ClaimMapViews
import Derived.JoinedTies
import Derived.KernelRfl
namespace Go.Proofs.Ytgkgjgcoalmldaa
/- THE CELL 'sum', in the pinned program and in every row, IS THE sha256 OF THE DUMP (.gsa) THAT YtgkgjgcoalmldaaProg.lean LOADS. Nothing in Lean hashes anything: it is a label: what it is worth is what the hold of that sum in a sandbox is worth. -/
noncomputable def Try.pinned : Pinned := { name := "ytgkgjgcoalmldaa", sum := "9d068ec8679180a7b1f527249076fcfcefff8dbe64981f83ced728f87b8ae9b4", checked := Try.checked }
namespace Rows
def none {H : Type} : Left H := { results := [], args := [] }

/-- 'bowlinelaw40.BigintNumerals': WHATEVER THE INPUT: true; the input reads as it did. -/
def bigintNumeralsSpec : ChangeSpec := { name := "bigintNumerals", fn := fun _ => fun
  | [d1, d2] => { results := [.lit (.bool true)], args := [d1, d2] }
  | _ => none }
def bigintNumeralsRow : OpenClaim := { program := "ytgkgjgcoalmldaa", sum := "9d068ec8679180a7b1f527249076fcfcefff8dbe64981f83ced728f87b8ae9b4", func := "bowline/bowlinelaw40.BigintNumerals", spec := "bigintNumerals", unfollowed := true, recurses := true, apart := false }
def BigintNumeralsSaid : Prop := bigintNumeralsRow.holds Try.pinned (OpenSpec.ofChange bigintNumeralsSpec)

/-- ITS FALSE NEIGHBOUR: 'it returns false'. Refute it at one input. -/
def bigintNumeralsWrong : ChangeSpec := { name := "bigintNumerals", fn := fun _ => fun
  | [d1, d2] => { results := [.lit (.bool false)], args := [d1, d2] }
  | _ => none }
def BigintNumeralsWrongFalsely : Prop := bigintNumeralsRow.holds Try.pinned (OpenSpec.ofChange bigintNumeralsWrong)

/-- 'bowlinelaw40.BigintTexts': WHATEVER THE INPUT: true; the input reads as it did. -/
def bigintTextsSpec : ChangeSpec := { name := "bigintTexts", fn := fun _ => fun
  | [d1, d2] => { results := [.lit (.bool true)], args := [d1, d2] }
  | _ => none }
def bigintTextsRow : OpenClaim := { program := "ytgkgjgcoalmldaa", sum := "9d068ec8679180a7b1f527249076fcfcefff8dbe64981f83ced728f87b8ae9b4", func := "bowline/bowlinelaw40.BigintTexts", spec := "bigintTexts", unfollowed := true, recurses := true, apart := false }
def BigintTextsSaid : Prop := bigintTextsRow.holds Try.pinned (OpenSpec.ofChange bigintTextsSpec)

/-- ITS FALSE NEIGHBOUR: 'it returns false'. Refute it at one input. -/
def bigintTextsWrong : ChangeSpec := { name := "bigintTexts", fn := fun _ => fun
  | [d1, d2] => { results := [.lit (.bool false)], args := [d1, d2] }
  | _ => none }
def BigintTextsWrongFalsely : Prop := bigintTextsRow.holds Try.pinned (OpenSpec.ofChange bigintTextsWrong)

/-- 'bowlinelaw40.BigintShifts': WHATEVER THE INPUT: true; the input reads as it did. -/
def bigintShiftsSpec : ChangeSpec := { name := "bigintShifts", fn := fun _ => fun
  | [d1, d2] => { results := [.lit (.bool true)], args := [d1, d2] }
  | _ => none }
def bigintShiftsRow : OpenClaim := { program := "ytgkgjgcoalmldaa", sum := "9d068ec8679180a7b1f527249076fcfcefff8dbe64981f83ced728f87b8ae9b4", func := "bowline/bowlinelaw40.BigintShifts", spec := "bigintShifts", unfollowed := true, recurses := true, apart := false }
def BigintShiftsSaid : Prop := bigintShiftsRow.holds Try.pinned (OpenSpec.ofChange bigintShiftsSpec)

/-- ITS FALSE NEIGHBOUR: 'it returns false'. Refute it at one input. -/
def bigintShiftsWrong : ChangeSpec := { name := "bigintShifts", fn := fun _ => fun
  | [d1, d2] => { results := [.lit (.bool false)], args := [d1, d2] }
  | _ => none }
def BigintShiftsWrongFalsely : Prop := bigintShiftsRow.holds Try.pinned (OpenSpec.ofChange bigintShiftsWrong)

/-- 'bowlinelaw40.BigintPowers': WHATEVER THE INPUT: true; the input reads as it did. -/
def bigintPowersSpec : ChangeSpec := { name := "bigintPowers", fn := fun _ => fun
  | [d1, d2, d3] => { results := [.lit (.bool true)], args := [d1, d2, d3] }
  | _ => none }
def bigintPowersRow : OpenClaim := { program := "ytgkgjgcoalmldaa", sum := "9d068ec8679180a7b1f527249076fcfcefff8dbe64981f83ced728f87b8ae9b4", func := "bowline/bowlinelaw40.BigintPowers", spec := "bigintPowers", unfollowed := true, recurses := true, apart := false }
def BigintPowersSaid : Prop := bigintPowersRow.holds Try.pinned (OpenSpec.ofChange bigintPowersSpec)

/-- ITS FALSE NEIGHBOUR: 'it returns false'. Refute it at one input. -/
def bigintPowersWrong : ChangeSpec := { name := "bigintPowers", fn := fun _ => fun
  | [d1, d2, d3] => { results := [.lit (.bool false)], args := [d1, d2, d3] }
  | _ => none }
def BigintPowersWrongFalsely : Prop := bigintPowersRow.holds Try.pinned (OpenSpec.ofChange bigintPowersWrong)

/-- 'bowlinelaw40.BigintArithmetic': WHATEVER THE INPUT: true; the input reads as it did. -/
def bigintArithmeticSpec : ChangeSpec := { name := "bigintArithmetic", fn := fun _ => fun
  | [d1, d2] => { results := [.lit (.bool true)], args := [d1, d2] }
  | _ => none }
def bigintArithmeticRow : OpenClaim := { program := "ytgkgjgcoalmldaa", sum := "9d068ec8679180a7b1f527249076fcfcefff8dbe64981f83ced728f87b8ae9b4", func := "bowline/bowlinelaw40.BigintArithmetic", spec := "bigintArithmetic", unfollowed := true, recurses := true, apart := false }
def BigintArithmeticSaid : Prop := bigintArithmeticRow.holds Try.pinned (OpenSpec.ofChange bigintArithmeticSpec)

/-- ITS FALSE NEIGHBOUR: 'it returns false'. Refute it at one input. -/
def bigintArithmeticWrong : ChangeSpec := { name := "bigintArithmetic", fn := fun _ => fun
  | [d1, d2] => { results := [.lit (.bool false)], args := [d1, d2] }
  | _ => none }
def BigintArithmeticWrongFalsely : Prop := bigintArithmeticRow.holds Try.pinned (OpenSpec.ofChange bigintArithmeticWrong)

/-- 'bowlinelaw40.BigintLaws': WHATEVER THE INPUT: true; the input reads as it did. -/
def bigintLawsSpec : ChangeSpec := { name := "bigintLaws", fn := fun _ => fun
  | [d1, d2, d3] => { results := [.lit (.bool true)], args := [d1, d2, d3] }
  | _ => none }
def bigintLawsRow : OpenClaim := { program := "ytgkgjgcoalmldaa", sum := "9d068ec8679180a7b1f527249076fcfcefff8dbe64981f83ced728f87b8ae9b4", func := "bowline/bowlinelaw40.BigintLaws", spec := "bigintLaws", unfollowed := true, recurses := true, apart := false }
def BigintLawsSaid : Prop := bigintLawsRow.holds Try.pinned (OpenSpec.ofChange bigintLawsSpec)

/-- ITS FALSE NEIGHBOUR: 'it returns false'. Refute it at one input. -/
def bigintLawsWrong : ChangeSpec := { name := "bigintLaws", fn := fun _ => fun
  | [d1, d2, d3] => { results := [.lit (.bool false)], args := [d1, d2, d3] }
  | _ => none }
def BigintLawsWrongFalsely : Prop := bigintLawsRow.holds Try.pinned (OpenSpec.ofChange bigintLawsWrong)

/- THE SECOND FORM. 'bulk': how many values and letters a reading holds, each counted each time it is reached (what is shared counts as often as it is met; a slice's spare places count too). A statement '..UptoSaid' is the law's where the arguments, and the package variables that the reading takes, are together of bulk at most 1048576: NARROWER than '..Said'. Prove '..Said' where nothing that the law and all that it calls make is longer than what came in: it says more and counts as full. Else prove '..UptoSaid'. A law counts once. -/
mutual
def uptoBulk {H : Type} : DataW H → Nat
  | .lit (.string bytes) => bytes.length + 1
  | .lit _ => 1
  | .nil => 1
  | .ptr d => uptoBulk d + 1
  | .slice elems spare => uptoBulkAll elems + uptoBulkAll spare + 1
  | .agg parts => uptoBulkAll parts + 1
  | .iface _ d => uptoBulk d + 1
  | .map entries => uptoBulkEntries entries + 1
  | .held _ => 1
def uptoBulkAll {H : Type} : List (DataW H) → Nat
  | [] => 0
  | d :: r => uptoBulk d + uptoBulkAll r
def uptoBulkEntries {H : Type} : List (Lit × DataW H) → Nat
  | [] => 0
  | x :: r => uptoBulkEntry x + uptoBulkEntries r
def uptoBulkEntry {H : Type} : Lit × DataW H → Nat
  | (.string bytes, d) => bytes.length + uptoBulk d + 1
  | (_, d) => uptoBulk d + 1
 end
def uptoSmall : (H : Type) → List (DataW H) → Bool := fun _ ds => decide (uptoBulkAll ds ≤ 1048576)
def OpenSpec.upto (s : _root_.Go.ChangeSpec) : _root_.Go.OpenSpec := { _root_.Go.OpenSpec.ofChange s with cond := some uptoSmall }

/-- 'bowlinelaw40.BigintNumerals', WHERE WHAT IT READS IS OF BULK AT MOST 1048576: true; the input reads as it did. -/
def bigintNumeralsUptoRow : OpenClaim := { program := "ytgkgjgcoalmldaa", sum := "9d068ec8679180a7b1f527249076fcfcefff8dbe64981f83ced728f87b8ae9b4", func := "bowline/bowlinelaw40.BigintNumerals", spec := "bigintNumerals", unfollowed := true, recurses := true, apart := false, narrowed := true }
def BigintNumeralsUptoSaid : Prop := bigintNumeralsUptoRow.holds Try.pinned (OpenSpec.upto bigintNumeralsSpec)

/-- 'bowlinelaw40.BigintTexts', WHERE WHAT IT READS IS OF BULK AT MOST 1048576: true; the input reads as it did. -/
def bigintTextsUptoRow : OpenClaim := { program := "ytgkgjgcoalmldaa", sum := "9d068ec8679180a7b1f527249076fcfcefff8dbe64981f83ced728f87b8ae9b4", func := "bowline/bowlinelaw40.BigintTexts", spec := "bigintTexts", unfollowed := true, recurses := true, apart := false, narrowed := true }
def BigintTextsUptoSaid : Prop := bigintTextsUptoRow.holds Try.pinned (OpenSpec.upto bigintTextsSpec)

/-- 'bowlinelaw40.BigintShifts', WHERE WHAT IT READS IS OF BULK AT MOST 1048576: true; the input reads as it did. -/
def bigintShiftsUptoRow : OpenClaim := { program := "ytgkgjgcoalmldaa", sum := "9d068ec8679180a7b1f527249076fcfcefff8dbe64981f83ced728f87b8ae9b4", func := "bowline/bowlinelaw40.BigintShifts", spec := "bigintShifts", unfollowed := true, recurses := true, apart := false, narrowed := true }
def BigintShiftsUptoSaid : Prop := bigintShiftsUptoRow.holds Try.pinned (OpenSpec.upto bigintShiftsSpec)

/-- 'bowlinelaw40.BigintPowers', WHERE WHAT IT READS IS OF BULK AT MOST 1048576: true; the input reads as it did. -/
def bigintPowersUptoRow : OpenClaim := { program := "ytgkgjgcoalmldaa", sum := "9d068ec8679180a7b1f527249076fcfcefff8dbe64981f83ced728f87b8ae9b4", func := "bowline/bowlinelaw40.BigintPowers", spec := "bigintPowers", unfollowed := true, recurses := true, apart := false, narrowed := true }
def BigintPowersUptoSaid : Prop := bigintPowersUptoRow.holds Try.pinned (OpenSpec.upto bigintPowersSpec)

/-- 'bowlinelaw40.BigintArithmetic', WHERE WHAT IT READS IS OF BULK AT MOST 1048576: true; the input reads as it did. -/
def bigintArithmeticUptoRow : OpenClaim := { program := "ytgkgjgcoalmldaa", sum := "9d068ec8679180a7b1f527249076fcfcefff8dbe64981f83ced728f87b8ae9b4", func := "bowline/bowlinelaw40.BigintArithmetic", spec := "bigintArithmetic", unfollowed := true, recurses := true, apart := false, narrowed := true }
def BigintArithmeticUptoSaid : Prop := bigintArithmeticUptoRow.holds Try.pinned (OpenSpec.upto bigintArithmeticSpec)

/-- 'bowlinelaw40.BigintLaws', WHERE WHAT IT READS IS OF BULK AT MOST 1048576: true; the input reads as it did. -/
def bigintLawsUptoRow : OpenClaim := { program := "ytgkgjgcoalmldaa", sum := "9d068ec8679180a7b1f527249076fcfcefff8dbe64981f83ced728f87b8ae9b4", func := "bowline/bowlinelaw40.BigintLaws", spec := "bigintLaws", unfollowed := true, recurses := true, apart := false, narrowed := true }
def BigintLawsUptoSaid : Prop := bigintLawsUptoRow.holds Try.pinned (OpenSpec.upto bigintLawsSpec)

end Rows
end Go.Proofs.Ytgkgjgcoalmldaa
