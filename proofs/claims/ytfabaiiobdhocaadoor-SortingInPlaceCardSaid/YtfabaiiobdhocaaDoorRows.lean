/-
  NARROWER THAN 'FOR EVERY INPUT', by the rows' own cells (each row's printed sentence says how): SortingQueues: laid · SortingMerges: laid · SortingInPlace: laid · SortingSelects: laid · SortingStable: laid · SortingConsequences: laid · SortingTreaps: laid.
  DERIVED. THE GIVEN ROWS OF THIS SEAT. 7 by the template 'for every input the law returns true; each argument reads behind the call as it read before'; 0 by the template 'total and deterministic' (their statements: YtfabaiiobdhocaaDoorTotals.lean).
  GIVEN WITH THE SEED: the statements are not yours to turn. If you find one false, say at which input.
  Laid BY PROGRAM, IN A SANDBOX (cutbox-rows.mjs): the forced cells as the released guide's own fill.sh prints them over the translation 74b3a3da9d8946b8… (all of the seat's roots in one cut). By AI agents, Wed Nov 11 2026. No macro, syntax, notation, axiom, sorry.
-/
import Derived.Test.YtfabaiiobdhocaaDoorChecked
import GoSem.Claim
import GoSem.ClaimJoined
import GoSem.ClaimMapViews
import Derived.JoinedTies
import Derived.KernelRfl
namespace Go.Proofs.YtfabaiiobdhocaaDoor
/- THE CELL 'sum', in the pinned program and in every row, IS THE sha256 OF THE DUMP (.gsa) THAT YtfabaiiobdhocaaDoorProg.lean LOADS. Nothing in Lean hashes anything: it is a label: what it is worth is what the hold of that sum in a sandbox is worth. -/
noncomputable def Tryd.pinned : Pinned := { name := "ytfabaiiobdhocaadoor", sum := "74b3a3da9d8946b8113c0f6ba9a9e6aa377e625967d724d0ccd4a61b12c2caff", checked := Tryd.checked }
namespace Rows
def none {H : Type} : Left H := { results := [], args := [] }

/- WHAT THE LISTED PACKAGE-LEVEL VARIABLES READ AS WHEN THE CALL BEGINS. Each datum BY PROGRAM (the guide's laid-datum.mjs) off the statement by which the dump's own 'gosem.cut.vars' lays the variable. In a bare row this is a premise. The card (YtfabaiiobdhocaaDoorCards.lean) ties it to the program's text. -/
def laid_math_bits_deBruijn32tab {H : Type} : DataW H := .agg [.lit (.int .u8 0), .lit (.int .u8 1), .lit (.int .u8 28), .lit (.int .u8 2), .lit (.int .u8 29), .lit (.int .u8 14), .lit (.int .u8 24), .lit (.int .u8 3), .lit (.int .u8 30), .lit (.int .u8 22), .lit (.int .u8 20), .lit (.int .u8 15), .lit (.int .u8 25), .lit (.int .u8 17), .lit (.int .u8 4), .lit (.int .u8 8), .lit (.int .u8 31), .lit (.int .u8 27), .lit (.int .u8 13), .lit (.int .u8 23), .lit (.int .u8 21), .lit (.int .u8 19), .lit (.int .u8 16), .lit (.int .u8 7), .lit (.int .u8 26), .lit (.int .u8 12), .lit (.int .u8 18), .lit (.int .u8 6), .lit (.int .u8 11), .lit (.int .u8 5), .lit (.int .u8 10), .lit (.int .u8 9)]
def laid_math_bits_deBruijn64tab {H : Type} : DataW H := .agg [.lit (.int .u8 0), .lit (.int .u8 1), .lit (.int .u8 56), .lit (.int .u8 2), .lit (.int .u8 57), .lit (.int .u8 49), .lit (.int .u8 28), .lit (.int .u8 3), .lit (.int .u8 61), .lit (.int .u8 58), .lit (.int .u8 42), .lit (.int .u8 50), .lit (.int .u8 38), .lit (.int .u8 29), .lit (.int .u8 17), .lit (.int .u8 4), .lit (.int .u8 62), .lit (.int .u8 47), .lit (.int .u8 59), .lit (.int .u8 36), .lit (.int .u8 45), .lit (.int .u8 43), .lit (.int .u8 51), .lit (.int .u8 22), .lit (.int .u8 53), .lit (.int .u8 39), .lit (.int .u8 33), .lit (.int .u8 30), .lit (.int .u8 24), .lit (.int .u8 18), .lit (.int .u8 12), .lit (.int .u8 5), .lit (.int .u8 63), .lit (.int .u8 55), .lit (.int .u8 48), .lit (.int .u8 27), .lit (.int .u8 60), .lit (.int .u8 41), .lit (.int .u8 37), .lit (.int .u8 16), .lit (.int .u8 46), .lit (.int .u8 35), .lit (.int .u8 44), .lit (.int .u8 21), .lit (.int .u8 52), .lit (.int .u8 32), .lit (.int .u8 23), .lit (.int .u8 11), .lit (.int .u8 54), .lit (.int .u8 26), .lit (.int .u8 40), .lit (.int .u8 15), .lit (.int .u8 34), .lit (.int .u8 20), .lit (.int .u8 31), .lit (.int .u8 10), .lit (.int .u8 25), .lit (.int .u8 14), .lit (.int .u8 19), .lit (.int .u8 9), .lit (.int .u8 13), .lit (.int .u8 8), .lit (.int .u8 7), .lit (.int .u8 6)]
def laid_internal_strconv_uint64pow10 {H : Type} : DataW H := .agg [.lit (.int .u64 1), .lit (.int .u64 10), .lit (.int .u64 100), .lit (.int .u64 1000), .lit (.int .u64 10000), .lit (.int .u64 100000), .lit (.int .u64 1000000), .lit (.int .u64 10000000), .lit (.int .u64 100000000), .lit (.int .u64 1000000000), .lit (.int .u64 10000000000), .lit (.int .u64 100000000000), .lit (.int .u64 1000000000000), .lit (.int .u64 10000000000000), .lit (.int .u64 100000000000000), .lit (.int .u64 1000000000000000), .lit (.int .u64 10000000000000000), .lit (.int .u64 100000000000000000), .lit (.int .u64 1000000000000000000), .lit (.int .u64 10000000000000000000)]
def laid_bowline_sorting_orders {H : Type} : DataW H := .iface "func table" (.agg [.agg [.iface "func" (.lit (.string [98, 111, 119, 108, 105, 110, 101, 47, 115, 111, 114, 116, 105, 110, 103, 46, 111, 114, 100, 101, 114, 115, 36, 49]))], .agg [.iface "func" (.lit (.string [98, 111, 119, 108, 105, 110, 101, 47, 115, 111, 114, 116, 105, 110, 103, 46, 111, 114, 100, 101, 114, 115, 36, 50]))]])

/-- 'bowlinelaw36.SortingQueues': WHATEVER THE INPUT: true; the input reads as it did. -/
def sortingQueuesSpec : ChangeSpec := { name := "sortingQueues", fn := fun _ => fun
  | [d1, d2] => { results := [.lit (.bool true)], args := [d1, d2] }
  | _ => none }
def sortingQueuesRow : OpenClaim := { program := "ytfabaiiobdhocaadoor", sum := "74b3a3da9d8946b8113c0f6ba9a9e6aa377e625967d724d0ccd4a61b12c2caff", func := "bowline/bowlinelaw36.SortingQueues", spec := "sortingQueues", inPlace := ["internal/abi.NoEscape"], unfollowed := true, recurses := true, named := ["bowline/sorting.orders", "internal/strconv.uint64pow10", "math/bits.deBruijn32tab", "math/bits.deBruijn64tab"], plainKeys := false, apart := false, laid := [("math/bits.deBruijn32tab", laid_math_bits_deBruijn32tab), ("math/bits.deBruijn64tab", laid_math_bits_deBruijn64tab), ("internal/strconv.uint64pow10", laid_internal_strconv_uint64pow10), ("bowline/sorting.orders", laid_bowline_sorting_orders)] }
def SortingQueuesSaid : Prop := sortingQueuesRow.holds Tryd.pinned (OpenSpec.ofChange sortingQueuesSpec)

/-- ITS FALSE NEIGHBOUR: 'it returns false'. Refute it at one input. -/
def sortingQueuesWrong : ChangeSpec := { name := "sortingQueues", fn := fun _ => fun
  | [d1, d2] => { results := [.lit (.bool false)], args := [d1, d2] }
  | _ => none }
def SortingQueuesWrongFalsely : Prop := sortingQueuesRow.holds Tryd.pinned (OpenSpec.ofChange sortingQueuesWrong)

/-- 'bowlinelaw36.SortingMerges': WHATEVER THE INPUT: true; the input reads as it did. -/
def sortingMergesSpec : ChangeSpec := { name := "sortingMerges", fn := fun _ => fun
  | [d1, d2] => { results := [.lit (.bool true)], args := [d1, d2] }
  | _ => none }
def sortingMergesRow : OpenClaim := { program := "ytfabaiiobdhocaadoor", sum := "74b3a3da9d8946b8113c0f6ba9a9e6aa377e625967d724d0ccd4a61b12c2caff", func := "bowline/bowlinelaw36.SortingMerges", spec := "sortingMerges", inPlace := ["internal/abi.NoEscape"], unfollowed := true, recurses := true, named := ["bowline/sorting.orders", "internal/strconv.uint64pow10", "math/bits.deBruijn32tab", "math/bits.deBruijn64tab"], plainKeys := false, apart := false, laid := [("math/bits.deBruijn32tab", laid_math_bits_deBruijn32tab), ("math/bits.deBruijn64tab", laid_math_bits_deBruijn64tab), ("internal/strconv.uint64pow10", laid_internal_strconv_uint64pow10), ("bowline/sorting.orders", laid_bowline_sorting_orders)] }
def SortingMergesSaid : Prop := sortingMergesRow.holds Tryd.pinned (OpenSpec.ofChange sortingMergesSpec)

/-- ITS FALSE NEIGHBOUR: 'it returns false'. Refute it at one input. -/
def sortingMergesWrong : ChangeSpec := { name := "sortingMerges", fn := fun _ => fun
  | [d1, d2] => { results := [.lit (.bool false)], args := [d1, d2] }
  | _ => none }
def SortingMergesWrongFalsely : Prop := sortingMergesRow.holds Tryd.pinned (OpenSpec.ofChange sortingMergesWrong)

/-- 'bowlinelaw36.SortingInPlace': WHATEVER THE INPUT: true; the input reads as it did. -/
def sortingInPlaceSpec : ChangeSpec := { name := "sortingInPlace", fn := fun _ => fun
  | [d] => { results := [.lit (.bool true)], args := [d] }
  | _ => none }
def sortingInPlaceRow : OpenClaim := { program := "ytfabaiiobdhocaadoor", sum := "74b3a3da9d8946b8113c0f6ba9a9e6aa377e625967d724d0ccd4a61b12c2caff", func := "bowline/bowlinelaw36.SortingInPlace", spec := "sortingInPlace", inPlace := ["internal/abi.NoEscape"], unfollowed := true, recurses := true, named := ["bowline/sorting.orders", "internal/strconv.uint64pow10", "math/bits.deBruijn32tab", "math/bits.deBruijn64tab"], plainKeys := false, apart := false, laid := [("math/bits.deBruijn32tab", laid_math_bits_deBruijn32tab), ("math/bits.deBruijn64tab", laid_math_bits_deBruijn64tab), ("internal/strconv.uint64pow10", laid_internal_strconv_uint64pow10), ("bowline/sorting.orders", laid_bowline_sorting_orders)] }
def SortingInPlaceSaid : Prop := sortingInPlaceRow.holds Tryd.pinned (OpenSpec.ofChange sortingInPlaceSpec)

/-- ITS FALSE NEIGHBOUR: 'it returns false'. Refute it at one input. -/
def sortingInPlaceWrong : ChangeSpec := { name := "sortingInPlace", fn := fun _ => fun
  | [d] => { results := [.lit (.bool false)], args := [d] }
  | _ => none }
def SortingInPlaceWrongFalsely : Prop := sortingInPlaceRow.holds Tryd.pinned (OpenSpec.ofChange sortingInPlaceWrong)

/-- 'bowlinelaw36.SortingSelects': WHATEVER THE INPUT: true; the input reads as it did. -/
def sortingSelectsSpec : ChangeSpec := { name := "sortingSelects", fn := fun _ => fun
  | [d1, d2] => { results := [.lit (.bool true)], args := [d1, d2] }
  | _ => none }
def sortingSelectsRow : OpenClaim := { program := "ytfabaiiobdhocaadoor", sum := "74b3a3da9d8946b8113c0f6ba9a9e6aa377e625967d724d0ccd4a61b12c2caff", func := "bowline/bowlinelaw36.SortingSelects", spec := "sortingSelects", inPlace := ["internal/abi.NoEscape"], unfollowed := true, recurses := true, named := ["bowline/sorting.orders", "internal/strconv.uint64pow10", "math/bits.deBruijn32tab", "math/bits.deBruijn64tab"], plainKeys := false, apart := false, laid := [("math/bits.deBruijn32tab", laid_math_bits_deBruijn32tab), ("math/bits.deBruijn64tab", laid_math_bits_deBruijn64tab), ("internal/strconv.uint64pow10", laid_internal_strconv_uint64pow10), ("bowline/sorting.orders", laid_bowline_sorting_orders)] }
def SortingSelectsSaid : Prop := sortingSelectsRow.holds Tryd.pinned (OpenSpec.ofChange sortingSelectsSpec)

/-- ITS FALSE NEIGHBOUR: 'it returns false'. Refute it at one input. -/
def sortingSelectsWrong : ChangeSpec := { name := "sortingSelects", fn := fun _ => fun
  | [d1, d2] => { results := [.lit (.bool false)], args := [d1, d2] }
  | _ => none }
def SortingSelectsWrongFalsely : Prop := sortingSelectsRow.holds Tryd.pinned (OpenSpec.ofChange sortingSelectsWrong)

/-- 'bowlinelaw36.SortingStable': WHATEVER THE INPUT: true; the input reads as it did. -/
def sortingStableSpec : ChangeSpec := { name := "sortingStable", fn := fun _ => fun
  | [d1, d2, d3] => { results := [.lit (.bool true)], args := [d1, d2, d3] }
  | _ => none }
def sortingStableRow : OpenClaim := { program := "ytfabaiiobdhocaadoor", sum := "74b3a3da9d8946b8113c0f6ba9a9e6aa377e625967d724d0ccd4a61b12c2caff", func := "bowline/bowlinelaw36.SortingStable", spec := "sortingStable", inPlace := ["internal/abi.NoEscape"], unfollowed := true, recurses := true, named := ["bowline/sorting.orders", "internal/strconv.uint64pow10", "math/bits.deBruijn32tab", "math/bits.deBruijn64tab"], plainKeys := false, apart := false, laid := [("math/bits.deBruijn32tab", laid_math_bits_deBruijn32tab), ("math/bits.deBruijn64tab", laid_math_bits_deBruijn64tab), ("internal/strconv.uint64pow10", laid_internal_strconv_uint64pow10), ("bowline/sorting.orders", laid_bowline_sorting_orders)] }
def SortingStableSaid : Prop := sortingStableRow.holds Tryd.pinned (OpenSpec.ofChange sortingStableSpec)

/-- ITS FALSE NEIGHBOUR: 'it returns false'. Refute it at one input. -/
def sortingStableWrong : ChangeSpec := { name := "sortingStable", fn := fun _ => fun
  | [d1, d2, d3] => { results := [.lit (.bool false)], args := [d1, d2, d3] }
  | _ => none }
def SortingStableWrongFalsely : Prop := sortingStableRow.holds Tryd.pinned (OpenSpec.ofChange sortingStableWrong)

/-- 'bowlinelaw36.SortingConsequences': WHATEVER THE INPUT: true; the input reads as it did. -/
def sortingConsequencesSpec : ChangeSpec := { name := "sortingConsequences", fn := fun _ => fun
  | [d1, d2, d3] => { results := [.lit (.bool true)], args := [d1, d2, d3] }
  | _ => none }
def sortingConsequencesRow : OpenClaim := { program := "ytfabaiiobdhocaadoor", sum := "74b3a3da9d8946b8113c0f6ba9a9e6aa377e625967d724d0ccd4a61b12c2caff", func := "bowline/bowlinelaw36.SortingConsequences", spec := "sortingConsequences", inPlace := ["internal/abi.NoEscape"], unfollowed := true, recurses := true, named := ["bowline/sorting.orders", "internal/strconv.uint64pow10", "math/bits.deBruijn32tab", "math/bits.deBruijn64tab"], plainKeys := false, apart := false, laid := [("math/bits.deBruijn32tab", laid_math_bits_deBruijn32tab), ("math/bits.deBruijn64tab", laid_math_bits_deBruijn64tab), ("internal/strconv.uint64pow10", laid_internal_strconv_uint64pow10), ("bowline/sorting.orders", laid_bowline_sorting_orders)] }
def SortingConsequencesSaid : Prop := sortingConsequencesRow.holds Tryd.pinned (OpenSpec.ofChange sortingConsequencesSpec)

/-- ITS FALSE NEIGHBOUR: 'it returns false'. Refute it at one input. -/
def sortingConsequencesWrong : ChangeSpec := { name := "sortingConsequences", fn := fun _ => fun
  | [d1, d2, d3] => { results := [.lit (.bool false)], args := [d1, d2, d3] }
  | _ => none }
def SortingConsequencesWrongFalsely : Prop := sortingConsequencesRow.holds Tryd.pinned (OpenSpec.ofChange sortingConsequencesWrong)

/-- 'bowlinelaw36.SortingTreaps': WHATEVER THE INPUT: true; the input reads as it did. -/
def sortingTreapsSpec : ChangeSpec := { name := "sortingTreaps", fn := fun _ => fun
  | [d1, d2, d3] => { results := [.lit (.bool true)], args := [d1, d2, d3] }
  | _ => none }
def sortingTreapsRow : OpenClaim := { program := "ytfabaiiobdhocaadoor", sum := "74b3a3da9d8946b8113c0f6ba9a9e6aa377e625967d724d0ccd4a61b12c2caff", func := "bowline/bowlinelaw36.SortingTreaps", spec := "sortingTreaps", inPlace := ["internal/abi.NoEscape"], unfollowed := true, recurses := true, named := ["bowline/sorting.orders", "internal/strconv.uint64pow10", "math/bits.deBruijn32tab", "math/bits.deBruijn64tab"], plainKeys := false, apart := false, laid := [("math/bits.deBruijn32tab", laid_math_bits_deBruijn32tab), ("math/bits.deBruijn64tab", laid_math_bits_deBruijn64tab), ("internal/strconv.uint64pow10", laid_internal_strconv_uint64pow10), ("bowline/sorting.orders", laid_bowline_sorting_orders)] }
def SortingTreapsSaid : Prop := sortingTreapsRow.holds Tryd.pinned (OpenSpec.ofChange sortingTreapsSpec)

/-- ITS FALSE NEIGHBOUR: 'it returns false'. Refute it at one input. -/
def sortingTreapsWrong : ChangeSpec := { name := "sortingTreaps", fn := fun _ => fun
  | [d1, d2, d3] => { results := [.lit (.bool false)], args := [d1, d2, d3] }
  | _ => none }
def SortingTreapsWrongFalsely : Prop := sortingTreapsRow.holds Tryd.pinned (OpenSpec.ofChange sortingTreapsWrong)

/- THE SECOND FORM. 'bulk': how many values and letters a reading holds, each counted each time it is reached (what is shared counts as often as it is met; a slice's spare places count too). A statement '..UptoSaid' is the law's where the arguments, and the package variables that the reading takes, are together of bulk at most 1048576: NARROWER than '..Said'. Prove '..Said' where nothing that the law and all that it calls make is longer than what came in: it says more and counts as full. Else prove '..UptoSaid'. A law counts once. -/
mutual
def uptoBulk {H : Type} : DataW H → Nat
  | .lit (.string bytes) => bytes.length + 1
  | .lit _ => 1
  | .nil => 1
  | .ptr d => uptoBulk d + 1
  | .slice elems spare => uptoBulkAll elems + uptoBulkAll spare + 1
  | .agg parts => uptoBulkAll parts + 1
  | .iface _ d => uptoBulk d + 1
  | .map entries => uptoBulkEntries entries + 1
  | .held _ => 1
def uptoBulkAll {H : Type} : List (DataW H) → Nat
  | [] => 0
  | d :: r => uptoBulk d + uptoBulkAll r
def uptoBulkEntries {H : Type} : List (Lit × DataW H) → Nat
  | [] => 0
  | x :: r => uptoBulkEntry x + uptoBulkEntries r
def uptoBulkEntry {H : Type} : Lit × DataW H → Nat
  | (.string bytes, d) => bytes.length + uptoBulk d + 1
  | (_, d) => uptoBulk d + 1
 end
def uptoSmall : (H : Type) → List (DataW H) → Bool := fun _ ds => decide (uptoBulkAll ds ≤ 1048576)
def OpenSpec.upto (s : _root_.Go.ChangeSpec) : _root_.Go.OpenSpec := { _root_.Go.OpenSpec.ofChange s with cond := some uptoSmall }

/-- 'bowlinelaw36.SortingQueues', WHERE WHAT IT READS IS OF BULK AT MOST 1048576: true; the input reads as it did. -/
def sortingQueuesUptoRow : OpenClaim := { program := "ytfabaiiobdhocaadoor", sum := "74b3a3da9d8946b8113c0f6ba9a9e6aa377e625967d724d0ccd4a61b12c2caff", func := "bowline/bowlinelaw36.SortingQueues", spec := "sortingQueues", inPlace := ["internal/abi.NoEscape"], unfollowed := true, recurses := true, named := ["bowline/sorting.orders", "internal/strconv.uint64pow10", "math/bits.deBruijn32tab", "math/bits.deBruijn64tab"], plainKeys := false, apart := false, laid := [("math/bits.deBruijn32tab", laid_math_bits_deBruijn32tab), ("math/bits.deBruijn64tab", laid_math_bits_deBruijn64tab), ("internal/strconv.uint64pow10", laid_internal_strconv_uint64pow10), ("bowline/sorting.orders", laid_bowline_sorting_orders)], narrowed := true }
def SortingQueuesUptoSaid : Prop := sortingQueuesUptoRow.holds Tryd.pinned (OpenSpec.upto sortingQueuesSpec)

/-- 'bowlinelaw36.SortingMerges', WHERE WHAT IT READS IS OF BULK AT MOST 1048576: true; the input reads as it did. -/
def sortingMergesUptoRow : OpenClaim := { program := "ytfabaiiobdhocaadoor", sum := "74b3a3da9d8946b8113c0f6ba9a9e6aa377e625967d724d0ccd4a61b12c2caff", func := "bowline/bowlinelaw36.SortingMerges", spec := "sortingMerges", inPlace := ["internal/abi.NoEscape"], unfollowed := true, recurses := true, named := ["bowline/sorting.orders", "internal/strconv.uint64pow10", "math/bits.deBruijn32tab", "math/bits.deBruijn64tab"], plainKeys := false, apart := false, laid := [("math/bits.deBruijn32tab", laid_math_bits_deBruijn32tab), ("math/bits.deBruijn64tab", laid_math_bits_deBruijn64tab), ("internal/strconv.uint64pow10", laid_internal_strconv_uint64pow10), ("bowline/sorting.orders", laid_bowline_sorting_orders)], narrowed := true }
def SortingMergesUptoSaid : Prop := sortingMergesUptoRow.holds Tryd.pinned (OpenSpec.upto sortingMergesSpec)

/-- 'bowlinelaw36.SortingInPlace', WHERE WHAT IT READS IS OF BULK AT MOST 1048576: true; the input reads as it did. -/
def sortingInPlaceUptoRow : OpenClaim := { program := "ytfabaiiobdhocaadoor", sum := "74b3a3da9d8946b8113c0f6ba9a9e6aa377e625967d724d0ccd4a61b12c2caff", func := "bowline/bowlinelaw36.SortingInPlace", spec := "sortingInPlace", inPlace := ["internal/abi.NoEscape"], unfollowed := true, recurses := true, named := ["bowline/sorting.orders", "internal/strconv.uint64pow10", "math/bits.deBruijn32tab", "math/bits.deBruijn64tab"], plainKeys := false, apart := false, laid := [("math/bits.deBruijn32tab", laid_math_bits_deBruijn32tab), ("math/bits.deBruijn64tab", laid_math_bits_deBruijn64tab), ("internal/strconv.uint64pow10", laid_internal_strconv_uint64pow10), ("bowline/sorting.orders", laid_bowline_sorting_orders)], narrowed := true }
def SortingInPlaceUptoSaid : Prop := sortingInPlaceUptoRow.holds Tryd.pinned (OpenSpec.upto sortingInPlaceSpec)

/-- 'bowlinelaw36.SortingSelects', WHERE WHAT IT READS IS OF BULK AT MOST 1048576: true; the input reads as it did. -/
def sortingSelectsUptoRow : OpenClaim := { program := "ytfabaiiobdhocaadoor", sum := "74b3a3da9d8946b8113c0f6ba9a9e6aa377e625967d724d0ccd4a61b12c2caff", func := "bowline/bowlinelaw36.SortingSelects", spec := "sortingSelects", inPlace := ["internal/abi.NoEscape"], unfollowed := true, recurses := true, named := ["bowline/sorting.orders", "internal/strconv.uint64pow10", "math/bits.deBruijn32tab", "math/bits.deBruijn64tab"], plainKeys := false, apart := false, laid := [("math/bits.deBruijn32tab", laid_math_bits_deBruijn32tab), ("math/bits.deBruijn64tab", laid_math_bits_deBruijn64tab), ("internal/strconv.uint64pow10", laid_internal_strconv_uint64pow10), ("bowline/sorting.orders", laid_bowline_sorting_orders)], narrowed := true }
def SortingSelectsUptoSaid : Prop := sortingSelectsUptoRow.holds Tryd.pinned (OpenSpec.upto sortingSelectsSpec)

/-- 'bowlinelaw36.SortingStable', WHERE WHAT IT READS IS OF BULK AT MOST 1048576: true; the input reads as it did. -/
def sortingStableUptoRow : OpenClaim := { program := "ytfabaiiobdhocaadoor", sum := "74b3a3da9d8946b8113c0f6ba9a9e6aa377e625967d724d0ccd4a61b12c2caff", func := "bowline/bowlinelaw36.SortingStable", spec := "sortingStable", inPlace := ["internal/abi.NoEscape"], unfollowed := true, recurses := true, named := ["bowline/sorting.orders", "internal/strconv.uint64pow10", "math/bits.deBruijn32tab", "math/bits.deBruijn64tab"], plainKeys := false, apart := false, laid := [("math/bits.deBruijn32tab", laid_math_bits_deBruijn32tab), ("math/bits.deBruijn64tab", laid_math_bits_deBruijn64tab), ("internal/strconv.uint64pow10", laid_internal_strconv_uint64pow10), ("bowline/sorting.orders", laid_bowline_sorting_orders)], narrowed := true }
def SortingStableUptoSaid : Prop := sortingStableUptoRow.holds Tryd.pinned (OpenSpec.upto sortingStableSpec)

/-- 'bowlinelaw36.SortingConsequences', WHERE WHAT IT READS IS OF BULK AT MOST 1048576: true; the input reads as it did. -/
def sortingConsequencesUptoRow : OpenClaim := { program := "ytfabaiiobdhocaadoor", sum := "74b3a3da9d8946b8113c0f6ba9a9e6aa377e625967d724d0ccd4a61b12c2caff", func := "bowline/bowlinelaw36.SortingConsequences", spec := "sortingConsequences", inPlace := ["internal/abi.NoEscape"], unfollowed := true, recurses := true, named := ["bowline/sorting.orders", "internal/strconv.uint64pow10", "math/bits.deBruijn32tab", "math/bits.deBruijn64tab"], plainKeys := false, apart := false, laid := [("math/bits.deBruijn32tab", laid_math_bits_deBruijn32tab), ("math/bits.deBruijn64tab", laid_math_bits_deBruijn64tab), ("internal/strconv.uint64pow10", laid_internal_strconv_uint64pow10), ("bowline/sorting.orders", laid_bowline_sorting_orders)], narrowed := true }
def SortingConsequencesUptoSaid : Prop := sortingConsequencesUptoRow.holds Tryd.pinned (OpenSpec.upto sortingConsequencesSpec)

/-- 'bowlinelaw36.SortingTreaps', WHERE WHAT IT READS IS OF BULK AT MOST 1048576: true; the input reads as it did. -/
def sortingTreapsUptoRow : OpenClaim := { program := "ytfabaiiobdhocaadoor", sum := "74b3a3da9d8946b8113c0f6ba9a9e6aa377e625967d724d0ccd4a61b12c2caff", func := "bowline/bowlinelaw36.SortingTreaps", spec := "sortingTreaps", inPlace := ["internal/abi.NoEscape"], unfollowed := true, recurses := true, named := ["bowline/sorting.orders", "internal/strconv.uint64pow10", "math/bits.deBruijn32tab", "math/bits.deBruijn64tab"], plainKeys := false, apart := false, laid := [("math/bits.deBruijn32tab", laid_math_bits_deBruijn32tab), ("math/bits.deBruijn64tab", laid_math_bits_deBruijn64tab), ("internal/strconv.uint64pow10", laid_internal_strconv_uint64pow10), ("bowline/sorting.orders", laid_bowline_sorting_orders)], narrowed := true }
def SortingTreapsUptoSaid : Prop := sortingTreapsUptoRow.holds Tryd.pinned (OpenSpec.upto sortingTreapsSpec)

end Rows
end Go.Proofs.YtfabaiiobdhocaaDoor
