/- Texts put together: Tab, Fy, Fz, Ga, Gb, Gc, Gd, Ge, Gf, Gi, Gj. -/
import Derived.Test.YtdecfjlhidgceaaGreatDoorKe2
import Derived.Test.YtdecfjlhidgceaaGreatDoorProg
import Derived.RangeFuncIn
import Derived.RangeFuncRecord
import Derived.Below
namespace Go.Proofs.Rf
open Go Go.RowKit
def tyTab : List (Nat × TD) := [(1, { k := TK.oth, size := 1, bytes := 8, zero := [AV.d Ty.fv (Int.ofNat 0)], ty := none, cmp := true }),
 (2, { k := TK.int Go.IntKind.i64, size := 1, bytes := 8, zero := [AV.d (Ty.int Go.IntKind.i64) (Int.ofNat 0)], ty := some (Ty.int Go.IntKind.i64), cmp := true }),
 (3, { k := TK.int Go.IntKind.i64, size := 1, bytes := 8, zero := [AV.d (Ty.int Go.IntKind.i64) (Int.ofNat 0)], ty := some (Ty.int Go.IntKind.i64), cmp := true }),
 (4, { k := TK.bool, size := 1, bytes := 1, zero := [AV.d Ty.bool false], ty := some Ty.bool, cmp := true }),
 (5, { k := TK.int Go.IntKind.u8, size := 1, bytes := 1, zero := [AV.d (Ty.int Go.IntKind.u8) (Int.ofNat 0)], ty := some (Ty.int Go.IntKind.u8), cmp := true }),
 (6, { k := TK.int Go.IntKind.u8, size := 1, bytes := 1, zero := [AV.d (Ty.int Go.IntKind.u8) (Int.ofNat 0)], ty := some (Ty.int Go.IntKind.u8), cmp := true }),
 (7, { k := TK.st [(0, 2), (1, 3), (2, 4), (3, 6)], size := 4, bytes := 24, zero := [AV.d (Ty.int Go.IntKind.i64) (Int.ofNat 0), AV.d (Ty.int Go.IntKind.i64) (Int.ofNat 0), AV.d Ty.bool false, AV.d (Ty.int Go.IntKind.u8) (Int.ofNat 0)], ty := some (Ty.pr (Ty.int Go.IntKind.i64) (Ty.pr (Ty.int Go.IntKind.i64) (Ty.pr Ty.bool (Ty.int Go.IntKind.u8)))), cmp := true }),
 (8, { k := TK.st [(0, 2), (1, 3), (2, 4), (3, 6)], size := 4, bytes := 24, zero := [AV.d (Ty.int Go.IntKind.i64) (Int.ofNat 0), AV.d (Ty.int Go.IntKind.i64) (Int.ofNat 0), AV.d Ty.bool false, AV.d (Ty.int Go.IntKind.u8) (Int.ofNat 0)], ty := some (Ty.pr (Ty.int Go.IntKind.i64) (Ty.pr (Ty.int Go.IntKind.i64) (Ty.pr Ty.bool (Ty.int Go.IntKind.u8)))), cmp := true }),
 (9, { k := TK.str, size := 1, bytes := 16, zero := [AV.d Ty.str []], ty := some Ty.str, cmp := true }),
 (10, { k := TK.str, size := 1, bytes := 16, zero := [AV.d Ty.str []], ty := some Ty.str, cmp := true }),
 (11, { k := TK.str, size := 1, bytes := 16, zero := [AV.d Ty.str []], ty := some Ty.str, cmp := true }),
 (12, { k := TK.int Go.IntKind.u64, size := 1, bytes := 8, zero := [AV.d (Ty.int Go.IntKind.u64) (Int.ofNat 0)], ty := some (Ty.int Go.IntKind.u64), cmp := true }),
 (13, { k := TK.st [(0, 9), (1, 12)], size := 2, bytes := 24, zero := [AV.d Ty.str [], AV.d (Ty.int Go.IntKind.u64) (Int.ofNat 0)], ty := some (Ty.pr Ty.str (Ty.int Go.IntKind.u64)), cmp := false }),
 (14, { k := TK.st [(0, 9), (1, 12)], size := 2, bytes := 24, zero := [AV.d Ty.str [], AV.d (Ty.int Go.IntKind.u64) (Int.ofNat 0)], ty := some (Ty.pr Ty.str (Ty.int Go.IntKind.u64)), cmp := false }),
 (15, { k := TK.pt 227, size := 1, bytes := 8, zero := [AV.np], ty := none, cmp := true }),
 (16, { k := TK.pt 230, size := 1, bytes := 8, zero := [AV.np], ty := none, cmp := true }),
 (17, { k := TK.pt 237, size := 1, bytes := 8, zero := [AV.np], ty := none, cmp := true }),
 (18, { k := TK.st [(0, 17)], size := 1, bytes := 8, zero := [AV.np], ty := none, cmp := false }),
 (19, { k := TK.st [(0, 17)], size := 1, bytes := 8, zero := [AV.np], ty := none, cmp := false }),
 (20, { k := TK.ifc, size := 1, bytes := 16, zero := [AV.d Ty.ic true], ty := some Ty.ic, cmp := true }),
 (21, { k := TK.int Go.IntKind.i32, size := 1, bytes := 4, zero := [AV.d (Ty.int Go.IntKind.i32) (Int.ofNat 0)], ty := some (Ty.int Go.IntKind.i32), cmp := true }),
 (22, { k := TK.sl 37, size := 1, bytes := 24, zero := [AV.nl], ty := some (Ty.sl (Ty.pr (Ty.int Go.IntKind.i64) (Ty.pr Ty.str (Ty.pr (Ty.pr (Ty.int Go.IntKind.i64) (Ty.int Go.IntKind.i64)) (Ty.pr (Ty.pr (Ty.int Go.IntKind.i64) (Ty.int Go.IntKind.i64)) (Ty.pr (Ty.int Go.IntKind.i64) (Ty.pr (Ty.int Go.IntKind.i64) (Ty.pr Ty.bool (Ty.pr (Ty.int Go.IntKind.u64) (Ty.pr (Ty.pr (Ty.int Go.IntKind.i64) (Ty.pr (Ty.int Go.IntKind.u64) (Ty.pr (Ty.int Go.IntKind.i64) (Ty.int Go.IntKind.i64)))) (Ty.pr (Ty.sl (Ty.int Go.IntKind.u8)) (Ty.sl Ty.bool)))))))))))), cmp := true }),
 (23, { k := TK.oth, size := 1, bytes := 8, zero := [AV.d Ty.fv (Int.ofNat 0)], ty := none, cmp := true }),
 (24, { k := TK.oth, size := 1, bytes := 8, zero := [AV.d Ty.fv (Int.ofNat 0)], ty := none, cmp := true }),
 (25, { k := TK.oth, size := 1, bytes := 8, zero := [AV.d Ty.fv (Int.ofNat 0)], ty := none, cmp := true }),
 (26, { k := TK.int Go.IntKind.u64, size := 1, bytes := 8, zero := [AV.d (Ty.int Go.IntKind.u64) (Int.ofNat 0)], ty := some (Ty.int Go.IntKind.u64), cmp := true }),
 (27, { k := TK.st [(0, 3), (1, 3)], size := 2, bytes := 16, zero := [AV.d (Ty.int Go.IntKind.i64) (Int.ofNat 0), AV.d (Ty.int Go.IntKind.i64) (Int.ofNat 0)], ty := some (Ty.pr (Ty.int Go.IntKind.i64) (Ty.int Go.IntKind.i64)), cmp := true }),
 (28, { k := TK.st [(0, 3), (1, 3)], size := 2, bytes := 16, zero := [AV.d (Ty.int Go.IntKind.i64) (Int.ofNat 0), AV.d (Ty.int Go.IntKind.i64) (Int.ofNat 0)], ty := some (Ty.pr (Ty.int Go.IntKind.i64) (Ty.int Go.IntKind.i64)), cmp := true }),
 (29, { k := TK.st [(0, 3), (1, 26), (2, 28)], size := 4, bytes := 32, zero := [AV.d (Ty.int Go.IntKind.i64) (Int.ofNat 0), AV.d (Ty.int Go.IntKind.u64) (Int.ofNat 0), AV.d (Ty.int Go.IntKind.i64) (Int.ofNat 0), AV.d (Ty.int Go.IntKind.i64) (Int.ofNat 0)], ty := some (Ty.pr (Ty.int Go.IntKind.i64) (Ty.pr (Ty.int Go.IntKind.u64) (Ty.pr (Ty.int Go.IntKind.i64) (Ty.int Go.IntKind.i64)))), cmp := true }),
 (30, { k := TK.st [(0, 3), (1, 26), (2, 28)], size := 4, bytes := 32, zero := [AV.d (Ty.int Go.IntKind.i64) (Int.ofNat 0), AV.d (Ty.int Go.IntKind.u64) (Int.ofNat 0), AV.d (Ty.int Go.IntKind.i64) (Int.ofNat 0), AV.d (Ty.int Go.IntKind.i64) (Int.ofNat 0)], ty := some (Ty.pr (Ty.int Go.IntKind.i64) (Ty.pr (Ty.int Go.IntKind.u64) (Ty.pr (Ty.int Go.IntKind.i64) (Ty.int Go.IntKind.i64)))), cmp := true }),
 (31, { k := TK.oth, size := 1, bytes := 8, zero := [AV.d Ty.fv (Int.ofNat 0)], ty := none, cmp := true }),
 (32, { k := TK.pt 76, size := 1, bytes := 8, zero := [AV.np], ty := none, cmp := true }),
 (33, { k := TK.oth, size := 1, bytes := 8, zero := [AV.d Ty.fv (Int.ofNat 0)], ty := none, cmp := true }),
 (34, { k := TK.sl 5, size := 1, bytes := 24, zero := [AV.nl], ty := some (Ty.sl (Ty.int Go.IntKind.u8)), cmp := true }),
 (35, { k := TK.sl 4, size := 1, bytes := 24, zero := [AV.nl], ty := some (Ty.sl Ty.bool), cmp := true }),
 (36, { k := TK.st [(0, 3), (1, 9), (2, 28), (4, 28), (6, 3), (7, 3), (8, 4), (9, 26), (10, 30), (14, 34), (15, 35)], size := 16, bytes := 168, zero := [AV.d (Ty.int Go.IntKind.i64) (Int.ofNat 0), AV.d Ty.str [], AV.d (Ty.int Go.IntKind.i64) (Int.ofNat 0), AV.d (Ty.int Go.IntKind.i64) (Int.ofNat 0), AV.d (Ty.int Go.IntKind.i64) (Int.ofNat 0), AV.d (Ty.int Go.IntKind.i64) (Int.ofNat 0), AV.d (Ty.int Go.IntKind.i64) (Int.ofNat 0), AV.d (Ty.int Go.IntKind.i64) (Int.ofNat 0), AV.d Ty.bool false, AV.d (Ty.int Go.IntKind.u64) (Int.ofNat 0), AV.d (Ty.int Go.IntKind.i64) (Int.ofNat 0), AV.d (Ty.int Go.IntKind.u64) (Int.ofNat 0), AV.d (Ty.int Go.IntKind.i64) (Int.ofNat 0), AV.d (Ty.int Go.IntKind.i64) (Int.ofNat 0), AV.nl, AV.nl], ty := some (Ty.pr (Ty.int Go.IntKind.i64) (Ty.pr Ty.str (Ty.pr (Ty.pr (Ty.int Go.IntKind.i64) (Ty.int Go.IntKind.i64)) (Ty.pr (Ty.pr (Ty.int Go.IntKind.i64) (Ty.int Go.IntKind.i64)) (Ty.pr (Ty.int Go.IntKind.i64) (Ty.pr (Ty.int Go.IntKind.i64) (Ty.pr Ty.bool (Ty.pr (Ty.int Go.IntKind.u64) (Ty.pr (Ty.pr (Ty.int Go.IntKind.i64) (Ty.pr (Ty.int Go.IntKind.u64) (Ty.pr (Ty.int Go.IntKind.i64) (Ty.int Go.IntKind.i64)))) (Ty.pr (Ty.sl (Ty.int Go.IntKind.u8)) (Ty.sl Ty.bool))))))))))), cmp := true }),
 (37, { k := TK.st [(0, 3), (1, 9), (2, 28), (4, 28), (6, 3), (7, 3), (8, 4), (9, 26), (10, 30), (14, 34), (15, 35)], size := 16, bytes := 168, zero := [AV.d (Ty.int Go.IntKind.i64) (Int.ofNat 0), AV.d Ty.str [], AV.d (Ty.int Go.IntKind.i64) (Int.ofNat 0), AV.d (Ty.int Go.IntKind.i64) (Int.ofNat 0), AV.d (Ty.int Go.IntKind.i64) (Int.ofNat 0), AV.d (Ty.int Go.IntKind.i64) (Int.ofNat 0), AV.d (Ty.int Go.IntKind.i64) (Int.ofNat 0), AV.d (Ty.int Go.IntKind.i64) (Int.ofNat 0), AV.d Ty.bool false, AV.d (Ty.int Go.IntKind.u64) (Int.ofNat 0), AV.d (Ty.int Go.IntKind.i64) (Int.ofNat 0), AV.d (Ty.int Go.IntKind.u64) (Int.ofNat 0), AV.d (Ty.int Go.IntKind.i64) (Int.ofNat 0), AV.d (Ty.int Go.IntKind.i64) (Int.ofNat 0), AV.nl, AV.nl], ty := some (Ty.pr (Ty.int Go.IntKind.i64) (Ty.pr Ty.str (Ty.pr (Ty.pr (Ty.int Go.IntKind.i64) (Ty.int Go.IntKind.i64)) (Ty.pr (Ty.pr (Ty.int Go.IntKind.i64) (Ty.int Go.IntKind.i64)) (Ty.pr (Ty.int Go.IntKind.i64) (Ty.pr (Ty.int Go.IntKind.i64) (Ty.pr Ty.bool (Ty.pr (Ty.int Go.IntKind.u64) (Ty.pr (Ty.pr (Ty.int Go.IntKind.i64) (Ty.pr (Ty.int Go.IntKind.u64) (Ty.pr (Ty.int Go.IntKind.i64) (Ty.int Go.IntKind.i64)))) (Ty.pr (Ty.sl (Ty.int Go.IntKind.u8)) (Ty.sl Ty.bool))))))))))), cmp := true }),
 (38, { k := TK.st [(0, 28), (2, 30), (6, 4), (7, 3), (8, 34)], size := 9, bytes := 88, zero := [AV.d (Ty.int Go.IntKind.i64) (Int.ofNat 0), AV.d (Ty.int Go.IntKind.i64) (Int.ofNat 0), AV.d (Ty.int Go.IntKind.i64) (Int.ofNat 0), AV.d (Ty.int Go.IntKind.u64) (Int.ofNat 0), AV.d (Ty.int Go.IntKind.i64) (Int.ofNat 0), AV.d (Ty.int Go.IntKind.i64) (Int.ofNat 0), AV.d Ty.bool false, AV.d (Ty.int Go.IntKind.i64) (Int.ofNat 0), AV.nl], ty := some (Ty.pr (Ty.pr (Ty.int Go.IntKind.i64) (Ty.int Go.IntKind.i64)) (Ty.pr (Ty.pr (Ty.int Go.IntKind.i64) (Ty.pr (Ty.int Go.IntKind.u64) (Ty.pr (Ty.int Go.IntKind.i64) (Ty.int Go.IntKind.i64)))) (Ty.pr Ty.bool (Ty.pr (Ty.int Go.IntKind.i64) (Ty.sl (Ty.int Go.IntKind.u8)))))), cmp := true }),
 (39, { k := TK.st [(0, 28), (2, 30), (6, 4), (7, 3), (8, 34)], size := 9, bytes := 88, zero := [AV.d (Ty.int Go.IntKind.i64) (Int.ofNat 0), AV.d (Ty.int Go.IntKind.i64) (Int.ofNat 0), AV.d (Ty.int Go.IntKind.i64) (Int.ofNat 0), AV.d (Ty.int Go.IntKind.u64) (Int.ofNat 0), AV.d (Ty.int Go.IntKind.i64) (Int.ofNat 0), AV.d (Ty.int Go.IntKind.i64) (Int.ofNat 0), AV.d Ty.bool false, AV.d (Ty.int Go.IntKind.i64) (Int.ofNat 0), AV.nl], ty := some (Ty.pr (Ty.pr (Ty.int Go.IntKind.i64) (Ty.int Go.IntKind.i64)) (Ty.pr (Ty.pr (Ty.int Go.IntKind.i64) (Ty.pr (Ty.int Go.IntKind.u64) (Ty.pr (Ty.int Go.IntKind.i64) (Ty.int Go.IntKind.i64)))) (Ty.pr Ty.bool (Ty.pr (Ty.int Go.IntKind.i64) (Ty.sl (Ty.int Go.IntKind.u8)))))), cmp := true }),
 (40, { k := TK.oth, size := 1, bytes := 8, zero := [AV.d Ty.fv (Int.ofNat 0)], ty := none, cmp := true }),
 (41, { k := TK.st [(0, 3), (1, 3)], size := 2, bytes := 16, zero := [AV.d (Ty.int Go.IntKind.i64) (Int.ofNat 0), AV.d (Ty.int Go.IntKind.i64) (Int.ofNat 0)], ty := some (Ty.pr (Ty.int Go.IntKind.i64) (Ty.int Go.IntKind.i64)), cmp := true }),
 (42, { k := TK.int Go.IntKind.i64, size := 1, bytes := 8, zero := [AV.d (Ty.int Go.IntKind.i64) (Int.ofNat 0)], ty := some (Ty.int Go.IntKind.i64), cmp := true }),
 (44, { k := TK.oth, size := 1, bytes := 8, zero := [AV.d Ty.fv (Int.ofNat 0)], ty := none, cmp := true }),
 (46, { k := TK.oth, size := 1, bytes := 8, zero := [AV.d Ty.fv (Int.ofNat 0)], ty := none, cmp := true }),
 (47, { k := TK.st [(0, 3), (1, 26), (2, 41)], size := 4, bytes := 32, zero := [AV.d (Ty.int Go.IntKind.i64) (Int.ofNat 0), AV.d (Ty.int Go.IntKind.u64) (Int.ofNat 0), AV.d (Ty.int Go.IntKind.i64) (Int.ofNat 0), AV.d (Ty.int Go.IntKind.i64) (Int.ofNat 0)], ty := some (Ty.pr (Ty.int Go.IntKind.i64) (Ty.pr (Ty.int Go.IntKind.u64) (Ty.pr (Ty.int Go.IntKind.i64) (Ty.int Go.IntKind.i64)))), cmp := true }),
 (48, { k := TK.st [(0, 3), (1, 26), (2, 41)], size := 4, bytes := 32, zero := [AV.d (Ty.int Go.IntKind.i64) (Int.ofNat 0), AV.d (Ty.int Go.IntKind.u64) (Int.ofNat 0), AV.d (Ty.int Go.IntKind.i64) (Int.ofNat 0), AV.d (Ty.int Go.IntKind.i64) (Int.ofNat 0)], ty := some (Ty.pr (Ty.int Go.IntKind.i64) (Ty.pr (Ty.int Go.IntKind.u64) (Ty.pr (Ty.int Go.IntKind.i64) (Ty.int Go.IntKind.i64)))), cmp := true }),
 (50, { k := TK.oth, size := 1, bytes := 8, zero := [AV.d Ty.fv (Int.ofNat 0)], ty := none, cmp := true }),
 (51, { k := TK.oth, size := 1, bytes := 8, zero := [AV.d Ty.fv (Int.ofNat 0)], ty := none, cmp := true }),
 (52, { k := TK.oth, size := 1, bytes := 8, zero := [AV.d Ty.fv (Int.ofNat 0)], ty := none, cmp := true }),
 (53, { k := TK.oth, size := 1, bytes := 8, zero := [AV.d Ty.fv (Int.ofNat 0)], ty := none, cmp := true }),
 (54, { k := TK.oth, size := 1, bytes := 8, zero := [AV.d Ty.fv (Int.ofNat 0)], ty := none, cmp := true }),
 (55, { k := TK.sl 3, size := 1, bytes := 24, zero := [AV.nl], ty := some (Ty.sl (Ty.int Go.IntKind.i64)), cmp := true }),
 (56, { k := TK.oth, size := 1, bytes := 8, zero := [AV.d Ty.fv (Int.ofNat 0)], ty := none, cmp := true }),
 (57, { k := TK.oth, size := 1, bytes := 8, zero := [AV.d Ty.fv (Int.ofNat 0)], ty := none, cmp := true }),
 (58, { k := TK.oth, size := 1, bytes := 8, zero := [AV.d Ty.fv (Int.ofNat 0)], ty := none, cmp := true }),
 (59, { k := TK.oth, size := 1, bytes := 8, zero := [AV.d Ty.fv (Int.ofNat 0)], ty := none, cmp := true }),
 (60, { k := TK.oth, size := 1, bytes := 8, zero := [AV.d Ty.fv (Int.ofNat 0)], ty := none, cmp := true }),
 (62, { k := TK.oth, size := 1, bytes := 8, zero := [AV.d Ty.fv (Int.ofNat 0)], ty := none, cmp := true }),
 (63, { k := TK.oth, size := 1, bytes := 8, zero := [AV.d Ty.fv (Int.ofNat 0)], ty := none, cmp := true }),
 (64, { k := TK.oth, size := 1, bytes := 8, zero := [AV.d Ty.fv (Int.ofNat 0)], ty := none, cmp := true }),
 (66, { k := TK.oth, size := 1, bytes := 8, zero := [AV.d Ty.fv (Int.ofNat 0)], ty := none, cmp := true }),
 (67, { k := TK.pt 123, size := 1, bytes := 8, zero := [AV.np], ty := none, cmp := true }),
 (68, { k := TK.oth, size := 1, bytes := 8, zero := [AV.d Ty.fv (Int.ofNat 0)], ty := none, cmp := true }),
 (69, { k := TK.oth, size := 1, bytes := 8, zero := [AV.d Ty.fv (Int.ofNat 0)], ty := none, cmp := true }),
 (70, { k := TK.oth, size := 1, bytes := 8, zero := [AV.d Ty.fv (Int.ofNat 0)], ty := none, cmp := true }),
 (71, { k := TK.oth, size := 1, bytes := 8, zero := [AV.d Ty.fv (Int.ofNat 0)], ty := none, cmp := true }),
 (72, { k := TK.oth, size := 1, bytes := 8, zero := [AV.d Ty.fv (Int.ofNat 0)], ty := none, cmp := true }),
 (73, { k := TK.oth, size := 1, bytes := 8, zero := [AV.d Ty.fv (Int.ofNat 0)], ty := none, cmp := true }),
 (74, { k := TK.sl 114, size := 1, bytes := 24, zero := [AV.nl], ty := some (Ty.sl (Ty.pr (Ty.pr (Ty.int Go.IntKind.i64) (Ty.pr (Ty.int Go.IntKind.i64) Ty.bool)) (Ty.pr Ty.bool (Ty.sl (Ty.pr (Ty.int Go.IntKind.i64) (Ty.pr (Ty.int Go.IntKind.u8) (Ty.pr (Ty.int Go.IntKind.i64) (Ty.int Go.IntKind.i64)))))))), cmp := true }),
 (75, { k := TK.st [(0, 74), (1, 3)], size := 2, bytes := 32, zero := [AV.nl, AV.d (Ty.int Go.IntKind.i64) (Int.ofNat 0)], ty := some (Ty.pr (Ty.sl (Ty.pr (Ty.pr (Ty.int Go.IntKind.i64) (Ty.pr (Ty.int Go.IntKind.i64) Ty.bool)) (Ty.pr Ty.bool (Ty.sl (Ty.pr (Ty.int Go.IntKind.i64) (Ty.pr (Ty.int Go.IntKind.u8) (Ty.pr (Ty.int Go.IntKind.i64) (Ty.int Go.IntKind.i64)))))))) (Ty.int Go.IntKind.i64)), cmp := true }),
 (76, { k := TK.st [(0, 74), (1, 3)], size := 2, bytes := 32, zero := [AV.nl, AV.d (Ty.int Go.IntKind.i64) (Int.ofNat 0)], ty := some (Ty.pr (Ty.sl (Ty.pr (Ty.pr (Ty.int Go.IntKind.i64) (Ty.pr (Ty.int Go.IntKind.i64) Ty.bool)) (Ty.pr Ty.bool (Ty.sl (Ty.pr (Ty.int Go.IntKind.i64) (Ty.pr (Ty.int Go.IntKind.u8) (Ty.pr (Ty.int Go.IntKind.i64) (Ty.int Go.IntKind.i64)))))))) (Ty.int Go.IntKind.i64)), cmp := true }),
 (77, { k := TK.oth, size := 1, bytes := 8, zero := [AV.d Ty.fv (Int.ofNat 0)], ty := none, cmp := true }),
 (78, { k := TK.oth, size := 1, bytes := 8, zero := [AV.d Ty.fv (Int.ofNat 0)], ty := none, cmp := true }),
 (79, { k := TK.oth, size := 1, bytes := 8, zero := [AV.d Ty.fv (Int.ofNat 0)], ty := none, cmp := true }),
 (80, { k := TK.oth, size := 1, bytes := 8, zero := [AV.d Ty.fv (Int.ofNat 0)], ty := none, cmp := true }),
 (82, { k := TK.oth, size := 1, bytes := 8, zero := [AV.d Ty.fv (Int.ofNat 0)], ty := none, cmp := true }),
 (83, { k := TK.oth, size := 1, bytes := 8, zero := [AV.d Ty.fv (Int.ofNat 0)], ty := none, cmp := true }),
 (84, { k := TK.oth, size := 1, bytes := 8, zero := [AV.d Ty.fv (Int.ofNat 0)], ty := none, cmp := true }),
 (85, { k := TK.oth, size := 1, bytes := 8, zero := [AV.d Ty.fv (Int.ofNat 0)], ty := none, cmp := true }),
 (86, { k := TK.oth, size := 1, bytes := 8, zero := [AV.d Ty.fv (Int.ofNat 0)], ty := none, cmp := true }),
 (88, { k := TK.oth, size := 1, bytes := 8, zero := [AV.d Ty.fv (Int.ofNat 0)], ty := none, cmp := true }),
 (89, { k := TK.oth, size := 1, bytes := 8, zero := [AV.d Ty.fv (Int.ofNat 0)], ty := none, cmp := true }),
 (90, { k := TK.oth, size := 1, bytes := 8, zero := [AV.d Ty.fv (Int.ofNat 0)], ty := none, cmp := true }),
 (91, { k := TK.oth, size := 1, bytes := 8, zero := [AV.d Ty.fv (Int.ofNat 0)], ty := none, cmp := true }),
 (92, { k := TK.oth, size := 1, bytes := 8, zero := [AV.d Ty.fv (Int.ofNat 0)], ty := none, cmp := true }),
 (93, { k := TK.oth, size := 1, bytes := 8, zero := [AV.d Ty.fv (Int.ofNat 0)], ty := none, cmp := true }),
 (94, { k := TK.st [(0, 3), (1, 3), (2, 4)], size := 3, bytes := 24, zero := [AV.d (Ty.int Go.IntKind.i64) (Int.ofNat 0), AV.d (Ty.int Go.IntKind.i64) (Int.ofNat 0), AV.d Ty.bool false], ty := some (Ty.pr (Ty.int Go.IntKind.i64) (Ty.pr (Ty.int Go.IntKind.i64) Ty.bool)), cmp := true }),
 (95, { k := TK.st [(0, 3), (1, 3), (2, 4)], size := 3, bytes := 24, zero := [AV.d (Ty.int Go.IntKind.i64) (Int.ofNat 0), AV.d (Ty.int Go.IntKind.i64) (Int.ofNat 0), AV.d Ty.bool false], ty := some (Ty.pr (Ty.int Go.IntKind.i64) (Ty.pr (Ty.int Go.IntKind.i64) Ty.bool)), cmp := true }),
 (97, { k := TK.oth, size := 1, bytes := 8, zero := [AV.d Ty.fv (Int.ofNat 0)], ty := none, cmp := true }),
 (98, { k := TK.st [(0, 41), (2, 3), (3, 3), (4, 4)], size := 5, bytes := 40, zero := [AV.d (Ty.int Go.IntKind.i64) (Int.ofNat 0), AV.d (Ty.int Go.IntKind.i64) (Int.ofNat 0), AV.d (Ty.int Go.IntKind.i64) (Int.ofNat 0), AV.d (Ty.int Go.IntKind.i64) (Int.ofNat 0), AV.d Ty.bool false], ty := some (Ty.pr (Ty.pr (Ty.int Go.IntKind.i64) (Ty.int Go.IntKind.i64)) (Ty.pr (Ty.int Go.IntKind.i64) (Ty.pr (Ty.int Go.IntKind.i64) Ty.bool))), cmp := true }),
 (99, { k := TK.st [(0, 41), (2, 3), (3, 3), (4, 4)], size := 5, bytes := 40, zero := [AV.d (Ty.int Go.IntKind.i64) (Int.ofNat 0), AV.d (Ty.int Go.IntKind.i64) (Int.ofNat 0), AV.d (Ty.int Go.IntKind.i64) (Int.ofNat 0), AV.d (Ty.int Go.IntKind.i64) (Int.ofNat 0), AV.d Ty.bool false], ty := some (Ty.pr (Ty.pr (Ty.int Go.IntKind.i64) (Ty.int Go.IntKind.i64)) (Ty.pr (Ty.int Go.IntKind.i64) (Ty.pr (Ty.int Go.IntKind.i64) Ty.bool))), cmp := true }),
 (101, { k := TK.oth, size := 1, bytes := 8, zero := [AV.d Ty.fv (Int.ofNat 0)], ty := none, cmp := true }),
 (102, { k := TK.oth, size := 1, bytes := 8, zero := [AV.d Ty.fv (Int.ofNat 0)], ty := none, cmp := true }),
 (103, { k := TK.oth, size := 1, bytes := 8, zero := [AV.d Ty.fv (Int.ofNat 0)], ty := none, cmp := true }),
 (104, { k := TK.sl 110, size := 1, bytes := 24, zero := [AV.nl], ty := some (Ty.sl (Ty.pr (Ty.int Go.IntKind.i64) (Ty.pr (Ty.int Go.IntKind.u8) (Ty.pr (Ty.int Go.IntKind.i64) (Ty.int Go.IntKind.i64))))), cmp := true }),
 (105, { k := TK.oth, size := 1, bytes := 8, zero := [AV.d Ty.fv (Int.ofNat 0)], ty := none, cmp := true }),
 (106, { k := TK.oth, size := 1, bytes := 8, zero := [AV.d Ty.fv (Int.ofNat 0)], ty := none, cmp := true }),
 (107, { k := TK.oth, size := 1, bytes := 8, zero := [AV.d Ty.fv (Int.ofNat 0)], ty := none, cmp := true }),
 (108, { k := TK.oth, size := 1, bytes := 8, zero := [AV.d Ty.fv (Int.ofNat 0)], ty := none, cmp := true }),
 (109, { k := TK.st [(0, 3), (1, 5), (2, 41)], size := 4, bytes := 32, zero := [AV.d (Ty.int Go.IntKind.i64) (Int.ofNat 0), AV.d (Ty.int Go.IntKind.u8) (Int.ofNat 0), AV.d (Ty.int Go.IntKind.i64) (Int.ofNat 0), AV.d (Ty.int Go.IntKind.i64) (Int.ofNat 0)], ty := some (Ty.pr (Ty.int Go.IntKind.i64) (Ty.pr (Ty.int Go.IntKind.u8) (Ty.pr (Ty.int Go.IntKind.i64) (Ty.int Go.IntKind.i64)))), cmp := true }),
 (110, { k := TK.st [(0, 3), (1, 5), (2, 41)], size := 4, bytes := 32, zero := [AV.d (Ty.int Go.IntKind.i64) (Int.ofNat 0), AV.d (Ty.int Go.IntKind.u8) (Int.ofNat 0), AV.d (Ty.int Go.IntKind.i64) (Int.ofNat 0), AV.d (Ty.int Go.IntKind.i64) (Int.ofNat 0)], ty := some (Ty.pr (Ty.int Go.IntKind.i64) (Ty.pr (Ty.int Go.IntKind.u8) (Ty.pr (Ty.int Go.IntKind.i64) (Ty.int Go.IntKind.i64)))), cmp := true }),
 (111, { k := TK.oth, size := 1, bytes := 8, zero := [AV.d Ty.fv (Int.ofNat 0)], ty := none, cmp := true }),
 (112, { k := TK.oth, size := 1, bytes := 8, zero := [AV.d Ty.fv (Int.ofNat 0)], ty := none, cmp := true }),
 (113, { k := TK.st [(0, 95), (3, 4), (4, 104)], size := 5, bytes := 56, zero := [AV.d (Ty.int Go.IntKind.i64) (Int.ofNat 0), AV.d (Ty.int Go.IntKind.i64) (Int.ofNat 0), AV.d Ty.bool false, AV.d Ty.bool false, AV.nl], ty := some (Ty.pr (Ty.pr (Ty.int Go.IntKind.i64) (Ty.pr (Ty.int Go.IntKind.i64) Ty.bool)) (Ty.pr Ty.bool (Ty.sl (Ty.pr (Ty.int Go.IntKind.i64) (Ty.pr (Ty.int Go.IntKind.u8) (Ty.pr (Ty.int Go.IntKind.i64) (Ty.int Go.IntKind.i64))))))), cmp := true }),
 (114, { k := TK.st [(0, 95), (3, 4), (4, 104)], size := 5, bytes := 56, zero := [AV.d (Ty.int Go.IntKind.i64) (Int.ofNat 0), AV.d (Ty.int Go.IntKind.i64) (Int.ofNat 0), AV.d Ty.bool false, AV.d Ty.bool false, AV.nl], ty := some (Ty.pr (Ty.pr (Ty.int Go.IntKind.i64) (Ty.pr (Ty.int Go.IntKind.i64) Ty.bool)) (Ty.pr Ty.bool (Ty.sl (Ty.pr (Ty.int Go.IntKind.i64) (Ty.pr (Ty.int Go.IntKind.u8) (Ty.pr (Ty.int Go.IntKind.i64) (Ty.int Go.IntKind.i64))))))), cmp := true }),
 (115, { k := TK.oth, size := 1, bytes := 8, zero := [AV.d Ty.fv (Int.ofNat 0)], ty := none, cmp := true }),
 (116, { k := TK.oth, size := 1, bytes := 8, zero := [AV.d Ty.fv (Int.ofNat 0)], ty := none, cmp := true }),
 (117, { k := TK.ar 2 4, size := 2, bytes := 2, zero := [AV.d Ty.bool false, AV.d Ty.bool false], ty := some (Ty.pr Ty.bool Ty.bool), cmp := true }),
 (118, { k := TK.oth, size := 1, bytes := 8, zero := [AV.d Ty.fv (Int.ofNat 0)], ty := none, cmp := true }),
 (119, { k := TK.oth, size := 1, bytes := 8, zero := [AV.d Ty.fv (Int.ofNat 0)], ty := none, cmp := true }),
 (120, { k := TK.oth, size := 1, bytes := 8, zero := [AV.d Ty.fv (Int.ofNat 0)], ty := none, cmp := true }),
 (121, { k := TK.sl 140, size := 1, bytes := 24, zero := [AV.nl], ty := some (Ty.sl (Ty.pr (Ty.int Go.IntKind.i64) (Ty.pr (Ty.int Go.IntKind.i64) (Ty.pr Ty.bool (Ty.pr Ty.bool (Ty.sl (Ty.pr (Ty.int Go.IntKind.i64) (Ty.pr (Ty.int Go.IntKind.u8) (Ty.pr (Ty.pr (Ty.int Go.IntKind.i64) (Ty.int Go.IntKind.i64)) (Ty.int Go.IntKind.i64)))))))))), cmp := true }),
 (122, { k := TK.st [(0, 121), (1, 3)], size := 2, bytes := 32, zero := [AV.nl, AV.d (Ty.int Go.IntKind.i64) (Int.ofNat 0)], ty := some (Ty.pr (Ty.sl (Ty.pr (Ty.int Go.IntKind.i64) (Ty.pr (Ty.int Go.IntKind.i64) (Ty.pr Ty.bool (Ty.pr Ty.bool (Ty.sl (Ty.pr (Ty.int Go.IntKind.i64) (Ty.pr (Ty.int Go.IntKind.u8) (Ty.pr (Ty.pr (Ty.int Go.IntKind.i64) (Ty.int Go.IntKind.i64)) (Ty.int Go.IntKind.i64)))))))))) (Ty.int Go.IntKind.i64)), cmp := true }),
 (123, { k := TK.st [(0, 121), (1, 3)], size := 2, bytes := 32, zero := [AV.nl, AV.d (Ty.int Go.IntKind.i64) (Int.ofNat 0)], ty := some (Ty.pr (Ty.sl (Ty.pr (Ty.int Go.IntKind.i64) (Ty.pr (Ty.int Go.IntKind.i64) (Ty.pr Ty.bool (Ty.pr Ty.bool (Ty.sl (Ty.pr (Ty.int Go.IntKind.i64) (Ty.pr (Ty.int Go.IntKind.u8) (Ty.pr (Ty.pr (Ty.int Go.IntKind.i64) (Ty.int Go.IntKind.i64)) (Ty.int Go.IntKind.i64)))))))))) (Ty.int Go.IntKind.i64)), cmp := true }),
 (125, { k := TK.oth, size := 1, bytes := 8, zero := [AV.d Ty.fv (Int.ofNat 0)], ty := none, cmp := true }),
 (126, { k := TK.oth, size := 1, bytes := 8, zero := [AV.d Ty.fv (Int.ofNat 0)], ty := none, cmp := true }),
 (127, { k := TK.oth, size := 1, bytes := 8, zero := [AV.d Ty.fv (Int.ofNat 0)], ty := none, cmp := true }),
 (129, { k := TK.oth, size := 1, bytes := 8, zero := [AV.d Ty.fv (Int.ofNat 0)], ty := none, cmp := true }),
 (130, { k := TK.oth, size := 1, bytes := 8, zero := [AV.d Ty.fv (Int.ofNat 0)], ty := none, cmp := true }),
 (131, { k := TK.oth, size := 1, bytes := 8, zero := [AV.d Ty.fv (Int.ofNat 0)], ty := none, cmp := true }),
 (132, { k := TK.oth, size := 1, bytes := 8, zero := [AV.d Ty.fv (Int.ofNat 0)], ty := none, cmp := true }),
 (133, { k := TK.oth, size := 1, bytes := 8, zero := [AV.d Ty.fv (Int.ofNat 0)], ty := none, cmp := true }),
 (134, { k := TK.oth, size := 1, bytes := 8, zero := [AV.d Ty.fv (Int.ofNat 0)], ty := none, cmp := true }),
 (135, { k := TK.oth, size := 1, bytes := 8, zero := [AV.d Ty.fv (Int.ofNat 0)], ty := none, cmp := true }),
 (136, { k := TK.oth, size := 1, bytes := 8, zero := [AV.d Ty.fv (Int.ofNat 0)], ty := none, cmp := true }),
 (137, { k := TK.oth, size := 1, bytes := 8, zero := [AV.d Ty.fv (Int.ofNat 0)], ty := none, cmp := true }),
 (138, { k := TK.sl 177, size := 1, bytes := 24, zero := [AV.nl], ty := some (Ty.sl (Ty.pr (Ty.int Go.IntKind.i64) (Ty.pr (Ty.int Go.IntKind.u8) (Ty.pr (Ty.pr (Ty.int Go.IntKind.i64) (Ty.int Go.IntKind.i64)) (Ty.int Go.IntKind.i64))))), cmp := true }),
 (139, { k := TK.st [(0, 3), (1, 3), (2, 4), (3, 4), (4, 138)], size := 5, bytes := 48, zero := [AV.d (Ty.int Go.IntKind.i64) (Int.ofNat 0), AV.d (Ty.int Go.IntKind.i64) (Int.ofNat 0), AV.d Ty.bool false, AV.d Ty.bool false, AV.nl], ty := some (Ty.pr (Ty.int Go.IntKind.i64) (Ty.pr (Ty.int Go.IntKind.i64) (Ty.pr Ty.bool (Ty.pr Ty.bool (Ty.sl (Ty.pr (Ty.int Go.IntKind.i64) (Ty.pr (Ty.int Go.IntKind.u8) (Ty.pr (Ty.pr (Ty.int Go.IntKind.i64) (Ty.int Go.IntKind.i64)) (Ty.int Go.IntKind.i64))))))))), cmp := true }),
 (140, { k := TK.st [(0, 3), (1, 3), (2, 4), (3, 4), (4, 138)], size := 5, bytes := 48, zero := [AV.d (Ty.int Go.IntKind.i64) (Int.ofNat 0), AV.d (Ty.int Go.IntKind.i64) (Int.ofNat 0), AV.d Ty.bool false, AV.d Ty.bool false, AV.nl], ty := some (Ty.pr (Ty.int Go.IntKind.i64) (Ty.pr (Ty.int Go.IntKind.i64) (Ty.pr Ty.bool (Ty.pr Ty.bool (Ty.sl (Ty.pr (Ty.int Go.IntKind.i64) (Ty.pr (Ty.int Go.IntKind.u8) (Ty.pr (Ty.pr (Ty.int Go.IntKind.i64) (Ty.int Go.IntKind.i64)) (Ty.int Go.IntKind.i64))))))))), cmp := true }),
 (141, { k := TK.oth, size := 1, bytes := 8, zero := [AV.d Ty.fv (Int.ofNat 0)], ty := none, cmp := true }),
 (142, { k := TK.oth, size := 1, bytes := 8, zero := [AV.d Ty.fv (Int.ofNat 0)], ty := none, cmp := true }),
 (143, { k := TK.oth, size := 1, bytes := 8, zero := [AV.d Ty.fv (Int.ofNat 0)], ty := none, cmp := true }),
 (144, { k := TK.oth, size := 1, bytes := 8, zero := [AV.d Ty.fv (Int.ofNat 0)], ty := none, cmp := true }),
 (146, { k := TK.oth, size := 1, bytes := 8, zero := [AV.d Ty.fv (Int.ofNat 0)], ty := none, cmp := true }),
 (147, { k := TK.sl 42, size := 1, bytes := 24, zero := [AV.nl], ty := some (Ty.sl (Ty.int Go.IntKind.i64)), cmp := true }),
 (148, { k := TK.oth, size := 1, bytes := 8, zero := [AV.d Ty.fv (Int.ofNat 0)], ty := none, cmp := true }),
 (149, { k := TK.oth, size := 1, bytes := 8, zero := [AV.d Ty.fv (Int.ofNat 0)], ty := none, cmp := true }),
 (150, { k := TK.st [(0, 3), (1, 149)], size := 2, bytes := 16, zero := [AV.d (Ty.int Go.IntKind.i64) (Int.ofNat 0), AV.d Ty.fv (Int.ofNat 0)], ty := none, cmp := true }),
 (151, { k := TK.st [(0, 3), (1, 149)], size := 2, bytes := 16, zero := [AV.d (Ty.int Go.IntKind.i64) (Int.ofNat 0), AV.d Ty.fv (Int.ofNat 0)], ty := none, cmp := true }),
 (152, { k := TK.ar 4 151, size := 8, bytes := 64, zero := [AV.d (Ty.int Go.IntKind.i64) (Int.ofNat 0), AV.d Ty.fv (Int.ofNat 0), AV.d (Ty.int Go.IntKind.i64) (Int.ofNat 0), AV.d Ty.fv (Int.ofNat 0), AV.d (Ty.int Go.IntKind.i64) (Int.ofNat 0), AV.d Ty.fv (Int.ofNat 0), AV.d (Ty.int Go.IntKind.i64) (Int.ofNat 0), AV.d Ty.fv (Int.ofNat 0)], ty := none, cmp := true }),
 (153, { k := TK.oth, size := 1, bytes := 8, zero := [AV.d Ty.fv (Int.ofNat 0)], ty := none, cmp := true }),
 (155, { k := TK.oth, size := 1, bytes := 8, zero := [AV.d Ty.fv (Int.ofNat 0)], ty := none, cmp := true }),
 (156, { k := TK.oth, size := 1, bytes := 8, zero := [AV.d Ty.fv (Int.ofNat 0)], ty := none, cmp := true }),
 (157, { k := TK.oth, size := 1, bytes := 8, zero := [AV.d Ty.fv (Int.ofNat 0)], ty := none, cmp := true }),
 (158, { k := TK.oth, size := 1, bytes := 8, zero := [AV.d Ty.fv (Int.ofNat 0)], ty := none, cmp := true }),
 (159, { k := TK.oth, size := 1, bytes := 8, zero := [AV.d Ty.fv (Int.ofNat 0)], ty := none, cmp := true }),
 (160, { k := TK.oth, size := 1, bytes := 8, zero := [AV.d Ty.fv (Int.ofNat 0)], ty := none, cmp := true }),
 (161, { k := TK.oth, size := 1, bytes := 8, zero := [AV.d Ty.fv (Int.ofNat 0)], ty := none, cmp := true }),
 (162, { k := TK.pt 114, size := 1, bytes := 8, zero := [AV.np], ty := none, cmp := true }),
 (163, { k := TK.mp 9 3, size := 1, bytes := 8, zero := [AV.mnil], ty := none, cmp := true }),
 (164, { k := TK.oth, size := 1, bytes := 8, zero := [AV.d Ty.fv (Int.ofNat 0)], ty := none, cmp := true }),
 (165, { k := TK.ifc, size := 1, bytes := 16, zero := [AV.d Ty.ic true], ty := some Ty.ic, cmp := false }),
 (166, { k := TK.ifc, size := 1, bytes := 16, zero := [AV.d Ty.ic true], ty := some Ty.ic, cmp := false }),
 (168, { k := TK.oth, size := 1, bytes := 8, zero := [AV.d Ty.fv (Int.ofNat 0)], ty := none, cmp := true }),
 (169, { k := TK.oth, size := 1, bytes := 8, zero := [AV.d Ty.fv (Int.ofNat 0)], ty := none, cmp := true }),
 (170, { k := TK.oth, size := 1, bytes := 8, zero := [AV.d Ty.fv (Int.ofNat 0)], ty := none, cmp := true }),
 (171, { k := TK.oth, size := 1, bytes := 8, zero := [AV.d Ty.fv (Int.ofNat 0)], ty := none, cmp := true }),
 (172, { k := TK.oth, size := 1, bytes := 8, zero := [AV.d Ty.fv (Int.ofNat 0)], ty := none, cmp := true }),
 (173, { k := TK.oth, size := 1, bytes := 8, zero := [AV.d Ty.fv (Int.ofNat 0)], ty := none, cmp := true }),
 (174, { k := TK.oth, size := 1, bytes := 8, zero := [AV.d Ty.fv (Int.ofNat 0)], ty := none, cmp := true }),
 (175, { k := TK.oth, size := 1, bytes := 8, zero := [AV.d Ty.fv (Int.ofNat 0)], ty := none, cmp := true }),
 (176, { k := TK.st [(0, 3), (1, 5), (2, 28), (4, 3)], size := 5, bytes := 40, zero := [AV.d (Ty.int Go.IntKind.i64) (Int.ofNat 0), AV.d (Ty.int Go.IntKind.u8) (Int.ofNat 0), AV.d (Ty.int Go.IntKind.i64) (Int.ofNat 0), AV.d (Ty.int Go.IntKind.i64) (Int.ofNat 0), AV.d (Ty.int Go.IntKind.i64) (Int.ofNat 0)], ty := some (Ty.pr (Ty.int Go.IntKind.i64) (Ty.pr (Ty.int Go.IntKind.u8) (Ty.pr (Ty.pr (Ty.int Go.IntKind.i64) (Ty.int Go.IntKind.i64)) (Ty.int Go.IntKind.i64)))), cmp := true }),
 (177, { k := TK.st [(0, 3), (1, 5), (2, 28), (4, 3)], size := 5, bytes := 40, zero := [AV.d (Ty.int Go.IntKind.i64) (Int.ofNat 0), AV.d (Ty.int Go.IntKind.u8) (Int.ofNat 0), AV.d (Ty.int Go.IntKind.i64) (Int.ofNat 0), AV.d (Ty.int Go.IntKind.i64) (Int.ofNat 0), AV.d (Ty.int Go.IntKind.i64) (Int.ofNat 0)], ty := some (Ty.pr (Ty.int Go.IntKind.i64) (Ty.pr (Ty.int Go.IntKind.u8) (Ty.pr (Ty.pr (Ty.int Go.IntKind.i64) (Ty.int Go.IntKind.i64)) (Ty.int Go.IntKind.i64)))), cmp := true }),
 (178, { k := TK.oth, size := 1, bytes := 8, zero := [AV.d Ty.fv (Int.ofNat 0)], ty := none, cmp := true }),
 (179, { k := TK.oth, size := 1, bytes := 8, zero := [AV.d Ty.fv (Int.ofNat 0)], ty := none, cmp := true }),
 (180, { k := TK.oth, size := 1, bytes := 8, zero := [AV.d Ty.fv (Int.ofNat 0)], ty := none, cmp := true }),
 (181, { k := TK.oth, size := 1, bytes := 8, zero := [AV.d Ty.fv (Int.ofNat 0)], ty := none, cmp := true }),
 (182, { k := TK.oth, size := 1, bytes := 8, zero := [AV.d Ty.fv (Int.ofNat 0)], ty := none, cmp := true }),
 (183, { k := TK.int Go.IntKind.u64, size := 1, bytes := 8, zero := [AV.d (Ty.int Go.IntKind.u64) (Int.ofNat 0)], ty := some (Ty.int Go.IntKind.u64), cmp := true }),
 (185, { k := TK.oth, size := 1, bytes := 8, zero := [AV.d Ty.fv (Int.ofNat 0)], ty := none, cmp := true }),
 (186, { k := TK.oth, size := 1, bytes := 8, zero := [AV.d Ty.fv (Int.ofNat 0)], ty := none, cmp := true }),
 (187, { k := TK.pt 140, size := 1, bytes := 8, zero := [AV.np], ty := none, cmp := true }),
 (188, { k := TK.int Go.IntKind.u32, size := 1, bytes := 4, zero := [AV.d (Ty.int Go.IntKind.u32) (Int.ofNat 0)], ty := some (Ty.int Go.IntKind.u32), cmp := true }),
 (190, { k := TK.oth, size := 1, bytes := 8, zero := [AV.d Ty.fv (Int.ofNat 0)], ty := none, cmp := true }),
 (192, { k := TK.oth, size := 1, bytes := 8, zero := [AV.d Ty.fv (Int.ofNat 0)], ty := none, cmp := true }),
 (193, { k := TK.int Go.IntKind.i64, size := 1, bytes := 8, zero := [AV.d (Ty.int Go.IntKind.i64) (Int.ofNat 0)], ty := some (Ty.int Go.IntKind.i64), cmp := true }),
 (195, { k := TK.oth, size := 1, bytes := 8, zero := [AV.d Ty.fv (Int.ofNat 0)], ty := none, cmp := true }),
 (196, { k := TK.pt 203, size := 1, bytes := 8, zero := [AV.np], ty := none, cmp := true }),
 (197, { k := TK.oth, size := 1, bytes := 8, zero := [AV.d Ty.fv (Int.ofNat 0)], ty := none, cmp := true }),
 (198, { k := TK.oth, size := 1, bytes := 8, zero := [AV.d Ty.fv (Int.ofNat 0)], ty := none, cmp := true }),
 (200, { k := TK.oth, size := 1, bytes := 8, zero := [AV.d Ty.fv (Int.ofNat 0)], ty := none, cmp := true }),
 (201, { k := TK.oth, size := 1, bytes := 8, zero := [AV.d Ty.fv (Int.ofNat 0)], ty := none, cmp := true }),
 (202, { k := TK.st [(0, 9), (1, 9), (2, 166)], size := 3, bytes := 48, zero := [AV.d Ty.str [], AV.d Ty.str [], AV.d Ty.ic true], ty := some (Ty.pr Ty.str (Ty.pr Ty.str Ty.ic)), cmp := false }),
 (203, { k := TK.st [(0, 9), (1, 9), (2, 166)], size := 3, bytes := 48, zero := [AV.d Ty.str [], AV.d Ty.str [], AV.d Ty.ic true], ty := some (Ty.pr Ty.str (Ty.pr Ty.str Ty.ic)), cmp := false }),
 (204, { k := TK.oth, size := 1, bytes := 8, zero := [AV.d Ty.fv (Int.ofNat 0)], ty := none, cmp := true }),
 (205, { k := TK.oth, size := 1, bytes := 8, zero := [AV.d Ty.fv (Int.ofNat 0)], ty := none, cmp := true }),
 (206, { k := TK.oth, size := 1, bytes := 8, zero := [AV.d Ty.fv (Int.ofNat 0)], ty := none, cmp := true }),
 (207, { k := TK.oth, size := 1, bytes := 8, zero := [AV.d Ty.fv (Int.ofNat 0)], ty := none, cmp := true }),
 (208, { k := TK.pt 5, size := 1, bytes := 8, zero := [AV.np], ty := none, cmp := true }),
 (209, { k := TK.pt 211, size := 1, bytes := 8, zero := [AV.np], ty := none, cmp := true }),
 (210, { k := TK.st [(0, 9)], size := 1, bytes := 16, zero := [AV.d Ty.str []], ty := some Ty.str, cmp := true }),
 (211, { k := TK.st [(0, 9)], size := 1, bytes := 16, zero := [AV.d Ty.str []], ty := some Ty.str, cmp := true }),
 (212, { k := TK.oth, size := 1, bytes := 8, zero := [AV.d Ty.fv (Int.ofNat 0)], ty := none, cmp := true }),
 (213, { k := TK.ar 24 5, size := 24, bytes := 24, zero := [AV.d (Ty.int Go.IntKind.u8) (Int.ofNat 0), AV.d (Ty.int Go.IntKind.u8) (Int.ofNat 0), AV.d (Ty.int Go.IntKind.u8) (Int.ofNat 0), AV.d (Ty.int Go.IntKind.u8) (Int.ofNat 0), AV.d (Ty.int Go.IntKind.u8) (Int.ofNat 0), AV.d (Ty.int Go.IntKind.u8) (Int.ofNat 0), AV.d (Ty.int Go.IntKind.u8) (Int.ofNat 0), AV.d (Ty.int Go.IntKind.u8) (Int.ofNat 0), AV.d (Ty.int Go.IntKind.u8) (Int.ofNat 0), AV.d (Ty.int Go.IntKind.u8) (Int.ofNat 0), AV.d (Ty.int Go.IntKind.u8) (Int.ofNat 0), AV.d (Ty.int Go.IntKind.u8) (Int.ofNat 0), AV.d (Ty.int Go.IntKind.u8) (Int.ofNat 0), AV.d (Ty.int Go.IntKind.u8) (Int.ofNat 0), AV.d (Ty.int Go.IntKind.u8) (Int.ofNat 0), AV.d (Ty.int Go.IntKind.u8) (Int.ofNat 0), AV.d (Ty.int Go.IntKind.u8) (Int.ofNat 0), AV.d (Ty.int Go.IntKind.u8) (Int.ofNat 0), AV.d (Ty.int Go.IntKind.u8) (Int.ofNat 0), AV.d (Ty.int Go.IntKind.u8) (Int.ofNat 0), AV.d (Ty.int Go.IntKind.u8) (Int.ofNat 0), AV.d (Ty.int Go.IntKind.u8) (Int.ofNat 0), AV.d (Ty.int Go.IntKind.u8) (Int.ofNat 0), AV.d (Ty.int Go.IntKind.u8) (Int.ofNat 0)], ty := some (Ty.pr (Ty.int Go.IntKind.u8) (Ty.pr (Ty.int Go.IntKind.u8) (Ty.pr (Ty.int Go.IntKind.u8) (Ty.pr (Ty.int Go.IntKind.u8) (Ty.pr (Ty.int Go.IntKind.u8) (Ty.pr (Ty.int Go.IntKind.u8) (Ty.pr (Ty.int Go.IntKind.u8) (Ty.pr (Ty.int Go.IntKind.u8) (Ty.pr (Ty.int Go.IntKind.u8) (Ty.pr (Ty.int Go.IntKind.u8) (Ty.pr (Ty.int Go.IntKind.u8) (Ty.pr (Ty.int Go.IntKind.u8) (Ty.pr (Ty.int Go.IntKind.u8) (Ty.pr (Ty.int Go.IntKind.u8) (Ty.pr (Ty.int Go.IntKind.u8) (Ty.pr (Ty.int Go.IntKind.u8) (Ty.pr (Ty.int Go.IntKind.u8) (Ty.pr (Ty.int Go.IntKind.u8) (Ty.pr (Ty.int Go.IntKind.u8) (Ty.pr (Ty.int Go.IntKind.u8) (Ty.pr (Ty.int Go.IntKind.u8) (Ty.pr (Ty.int Go.IntKind.u8) (Ty.pr (Ty.int Go.IntKind.u8) (Ty.int Go.IntKind.u8)))))))))))))))))))))))), cmp := true }),
 (214, { k := TK.oth, size := 1, bytes := 8, zero := [AV.d Ty.fv (Int.ofNat 0)], ty := none, cmp := true }),
 (215, { k := TK.oth, size := 1, bytes := 8, zero := [AV.d Ty.fv (Int.ofNat 0)], ty := none, cmp := true }),
 (217, { k := TK.oth, size := 1, bytes := 8, zero := [AV.d Ty.fv (Int.ofNat 0)], ty := none, cmp := true }),
 (218, { k := TK.oth, size := 1, bytes := 8, zero := [AV.d Ty.fv (Int.ofNat 0)], ty := none, cmp := true }),
 (219, { k := TK.ar 20 26, size := 20, bytes := 160, zero := [AV.d (Ty.int Go.IntKind.u64) (Int.ofNat 0), AV.d (Ty.int Go.IntKind.u64) (Int.ofNat 0), AV.d (Ty.int Go.IntKind.u64) (Int.ofNat 0), AV.d (Ty.int Go.IntKind.u64) (Int.ofNat 0), AV.d (Ty.int Go.IntKind.u64) (Int.ofNat 0), AV.d (Ty.int Go.IntKind.u64) (Int.ofNat 0), AV.d (Ty.int Go.IntKind.u64) (Int.ofNat 0), AV.d (Ty.int Go.IntKind.u64) (Int.ofNat 0), AV.d (Ty.int Go.IntKind.u64) (Int.ofNat 0), AV.d (Ty.int Go.IntKind.u64) (Int.ofNat 0), AV.d (Ty.int Go.IntKind.u64) (Int.ofNat 0), AV.d (Ty.int Go.IntKind.u64) (Int.ofNat 0), AV.d (Ty.int Go.IntKind.u64) (Int.ofNat 0), AV.d (Ty.int Go.IntKind.u64) (Int.ofNat 0), AV.d (Ty.int Go.IntKind.u64) (Int.ofNat 0), AV.d (Ty.int Go.IntKind.u64) (Int.ofNat 0), AV.d (Ty.int Go.IntKind.u64) (Int.ofNat 0), AV.d (Ty.int Go.IntKind.u64) (Int.ofNat 0), AV.d (Ty.int Go.IntKind.u64) (Int.ofNat 0), AV.d (Ty.int Go.IntKind.u64) (Int.ofNat 0)], ty := some (Ty.pr (Ty.int Go.IntKind.u64) (Ty.pr (Ty.int Go.IntKind.u64) (Ty.pr (Ty.int Go.IntKind.u64) (Ty.pr (Ty.int Go.IntKind.u64) (Ty.pr (Ty.int Go.IntKind.u64) (Ty.pr (Ty.int Go.IntKind.u64) (Ty.pr (Ty.int Go.IntKind.u64) (Ty.pr (Ty.int Go.IntKind.u64) (Ty.pr (Ty.int Go.IntKind.u64) (Ty.pr (Ty.int Go.IntKind.u64) (Ty.pr (Ty.int Go.IntKind.u64) (Ty.pr (Ty.int Go.IntKind.u64) (Ty.pr (Ty.int Go.IntKind.u64) (Ty.pr (Ty.int Go.IntKind.u64) (Ty.pr (Ty.int Go.IntKind.u64) (Ty.pr (Ty.int Go.IntKind.u64) (Ty.pr (Ty.int Go.IntKind.u64) (Ty.pr (Ty.int Go.IntKind.u64) (Ty.pr (Ty.int Go.IntKind.u64) (Ty.int Go.IntKind.u64)))))))))))))))))))), cmp := true }),
 (220, { k := TK.ar 65 5, size := 65, bytes := 65, zero := [AV.d (Ty.int Go.IntKind.u8) (Int.ofNat 0), AV.d (Ty.int Go.IntKind.u8) (Int.ofNat 0), AV.d (Ty.int Go.IntKind.u8) (Int.ofNat 0), AV.d (Ty.int Go.IntKind.u8) (Int.ofNat 0), AV.d (Ty.int Go.IntKind.u8) (Int.ofNat 0), AV.d (Ty.int Go.IntKind.u8) (Int.ofNat 0), AV.d (Ty.int Go.IntKind.u8) (Int.ofNat 0), AV.d (Ty.int Go.IntKind.u8) (Int.ofNat 0), AV.d (Ty.int Go.IntKind.u8) (Int.ofNat 0), AV.d (Ty.int Go.IntKind.u8) (Int.ofNat 0), AV.d (Ty.int Go.IntKind.u8) (Int.ofNat 0), AV.d (Ty.int Go.IntKind.u8) (Int.ofNat 0), AV.d (Ty.int Go.IntKind.u8) (Int.ofNat 0), AV.d (Ty.int Go.IntKind.u8) (Int.ofNat 0), AV.d (Ty.int Go.IntKind.u8) (Int.ofNat 0), AV.d (Ty.int Go.IntKind.u8) (Int.ofNat 0), AV.d (Ty.int Go.IntKind.u8) (Int.ofNat 0), AV.d (Ty.int Go.IntKind.u8) (Int.ofNat 0), AV.d (Ty.int Go.IntKind.u8) (Int.ofNat 0), AV.d (Ty.int Go.IntKind.u8) (Int.ofNat 0), AV.d (Ty.int Go.IntKind.u8) (Int.ofNat 0), AV.d (Ty.int Go.IntKind.u8) (Int.ofNat 0), AV.d (Ty.int Go.IntKind.u8) (Int.ofNat 0), AV.d (Ty.int Go.IntKind.u8) (Int.ofNat 0), AV.d (Ty.int Go.IntKind.u8) (Int.ofNat 0), AV.d (Ty.int Go.IntKind.u8) (Int.ofNat 0), AV.d (Ty.int Go.IntKind.u8) (Int.ofNat 0), AV.d (Ty.int Go.IntKind.u8) (Int.ofNat 0), AV.d (Ty.int Go.IntKind.u8) (Int.ofNat 0), AV.d (Ty.int Go.IntKind.u8) (Int.ofNat 0), AV.d (Ty.int Go.IntKind.u8) (Int.ofNat 0), AV.d (Ty.int Go.IntKind.u8) (Int.ofNat 0), AV.d (Ty.int Go.IntKind.u8) (Int.ofNat 0), AV.d (Ty.int Go.IntKind.u8) (Int.ofNat 0), AV.d (Ty.int Go.IntKind.u8) (Int.ofNat 0), AV.d (Ty.int Go.IntKind.u8) (Int.ofNat 0), AV.d (Ty.int Go.IntKind.u8) (Int.ofNat 0), AV.d (Ty.int Go.IntKind.u8) (Int.ofNat 0), AV.d (Ty.int Go.IntKind.u8) (Int.ofNat 0), AV.d (Ty.int Go.IntKind.u8) (Int.ofNat 0), AV.d (Ty.int Go.IntKind.u8) (Int.ofNat 0), AV.d (Ty.int Go.IntKind.u8) (Int.ofNat 0), AV.d (Ty.int Go.IntKind.u8) (Int.ofNat 0), AV.d (Ty.int Go.IntKind.u8) (Int.ofNat 0), AV.d (Ty.int Go.IntKind.u8) (Int.ofNat 0), AV.d (Ty.int Go.IntKind.u8) (Int.ofNat 0), AV.d (Ty.int Go.IntKind.u8) (Int.ofNat 0), AV.d (Ty.int Go.IntKind.u8) (Int.ofNat 0), AV.d (Ty.int Go.IntKind.u8) (Int.ofNat 0), AV.d (Ty.int Go.IntKind.u8) (Int.ofNat 0), AV.d (Ty.int Go.IntKind.u8) (Int.ofNat 0), AV.d (Ty.int Go.IntKind.u8) (Int.ofNat 0), AV.d (Ty.int Go.IntKind.u8) (Int.ofNat 0), AV.d (Ty.int Go.IntKind.u8) (Int.ofNat 0), AV.d (Ty.int Go.IntKind.u8) (Int.ofNat 0), AV.d (Ty.int Go.IntKind.u8) (Int.ofNat 0), AV.d (Ty.int Go.IntKind.u8) (Int.ofNat 0), AV.d (Ty.int Go.IntKind.u8) (Int.ofNat 0), AV.d (Ty.int Go.IntKind.u8) (Int.ofNat 0), AV.d (Ty.int Go.IntKind.u8) (Int.ofNat 0), AV.d (Ty.int Go.IntKind.u8) (Int.ofNat 0), AV.d (Ty.int Go.IntKind.u8) (Int.ofNat 0), AV.d (Ty.int Go.IntKind.u8) (Int.ofNat 0), AV.d (Ty.int Go.IntKind.u8) (Int.ofNat 0), AV.d (Ty.int Go.IntKind.u8) (Int.ofNat 0)], ty := some (Ty.pr (Ty.int Go.IntKind.u8) (Ty.pr (Ty.int Go.IntKind.u8) (Ty.pr (Ty.int Go.IntKind.u8) (Ty.pr (Ty.int Go.IntKind.u8) (Ty.pr (Ty.int Go.IntKind.u8) (Ty.pr (Ty.int Go.IntKind.u8) (Ty.pr (Ty.int Go.IntKind.u8) (Ty.pr (Ty.int Go.IntKind.u8) (Ty.pr (Ty.int Go.IntKind.u8) (Ty.pr (Ty.int Go.IntKind.u8) (Ty.pr (Ty.int Go.IntKind.u8) (Ty.pr (Ty.int Go.IntKind.u8) (Ty.pr (Ty.int Go.IntKind.u8) (Ty.pr (Ty.int Go.IntKind.u8) (Ty.pr (Ty.int Go.IntKind.u8) (Ty.pr (Ty.int Go.IntKind.u8) (Ty.pr (Ty.int Go.IntKind.u8) (Ty.pr (Ty.int Go.IntKind.u8) (Ty.pr (Ty.int Go.IntKind.u8) (Ty.pr (Ty.int Go.IntKind.u8) (Ty.pr (Ty.int Go.IntKind.u8) (Ty.pr (Ty.int Go.IntKind.u8) (Ty.pr (Ty.int Go.IntKind.u8) (Ty.pr (Ty.int Go.IntKind.u8) (Ty.pr (Ty.int Go.IntKind.u8) (Ty.pr (Ty.int Go.IntKind.u8) (Ty.pr (Ty.int Go.IntKind.u8) (Ty.pr (Ty.int Go.IntKind.u8) (Ty.pr (Ty.int Go.IntKind.u8) (Ty.pr (Ty.int Go.IntKind.u8) (Ty.pr (Ty.int Go.IntKind.u8) (Ty.pr (Ty.int Go.IntKind.u8) (Ty.pr (Ty.int Go.IntKind.u8) (Ty.pr (Ty.int Go.IntKind.u8) (Ty.pr (Ty.int Go.IntKind.u8) (Ty.pr (Ty.int Go.IntKind.u8) (Ty.pr (Ty.int Go.IntKind.u8) (Ty.pr (Ty.int Go.IntKind.u8) (Ty.pr (Ty.int Go.IntKind.u8) (Ty.pr (Ty.int Go.IntKind.u8) (Ty.pr (Ty.int Go.IntKind.u8) (Ty.pr (Ty.int Go.IntKind.u8) (Ty.pr (Ty.int Go.IntKind.u8) (Ty.pr (Ty.int Go.IntKind.u8) (Ty.pr (Ty.int Go.IntKind.u8) (Ty.pr (Ty.int Go.IntKind.u8) (Ty.pr (Ty.int Go.IntKind.u8) (Ty.pr (Ty.int Go.IntKind.u8) (Ty.pr (Ty.int Go.IntKind.u8) (Ty.pr (Ty.int Go.IntKind.u8) (Ty.pr (Ty.int Go.IntKind.u8) (Ty.pr (Ty.int Go.IntKind.u8) (Ty.pr (Ty.int Go.IntKind.u8) (Ty.pr (Ty.int Go.IntKind.u8) (Ty.pr (Ty.int Go.IntKind.u8) (Ty.pr (Ty.int Go.IntKind.u8) (Ty.pr (Ty.int Go.IntKind.u8) (Ty.pr (Ty.int Go.IntKind.u8) (Ty.pr (Ty.int Go.IntKind.u8) (Ty.pr (Ty.int Go.IntKind.u8) (Ty.pr (Ty.int Go.IntKind.u8) (Ty.pr (Ty.int Go.IntKind.u8) (Ty.pr (Ty.int Go.IntKind.u8) (Ty.pr (Ty.int Go.IntKind.u8) (Ty.int Go.IntKind.u8))))))))))))))))))))))))))))))))))))))))))))))))))))))))))))))))), cmp := true }),
 (221, { k := TK.oth, size := 1, bytes := 8, zero := [AV.d Ty.fv (Int.ofNat 0)], ty := none, cmp := true }),
 (222, { k := TK.oth, size := 1, bytes := 8, zero := [AV.d Ty.fv (Int.ofNat 0)], ty := none, cmp := true }),
 (223, { k := TK.ar 32 5, size := 32, bytes := 32, zero := [AV.d (Ty.int Go.IntKind.u8) (Int.ofNat 0), AV.d (Ty.int Go.IntKind.u8) (Int.ofNat 0), AV.d (Ty.int Go.IntKind.u8) (Int.ofNat 0), AV.d (Ty.int Go.IntKind.u8) (Int.ofNat 0), AV.d (Ty.int Go.IntKind.u8) (Int.ofNat 0), AV.d (Ty.int Go.IntKind.u8) (Int.ofNat 0), AV.d (Ty.int Go.IntKind.u8) (Int.ofNat 0), AV.d (Ty.int Go.IntKind.u8) (Int.ofNat 0), AV.d (Ty.int Go.IntKind.u8) (Int.ofNat 0), AV.d (Ty.int Go.IntKind.u8) (Int.ofNat 0), AV.d (Ty.int Go.IntKind.u8) (Int.ofNat 0), AV.d (Ty.int Go.IntKind.u8) (Int.ofNat 0), AV.d (Ty.int Go.IntKind.u8) (Int.ofNat 0), AV.d (Ty.int Go.IntKind.u8) (Int.ofNat 0), AV.d (Ty.int Go.IntKind.u8) (Int.ofNat 0), AV.d (Ty.int Go.IntKind.u8) (Int.ofNat 0), AV.d (Ty.int Go.IntKind.u8) (Int.ofNat 0), AV.d (Ty.int Go.IntKind.u8) (Int.ofNat 0), AV.d (Ty.int Go.IntKind.u8) (Int.ofNat 0), AV.d (Ty.int Go.IntKind.u8) (Int.ofNat 0), AV.d (Ty.int Go.IntKind.u8) (Int.ofNat 0), AV.d (Ty.int Go.IntKind.u8) (Int.ofNat 0), AV.d (Ty.int Go.IntKind.u8) (Int.ofNat 0), AV.d (Ty.int Go.IntKind.u8) (Int.ofNat 0), AV.d (Ty.int Go.IntKind.u8) (Int.ofNat 0), AV.d (Ty.int Go.IntKind.u8) (Int.ofNat 0), AV.d (Ty.int Go.IntKind.u8) (Int.ofNat 0), AV.d (Ty.int Go.IntKind.u8) (Int.ofNat 0), AV.d (Ty.int Go.IntKind.u8) (Int.ofNat 0), AV.d (Ty.int Go.IntKind.u8) (Int.ofNat 0), AV.d (Ty.int Go.IntKind.u8) (Int.ofNat 0), AV.d (Ty.int Go.IntKind.u8) (Int.ofNat 0)], ty := some (Ty.pr (Ty.int Go.IntKind.u8) (Ty.pr (Ty.int Go.IntKind.u8) (Ty.pr (Ty.int Go.IntKind.u8) (Ty.pr (Ty.int Go.IntKind.u8) (Ty.pr (Ty.int Go.IntKind.u8) (Ty.pr (Ty.int Go.IntKind.u8) (Ty.pr (Ty.int Go.IntKind.u8) (Ty.pr (Ty.int Go.IntKind.u8) (Ty.pr (Ty.int Go.IntKind.u8) (Ty.pr (Ty.int Go.IntKind.u8) (Ty.pr (Ty.int Go.IntKind.u8) (Ty.pr (Ty.int Go.IntKind.u8) (Ty.pr (Ty.int Go.IntKind.u8) (Ty.pr (Ty.int Go.IntKind.u8) (Ty.pr (Ty.int Go.IntKind.u8) (Ty.pr (Ty.int Go.IntKind.u8) (Ty.pr (Ty.int Go.IntKind.u8) (Ty.pr (Ty.int Go.IntKind.u8) (Ty.pr (Ty.int Go.IntKind.u8) (Ty.pr (Ty.int Go.IntKind.u8) (Ty.pr (Ty.int Go.IntKind.u8) (Ty.pr (Ty.int Go.IntKind.u8) (Ty.pr (Ty.int Go.IntKind.u8) (Ty.pr (Ty.int Go.IntKind.u8) (Ty.pr (Ty.int Go.IntKind.u8) (Ty.pr (Ty.int Go.IntKind.u8) (Ty.pr (Ty.int Go.IntKind.u8) (Ty.pr (Ty.int Go.IntKind.u8) (Ty.pr (Ty.int Go.IntKind.u8) (Ty.pr (Ty.int Go.IntKind.u8) (Ty.pr (Ty.int Go.IntKind.u8) (Ty.int Go.IntKind.u8)))))))))))))))))))))))))))))))), cmp := true }),
 (224, { k := TK.ar 64 5, size := 64, bytes := 64, zero := [AV.d (Ty.int Go.IntKind.u8) (Int.ofNat 0), AV.d (Ty.int Go.IntKind.u8) (Int.ofNat 0), AV.d (Ty.int Go.IntKind.u8) (Int.ofNat 0), AV.d (Ty.int Go.IntKind.u8) (Int.ofNat 0), AV.d (Ty.int Go.IntKind.u8) (Int.ofNat 0), AV.d (Ty.int Go.IntKind.u8) (Int.ofNat 0), AV.d (Ty.int Go.IntKind.u8) (Int.ofNat 0), AV.d (Ty.int Go.IntKind.u8) (Int.ofNat 0), AV.d (Ty.int Go.IntKind.u8) (Int.ofNat 0), AV.d (Ty.int Go.IntKind.u8) (Int.ofNat 0), AV.d (Ty.int Go.IntKind.u8) (Int.ofNat 0), AV.d (Ty.int Go.IntKind.u8) (Int.ofNat 0), AV.d (Ty.int Go.IntKind.u8) (Int.ofNat 0), AV.d (Ty.int Go.IntKind.u8) (Int.ofNat 0), AV.d (Ty.int Go.IntKind.u8) (Int.ofNat 0), AV.d (Ty.int Go.IntKind.u8) (Int.ofNat 0), AV.d (Ty.int Go.IntKind.u8) (Int.ofNat 0), AV.d (Ty.int Go.IntKind.u8) (Int.ofNat 0), AV.d (Ty.int Go.IntKind.u8) (Int.ofNat 0), AV.d (Ty.int Go.IntKind.u8) (Int.ofNat 0), AV.d (Ty.int Go.IntKind.u8) (Int.ofNat 0), AV.d (Ty.int Go.IntKind.u8) (Int.ofNat 0), AV.d (Ty.int Go.IntKind.u8) (Int.ofNat 0), AV.d (Ty.int Go.IntKind.u8) (Int.ofNat 0), AV.d (Ty.int Go.IntKind.u8) (Int.ofNat 0), AV.d (Ty.int Go.IntKind.u8) (Int.ofNat 0), AV.d (Ty.int Go.IntKind.u8) (Int.ofNat 0), AV.d (Ty.int Go.IntKind.u8) (Int.ofNat 0), AV.d (Ty.int Go.IntKind.u8) (Int.ofNat 0), AV.d (Ty.int Go.IntKind.u8) (Int.ofNat 0), AV.d (Ty.int Go.IntKind.u8) (Int.ofNat 0), AV.d (Ty.int Go.IntKind.u8) (Int.ofNat 0), AV.d (Ty.int Go.IntKind.u8) (Int.ofNat 0), AV.d (Ty.int Go.IntKind.u8) (Int.ofNat 0), AV.d (Ty.int Go.IntKind.u8) (Int.ofNat 0), AV.d (Ty.int Go.IntKind.u8) (Int.ofNat 0), AV.d (Ty.int Go.IntKind.u8) (Int.ofNat 0), AV.d (Ty.int Go.IntKind.u8) (Int.ofNat 0), AV.d (Ty.int Go.IntKind.u8) (Int.ofNat 0), AV.d (Ty.int Go.IntKind.u8) (Int.ofNat 0), AV.d (Ty.int Go.IntKind.u8) (Int.ofNat 0), AV.d (Ty.int Go.IntKind.u8) (Int.ofNat 0), AV.d (Ty.int Go.IntKind.u8) (Int.ofNat 0), AV.d (Ty.int Go.IntKind.u8) (Int.ofNat 0), AV.d (Ty.int Go.IntKind.u8) (Int.ofNat 0), AV.d (Ty.int Go.IntKind.u8) (Int.ofNat 0), AV.d (Ty.int Go.IntKind.u8) (Int.ofNat 0), AV.d (Ty.int Go.IntKind.u8) (Int.ofNat 0), AV.d (Ty.int Go.IntKind.u8) (Int.ofNat 0), AV.d (Ty.int Go.IntKind.u8) (Int.ofNat 0), AV.d (Ty.int Go.IntKind.u8) (Int.ofNat 0), AV.d (Ty.int Go.IntKind.u8) (Int.ofNat 0), AV.d (Ty.int Go.IntKind.u8) (Int.ofNat 0), AV.d (Ty.int Go.IntKind.u8) (Int.ofNat 0), AV.d (Ty.int Go.IntKind.u8) (Int.ofNat 0), AV.d (Ty.int Go.IntKind.u8) (Int.ofNat 0), AV.d (Ty.int Go.IntKind.u8) (Int.ofNat 0), AV.d (Ty.int Go.IntKind.u8) (Int.ofNat 0), AV.d (Ty.int Go.IntKind.u8) (Int.ofNat 0), AV.d (Ty.int Go.IntKind.u8) (Int.ofNat 0), AV.d (Ty.int Go.IntKind.u8) (Int.ofNat 0), AV.d (Ty.int Go.IntKind.u8) (Int.ofNat 0), AV.d (Ty.int Go.IntKind.u8) (Int.ofNat 0), AV.d (Ty.int Go.IntKind.u8) (Int.ofNat 0)], ty := some (Ty.pr (Ty.int Go.IntKind.u8) (Ty.pr (Ty.int Go.IntKind.u8) (Ty.pr (Ty.int Go.IntKind.u8) (Ty.pr (Ty.int Go.IntKind.u8) (Ty.pr (Ty.int Go.IntKind.u8) (Ty.pr (Ty.int Go.IntKind.u8) (Ty.pr (Ty.int Go.IntKind.u8) (Ty.pr (Ty.int Go.IntKind.u8) (Ty.pr (Ty.int Go.IntKind.u8) (Ty.pr (Ty.int Go.IntKind.u8) (Ty.pr (Ty.int Go.IntKind.u8) (Ty.pr (Ty.int Go.IntKind.u8) (Ty.pr (Ty.int Go.IntKind.u8) (Ty.pr (Ty.int Go.IntKind.u8) (Ty.pr (Ty.int Go.IntKind.u8) (Ty.pr (Ty.int Go.IntKind.u8) (Ty.pr (Ty.int Go.IntKind.u8) (Ty.pr (Ty.int Go.IntKind.u8) (Ty.pr (Ty.int Go.IntKind.u8) (Ty.pr (Ty.int Go.IntKind.u8) (Ty.pr (Ty.int Go.IntKind.u8) (Ty.pr (Ty.int Go.IntKind.u8) (Ty.pr (Ty.int Go.IntKind.u8) (Ty.pr (Ty.int Go.IntKind.u8) (Ty.pr (Ty.int Go.IntKind.u8) (Ty.pr (Ty.int Go.IntKind.u8) (Ty.pr (Ty.int Go.IntKind.u8) (Ty.pr (Ty.int Go.IntKind.u8) (Ty.pr (Ty.int Go.IntKind.u8) (Ty.pr (Ty.int Go.IntKind.u8) (Ty.pr (Ty.int Go.IntKind.u8) (Ty.pr (Ty.int Go.IntKind.u8) (Ty.pr (Ty.int Go.IntKind.u8) (Ty.pr (Ty.int Go.IntKind.u8) (Ty.pr (Ty.int Go.IntKind.u8) (Ty.pr (Ty.int Go.IntKind.u8) (Ty.pr (Ty.int Go.IntKind.u8) (Ty.pr (Ty.int Go.IntKind.u8) (Ty.pr (Ty.int Go.IntKind.u8) (Ty.pr (Ty.int Go.IntKind.u8) (Ty.pr (Ty.int Go.IntKind.u8) (Ty.pr (Ty.int Go.IntKind.u8) (Ty.pr (Ty.int Go.IntKind.u8) (Ty.pr (Ty.int Go.IntKind.u8) (Ty.pr (Ty.int Go.IntKind.u8) (Ty.pr (Ty.int Go.IntKind.u8) (Ty.pr (Ty.int Go.IntKind.u8) (Ty.pr (Ty.int Go.IntKind.u8) (Ty.pr (Ty.int Go.IntKind.u8) (Ty.pr (Ty.int Go.IntKind.u8) (Ty.pr (Ty.int Go.IntKind.u8) (Ty.pr (Ty.int Go.IntKind.u8) (Ty.pr (Ty.int Go.IntKind.u8) (Ty.pr (Ty.int Go.IntKind.u8) (Ty.pr (Ty.int Go.IntKind.u8) (Ty.pr (Ty.int Go.IntKind.u8) (Ty.pr (Ty.int Go.IntKind.u8) (Ty.pr (Ty.int Go.IntKind.u8) (Ty.pr (Ty.int Go.IntKind.u8) (Ty.pr (Ty.int Go.IntKind.u8) (Ty.pr (Ty.int Go.IntKind.u8) (Ty.pr (Ty.int Go.IntKind.u8) (Ty.pr (Ty.int Go.IntKind.u8) (Ty.int Go.IntKind.u8)))))))))))))))))))))))))))))))))))))))))))))))))))))))))))))))), cmp := true }),
 (225, { k := TK.oth, size := 1, bytes := 8, zero := [AV.d Ty.fv (Int.ofNat 0)], ty := none, cmp := true }),
 (226, { k := TK.st [(0, 17), (1, 17), (2, 17), (3, 9)], size := 4, bytes := 40, zero := [AV.np, AV.np, AV.np, AV.d Ty.str []], ty := none, cmp := false }),
 (227, { k := TK.st [(0, 17), (1, 17), (2, 17), (3, 9)], size := 4, bytes := 40, zero := [AV.np, AV.np, AV.np, AV.d Ty.str []], ty := none, cmp := false }),
 (228, { k := TK.ar 0 16, size := 0, bytes := 0, zero := [], ty := none, cmp := true }),
 (229, { k := TK.st [(0, 228)], size := 0, bytes := 0, zero := [], ty := none, cmp := false }),
 (230, { k := TK.st [(0, 228)], size := 0, bytes := 0, zero := [], ty := none, cmp := false }),
 (231, { k := TK.int Go.IntKind.u8, size := 1, bytes := 1, zero := [AV.d (Ty.int Go.IntKind.u8) (Int.ofNat 0)], ty := some (Ty.int Go.IntKind.u8), cmp := true }),
 (232, { k := TK.int Go.IntKind.u8, size := 1, bytes := 1, zero := [AV.d (Ty.int Go.IntKind.u8) (Int.ofNat 0)], ty := some (Ty.int Go.IntKind.u8), cmp := true }),
 (233, { k := TK.oth, size := 1, bytes := 8, zero := [AV.d Ty.fv (Int.ofNat 0)], ty := none, cmp := true }),
 (234, { k := TK.int Go.IntKind.i32, size := 1, bytes := 4, zero := [AV.d (Ty.int Go.IntKind.i32) (Int.ofNat 0)], ty := some (Ty.int Go.IntKind.i32), cmp := true }),
 (235, { k := TK.int Go.IntKind.i32, size := 1, bytes := 4, zero := [AV.d (Ty.int Go.IntKind.i32) (Int.ofNat 0)], ty := some (Ty.int Go.IntKind.i32), cmp := true }),
 (236, { k := TK.st [(0, 12), (1, 12), (2, 188), (3, 231), (4, 5), (5, 5), (6, 232), (7, 233), (8, 208), (9, 234), (10, 235)], size := 11, bytes := 48, zero := [AV.d (Ty.int Go.IntKind.u64) (Int.ofNat 0), AV.d (Ty.int Go.IntKind.u64) (Int.ofNat 0), AV.d (Ty.int Go.IntKind.u32) (Int.ofNat 0), AV.d (Ty.int Go.IntKind.u8) (Int.ofNat 0), AV.d (Ty.int Go.IntKind.u8) (Int.ofNat 0), AV.d (Ty.int Go.IntKind.u8) (Int.ofNat 0), AV.d (Ty.int Go.IntKind.u8) (Int.ofNat 0), AV.d Ty.fv (Int.ofNat 0), AV.np, AV.d (Ty.int Go.IntKind.i32) (Int.ofNat 0), AV.d (Ty.int Go.IntKind.i32) (Int.ofNat 0)], ty := none, cmp := false }),
 (237, { k := TK.st [(0, 12), (1, 12), (2, 188), (3, 231), (4, 5), (5, 5), (6, 232), (7, 233), (8, 208), (9, 234), (10, 235)], size := 11, bytes := 48, zero := [AV.d (Ty.int Go.IntKind.u64) (Int.ofNat 0), AV.d (Ty.int Go.IntKind.u64) (Int.ofNat 0), AV.d (Ty.int Go.IntKind.u32) (Int.ofNat 0), AV.d (Ty.int Go.IntKind.u8) (Int.ofNat 0), AV.d (Ty.int Go.IntKind.u8) (Int.ofNat 0), AV.d (Ty.int Go.IntKind.u8) (Int.ofNat 0), AV.d (Ty.int Go.IntKind.u8) (Int.ofNat 0), AV.d Ty.fv (Int.ofNat 0), AV.np, AV.d (Ty.int Go.IntKind.i32) (Int.ofNat 0), AV.d (Ty.int Go.IntKind.i32) (Int.ofNat 0)], ty := none, cmp := false }),
 (238, { k := TK.up, size := 1, bytes := 8, zero := [AV.np], ty := none, cmp := true })]
theorem z0p : z0q Tryz.prog (tabOf tyTab) := tabOf_ok (by kernel_rfl)
end Go.Proofs.Rf
namespace Go.Proofs.Rf
open Go Go.RowKit
def asgA : List (Nat × Nat) → Act → Act
 | [], a => a
 | p :: r, a => asgA r (a.put (some p.1) (a.tmps.getD p.2 undef))
def asgT : List (Nat × Nat) → List (Nat × AV) → List (Nat × AV)
 | [], tm => tm
 | p :: r, tm => asgT r ((p.1, getT tm p.2) :: tm)
def putsA : List (Nat × Value) → Act → Act
 | [], a => a
 | p :: r, a => putsA r (a.put (some p.1) p.2)
def putsT : List Nat → List AV → List (Nat × AV) → List (Nat × AV)
 | p :: ps, v :: vs, tm => putsT ps vs ((p, v) :: tm)
 | _, _, tm => tm
theorem z7W : ∀ (l : List (Nat × Value)) (a : Act), (putsA l a).tmps = l.foldl (fun t p => t.setIfInBounds p.1 p.2) a.tmps ∧ (putsA l a).defers = a.defers
 | [], _ => ⟨rfl, rfl⟩
 | p :: r, a => z7W r (a.put (some p.1) p.2)
def z2L (n : z0N) (pins : List Nat) (a : Act) : z0N :=
 ⟨n.marks, n.base, fun d => n.ok d && !memN d pins, fun tm => n.G tm ∧ ∀ t ∈ pins, tm.getD t undef = a.tmps.getD t undef,
  fun tm d h hd => by
   rw [Bool.and_eq_true] at hd
   exact n.lt tm d h.1 hd.1,
  fun tm d v h hd => by
   rw [Bool.and_eq_true, Bool.not_eq_true'] at hd
   refine ⟨n.set tm d v h.1 hd.1, fun t ht => ?_⟩
   rw [← h.2 t ht]
   have hne : d ≠ t := by rintro rfl; rw [z1y.2 ht] at hd; cases hd.2
   rw [Array.getD_eq_getD_getElem?, Array.getD_eq_getD_getElem?, Array.getElem?_setIfInBounds_ne hne]⟩
def z0I (ok : Nat → Bool) (pins : List Nat) (d : Nat) : Bool := ok d && !memN d pins
def noItB : List SB → Bool
 | [] => true
 | .it :: _ => false
 | .map _ _ _ :: _ => false
 | _ :: r => noItB r
def noItX : List Way → Bool
 | [] => true
 | p :: r => noItB p.2.bl && noItX r
def NoIt (s : St) : Prop := (∀ k st p, getB s.bl k ≠ .it st p) ∧ ∀ k kt va vt l, getB s.bl k ≠ .map kt va vt l
theorem z2u : ∀ (l : List SB), noItB l = true → ∀ (x : denB l), (∀ (k : Nat) (st : List UInt8) (p : Nat), getB (putB l x) k ≠ .it st p) ∧ ∀ (k : Nat) kt va vt m, getB (putB l x) k ≠ .map kt va vt m
 | [], _, _ => ⟨fun _ _ _ h => (by cases h), fun _ _ _ _ _ h => (by cases h)⟩
 | a :: r, hn, x => by
  have hr : noItB r = true := by
   cases a with
   | row t e => exact hn
   | box e cs => exact hn
   | it => cases hn
   | map _ _ _ => cases hn
   | nr _ _ _ _ => exact hn
  obtain ⟨h1, h2⟩ := z2u r hr x.2
  refine ⟨fun k st p h => ?_, fun k kt va vt m h => ?_⟩
  ·cases k with
   | zero =>
    cases a with
    | row t e => cases h
    | box e cs => cases h
    | it => cases hn
    | map _ _ _ => cases hn
    | nr _ _ _ _ => cases h
   | succ k => exact h1 k st p h
  ·cases k with
   | zero =>
    cases a with
    | row t e => cases h
    | box e cs => cases h
    | it => cases hn
    | map _ _ _ => cases hn
    | nr _ _ _ _ => cases h
   | succ k => exact h2 k kt va vt m h
def slotsOf : List (Nat × SV) → List Nat
 | [] => []
 | p :: r => p.1 :: slotsOf r
def z3l : List Way → List Nat
 | [] => []
 | p :: r => slotsOf p.2.sl ++ z3l r
theorem z5Z : ∀ (l : List (Nat × SV)) (x : denS l) (t : Nat), t ∉ slotsOf l → getT (putS l x) t = .un
 | [], _, _, _ => rfl
 | p :: r, x, t, h => by
  simp only [slotsOf, List.mem_cons, not_or] at h
  simp only [putS, getT]
  rw [if_neg (fun q => h.1 (Nat.eq_of_beq_eq_true q).symm)]
  exact z5Z r x.2 t h.2
theorem z7P {R : Type} {X keep : Nat → Prop} {w0 w : World} {ι : Nat → Option Value} {n : z0N} {s : St} {a : Act} (h : SRel X keep w0 n ι s a w) {e : Ex} {r : R} : ∀ (l : List Way) (K : denX l → Option R), noItX l = true → toX l e s K = some r →
  ∃ y, K y = some r ∧ ∀ {R' : Type} (K' : Ex → St → Option R') (r' : R'), onX l y K' = some r' → ∃ s' ι', SRel X keep w0 n ι' s' a w ∧ NoIt s' ∧ (∀ t, t ∉ z3l l → getT s'.tm t = .un) ∧ K' e s' = some r'
 | [], _, _, h => by cases h
 | [p], K, hn, ht => by
  simp only [noItX, Bool.and_eq_true] at hn
  simp only [toX] at ht
  split at ht
  ·rename_i he
   split at ht
   ·rename_i x hx
    obtain ⟨ι', h'⟩ := Shape.z0A h hx
    refine ⟨x, ht, fun K' r' hk => ⟨_, ι', h', z2u _ hn.1 _, fun t ht => z5Z _ _ _ (fun q => ht (by simp [z3l, q])), ?_⟩⟩
    rw [exIs_eq he]
    exact hk
   ·cases ht
  ·cases ht
 | p :: q :: t, K, hn, ht => by
  have hn' : noItB p.2.bl = true ∧ noItX (q :: t) = true := by
   have := hn
   simp only [noItX, Bool.and_eq_true] at this ⊢
   exact ⟨this.1, this.2⟩
  have hrest : (toX (q :: t) e s fun y => K (.inr y)) = some r → ∃ y, K y = some r ∧ ∀ {R' : Type} (K' : Ex → St → Option R') (r' : R'), onX (p :: q :: t) y K' = some r' → ∃ s' ι', SRel X keep w0 n ι' s' a w ∧ NoIt s' ∧ (∀ u, u ∉ z3l (p :: q :: t) → getT s'.tm u = .un) ∧ K' e s' = some r' := by
   intro ht
   obtain ⟨y, h1, h2⟩ := z7P h (q :: t) (fun y => K (.inr y)) hn'.2 ht
   refine ⟨.inr y, h1, fun K' r' hk => ?_⟩
   obtain ⟨s', ι', g1, g2, g3, g4⟩ := h2 K' r' hk
   exact ⟨s', ι', g1, g2, fun u hu => g3 u (fun q => hu (List.mem_append_right _ q)), g4⟩
  simp only [toX] at ht
  split at ht
  ·rename_i he
   split at ht
   ·rename_i x hx
    obtain ⟨ι', h'⟩ := Shape.z0A h hx
    refine ⟨.inl x, ht, fun K' r' hk => ⟨_, ι', h', z2u _ hn'.1 _, fun u hu => z5Z _ _ _ (fun q => hu (List.mem_append_left _ q)), ?_⟩⟩
    rw [exIs_eq he]
    exact hk
   ·exact hrest ht
  ·exact hrest ht
section
variable {X keep : Nat → Prop} {w0 w : World} {ι : Nat → Option Value} {n : z0N}
theorem z5o {e m n b : Nat} {v : Value} {cs : List Value} (h : w.ownsRow 0 e m v n cs) (hb : v.ownBlock = some b) : ∃ o : Obj, w.heap[b]? = some o ∧ o.isCells = true := by
 rcases h.2 with ⟨h4, _⟩ | ⟨g, cap, cur, hv, _, h6, _⟩
 ·rw [h4] at hb; cases hb
 ·rw [hv] at hb
  injection hb with hb
  have hb : g = b := hb
  subst hb
  exact ⟨_, h6, rfl⟩
theorem SRel.z6K {s : St} {a : Act} (h : SRel X keep w0 n ι s a w) (hn : NoIt s) {b : Nat} (hb : owned ι (getB s.bl) b) : ∃ o : Obj, w.heap[b]? = some o ∧ o.isCells = true := by
 obtain ⟨k, hk⟩ := hb
 have hB := h.f.h.bl k
 unfold bk at hk
 cases hC : getB s.bl k with
 | row t e xs rw =>
  rw [hC] at hB hk
  cases rw with
  | true =>
   obtain ⟨v, cs, h1, h2, h3⟩ := hB
   rw [h1] at hk
   exact z5o h2 (Option.mem_toList.1 hk)
  | false => cases hι : ι k <;> rw [hι] at hk <;> cases hk
 | box e cs =>
  rw [hC] at hB hk
  obtain ⟨g, us, h1, h2, h3⟩ := hB
  rw [h1] at hk
  have hk : b = g := List.mem_singleton.1 hk
  subst hk
  exact ⟨_, h2, rfl⟩
 | it s p => exact absurd hC (hn.1 k s p)
 | map kt va vt l => exact absurd hC (hn.2 k kt va vt l)
 | nr t t2 e ie xs =>
  rw [hC] at hB hk
  obtain ⟨arr, u, vs, cs, h1, h2, h3, h4, h5⟩ := hB
  rw [h1] at hk
  obtain ⟨v, hv, hb⟩ := List.mem_filterMap.1 hk
  rw [h2] at hv
  rcases List.mem_cons.1 hv with rfl | hv
  ·exact z5o h3 hb
  ·obtain ⟨n, ds, h6⟩ := z6h h4 v hv
   exact z5o h6 hb
 | nz t it xs => rw [hC] at hk; cases hι : ι k <;> rw [hι] at hk <;> cases hk
 | bz cs => rw [hC] at hk; cases hι : ι k <;> rw [hι] at hk <;> cases hk
 | dead => rw [hC] at hk; cases hι : ι k <;> rw [hι] at hk <;> cases hk
structure z2G (S : Nat → Prop) (A B : World) : Prop where
 os : B.os = A.os
 tape : B.tape = A.tape
 output : B.output = A.output
 size : A.heap.size ≤ B.heap.size
 block : ∀ b, b < A.heap.size → ¬ S b → B.heap[b]? = A.heap[b]?
theorem z2G.refl (S : Nat → Prop) (A : World) : z2G S A A := ⟨rfl, rfl, rfl, Nat.le_refl _, fun _ _ _ => rfl⟩
theorem z2G.trans {S : Nat → Prop} {A B D : World} (h : z2G S A B) (k : z2G S B D) : z2G S A D :=
 ⟨k.os.trans h.os, k.tape.trans h.tape, k.output.trans h.output, Nat.le_trans h.size k.size, fun b hb hs => (k.block b (Nat.lt_of_lt_of_le hb h.size) hs).trans (h.block b hb hs)⟩
theorem HRel.mod {C : Nat → Blk} (h : HRel X keep w0 ι C w) {w' : World} {S : Nat → Prop} (hm : z2G S w w') (hS : ∀ b, S b → ¬ keep b ∧ ¬ owned ι C b ∧ (X b ∨ ∀ o v, w.cell? ⟨b, o, none⟩ = some v → False)) :
  HRel X keep w0 ι C w' ∧ ∀ v u, RelV w (okb X w ι C) ι v u → RelV w' (okb X w' ι C) ι v u := by
 have hok : ∀ g, okb X w ι C g → okb X w' ι C g := fun g hg => ⟨Nat.lt_of_lt_of_le hg.1 hm.size, hg.2⟩
 have hcell : ∀ g o v, okb X w ι C g → w.cell? ⟨g, o, none⟩ = some v → w'.cell? ⟨g, o, none⟩ = some v := by
  intro g o v hg hv
  by_cases e : S g
  ·rcases (hS g e).2.2 with q | q
   ·exact (hg.2.2 q).elim
   ·exact (q o v hv).elim
  ·rw [← hv]; exact World.cell?_of_block (hm.block g hg.1 e)
 have hown : ∀ b, owned ι C b → w'.heap[b]? = w.heap[b]? := fun b ho => hm.block b (h.lt ho) fun e => (hS b e).2.1 ho
 refine ⟨⟨fun k => ?_, h.inj, ⟨hm.os.trans h.fr.os, hm.tape.trans h.fr.tape, hm.output.trans h.fr.output, Nat.le_trans h.fr.size hm.size, fun b hb' hl => ?_⟩, h.own, h.kl, h.ox, h.xl, ⟨fun g us hg => ?_, fun g hg => ?_⟩⟩, fun v u hv => z1w hcell hok (fun _ _ e => e) v u hv⟩
 ·have hB := h.bl k
  cases hC : C k with
  | row t e xs rw =>
   rw [hC] at hB
   cases rw with
   | true =>
    obtain ⟨v, cs, h1, h2, h3⟩ := hB
    refine ⟨v, cs, h1, ⟨h2.1, ?_⟩, z0w (z0m hcell hok t) h3⟩
    rcases h2.2 with h4 | ⟨g, cap, cur, hv, h5, h6, h7⟩
    ·exact .inl h4
    ·refine .inr ⟨g, cap, cur, hv, h5, ?_, h7⟩
     rw [hown g ⟨k, by unfold bk; rw [hC, h1, hv]; exact List.mem_singleton_self _⟩]
     exact h6
   | false =>
    obtain ⟨v, h1, h0, h2⟩ := hB
    exact ⟨v, h1, h0, z0m hcell hok _ _ _ h2⟩
  | box e cs =>
   rw [hC] at hB
   obtain ⟨g, us, h1, h2, h3⟩ := hB
   refine ⟨g, us, h1, ?_, z1l hcell hok (fun _ _ e => e) cs us h3⟩
   rw [hown g ⟨k, by unfold bk; rw [hC, h1]; exact List.mem_singleton_self _⟩]
   exact h2
  | it s pos =>
   rw [hC] at hB
   obtain ⟨g, h1, h2⟩ := hB
   refine ⟨g, h1, ?_⟩
   rw [hown g ⟨k, by unfold bk; rw [hC, h1]; exact List.mem_singleton_self _⟩]
   exact h2
  | map kt va vt l =>
   rw [hC] at hB
   obtain ⟨g, es, ck, l', h1, h2, h3, h4, h5, h6⟩ := hB
   refine ⟨g, es, ck, l', h1, ?_, h3, h4, h5, z3h hcell hok h6⟩
   rw [hown g ⟨k, by unfold bk; rw [hC, h1]; exact List.mem_singleton_self _⟩]
   exact h2
  | nr t it e ie xs =>
   rw [hC] at hB
   obtain ⟨arr, u, vs, cs, h1, h2, h3, h4, h5⟩ := hB
   have hin : ∀ v ∈ u :: vs, ∀ b, v.ownBlock = some b → w'.heap[b]? = w.heap[b]? := fun v hv b hb => hown b ⟨k, by
    unfold bk
    rw [hC, h1]
    exact List.mem_filterMap.2 ⟨v, by rw [h2]; exact hv, hb⟩⟩
   exact ⟨arr, u, vs, cs, h1, h2, z0R h3 (hin u (List.mem_cons_self ..)), z1L hcell hok h4 (fun v hv => hin v (List.mem_cons_of_mem _ hv)), h5⟩
  | nz t it xs =>
   rw [hC] at hB
   obtain ⟨arr, u, vs, h1, h2, h3, h4, h5⟩ := hB
   exact ⟨arr, u, vs, h1, h2, z3i (fun l us q => z0m hcell hok _ l us q) h3, h4, z0m hcell hok _ _ _ h5⟩
  | bz cs =>
   rw [hC] at hB
   obtain ⟨v, h1, h2⟩ := hB
   exact ⟨v, h1, z1w hcell hok (fun _ _ e => e) _ _ h2⟩
  | dead => trivial
 ·rw [hm.block b (Nat.lt_of_lt_of_le hl h.fr.size) fun e => (hS b e).1 hb']
  exact h.fr.block b hb' hl
 ·obtain ⟨h1, h0, e, fz, h2⟩ := h.gl.1 g us hg
  refine ⟨hok g h1, h0, e, fz, ?_⟩
  rw [hm.block g h1.1 ?_]
  ·exact h2
  ·intro q
   rcases (hS g q).2.2 with q2 | q2
   ·exact h1.2.2 q2
   ·exact q2 0 us[0] (by simp [World.cell?, h2, h0])
 ·obtain ⟨h1, v, e, fz, h0, h2⟩ := h.gl.2 g hg
  refine ⟨hok g h1, v, e, fz, h0, ?_⟩
  rw [hm.block g h1.1 ?_]
  ·exact h2
  ·intro q
   rcases (hS g q).2.2 with q2 | q2
   ·exact h1.2.2 q2
   ·exact q2 0 v (by simp [World.cell?, h2])
theorem SRel.mod {s : St} {a : Act} (h : SRel X keep w0 n ι s a w) {W' : World} {S : Nat → Prop} (hm : z2G S w W') (hS : ∀ b, S b → ¬ keep b ∧ ¬ owned ι (getB s.bl) b ∧ (X b ∨ ∀ o v, w.cell? ⟨b, o, none⟩ = some v → False)) : SRel X keep w0 n ι s a W' := by
 obtain ⟨q1, q2⟩ := h.f.h.mod hm hS
 exact ⟨⟨q1, fun t => q2 _ _ (h.f.tm t), h.f.size, h.f.defers⟩, h.dom⟩
theorem HRel.lessX {C : Nat → Blk} {X' : Nat → Prop} (h : HRel X' keep w0 ι C w) (hX : ∀ b, X b → X' b) : HRel X keep w0 ι C w ∧ ∀ v u, RelV w (okb X' w ι C) ι v u → RelV w (okb X w ι C) ι v u := by
 have hok : ∀ g, okb X' w ι C g → okb X w ι C g := fun g hg => ⟨hg.1, hg.2.1, fun hx => hg.2.2 (hX g hx)⟩
 refine ⟨⟨fun k => ?_, h.inj, h.fr, h.own, h.kl, fun b hb hx => h.ox b hb (hX b hx), fun b hb => h.xl b (hX b hb), h.gl.mono fun g hg => ⟨hok g hg, rfl⟩⟩, fun v u hv => z1w (fun _ _ _ _ e => e) hok (fun _ _ e => e) v u hv⟩
 have hB := h.bl k
 cases hC : C k with
 | row t e xs rw =>
  rw [hC] at hB
  cases rw with
  | true =>
   obtain ⟨v, cs, h1, h2, h3⟩ := hB
   exact ⟨v, cs, h1, h2, z0w (z0m (fun _ _ _ _ e => e) hok t) h3⟩
  | false =>
   obtain ⟨v, h1, h0, h2⟩ := hB
   exact ⟨v, h1, h0, z0m (fun _ _ _ _ e => e) hok _ _ _ h2⟩
 | box e cs =>
  rw [hC] at hB
  obtain ⟨g, us, h1, h2, h3⟩ := hB
  exact ⟨g, us, h1, h2, z1l (fun _ _ _ _ e => e) hok (fun _ _ e => e) cs us h3⟩
 | it s pos =>
  rw [hC] at hB
  exact hB
 | map kt va vt l =>
  rw [hC] at hB
  obtain ⟨g, es, ck, l', h1, h2, h3, h4, h5, h6⟩ := hB
  exact ⟨g, es, ck, l', h1, h2, h3, h4, h5, z3h (fun _ _ _ _ e => e) hok h6⟩
 | nr t it e ie xs =>
  rw [hC] at hB
  obtain ⟨arr, u, vs, cs, h1, h2, h3, h4, h5⟩ := hB
  exact ⟨arr, u, vs, cs, h1, h2, h3, z1L (fun _ _ _ _ e => e) hok h4 (fun _ _ _ _ => rfl), h5⟩
 | nz t it xs =>
  rw [hC] at hB
  obtain ⟨arr, u, vs, h1, h2, h3, h4, h5⟩ := hB
  exact ⟨arr, u, vs, h1, h2, z3i (fun l us q => z0m (fun _ _ _ _ e => e) hok _ l us q) h3, h4, z0m (fun _ _ _ _ e => e) hok _ _ _ h5⟩
 | bz cs =>
  rw [hC] at hB
  obtain ⟨v, h1, h2⟩ := hB
  exact ⟨v, h1, z1w (fun _ _ _ _ e => e) hok (fun _ _ e => e) _ _ h2⟩
 | dead => trivial
theorem SRel.lessX {X' : Nat → Prop} {s : St} {a : Act} (h : SRel X' keep w0 n ι s a w) (hX : ∀ b, X b → X' b) : SRel X keep w0 n ι s a w := by
 obtain ⟨q1, q2⟩ := h.f.h.lessX hX
 exact ⟨⟨q1, fun t => q2 _ _ (h.f.tm t), h.f.size, h.f.defers⟩, h.dom⟩
theorem SRel.grown {s : St} {a : Act} (h : SRel X keep w0 n ι s a w) (hn : NoIt s) {W' : World} {row : Option Nat} (hg : w.grownBy W' row) (hr : ∀ r, row = some r → w0.heap.size ≤ r ∧ ∃ o : Obj, w.heap[r]? = some o ∧ o.isCells = false) : SRel X keep w0 n ι s a W' := by
 obtain ⟨r, hr1, hr2, hr3, hr4⟩ : ∃ r : Nat, (∀ b, b ≠ r → b < w.heap.size → W'.heap[b]? = w.heap[b]?) ∧ (∀ o v, w.cell? ⟨r, o, none⟩ = some v → False) ∧ (∀ b, owned ι (getB s.bl) b → b ≠ r) ∧ ¬ keep r := by
  cases row with
  | none =>
   refine ⟨w.heap.size, fun b _ hl => hg.block b hl (by simp), fun o v hc => by simp [World.cell?] at hc, fun b hb e => ?_, fun hk => ?_⟩
   ·have := h.f.h.lt hb; omega
   ·have := h.f.h.kl _ hk
    have := h.f.h.fr.size
    omega
  | some r =>
   obtain ⟨h1, o, h2, h3⟩ := hr r rfl
   refine ⟨r, fun b hb hl => hg.block b hl (fun e => hb (by injection e)), fun o' v hc => ?_, fun b hb e => ?_, fun hk => ?_⟩
   ·simp only [World.cell?, h2] at hc
    cases o <;> simp_all [Obj.isCells]
   ·subst e
    obtain ⟨o', q1, q2⟩ := h.z6K hn hb
    rw [h2] at q1
    injection q1 with q1
    subst q1
    rw [h3] at q2
    cases q2
   ·have := h.f.h.kl _ hk
    omega
 obtain ⟨q1, q2⟩ := h.f.h.quiet r hg.os hg.tape hg.output hg.size hr1 hr2 hr3 hr4
 exact ⟨⟨q1, fun t => q2 _ _ (h.f.tm t), h.f.size, h.f.defers⟩, h.dom⟩
end
end Go.Proofs.Rf
namespace Go.Proofs.Rf
open Go Go.RowKit
structure Yields (O O' : Nat → Prop) (l : Nat) (A B : World) : Prop where
 size : A.heap.size ≤ B.heap.size
 block : ∀ b, b < A.heap.size → ¬ O b → b ≠ l → B.heap[b]? = A.heap[b]?
 own : ∀ b, b < A.heap.size → O' b → O b
def Capt (ι : Nat → Option Value) (C : Nat → Blk) (cs : List AV) (b : Nat) : Prop := ∃ k ∈ AV.idsL cs, b ∈ bk ι C k
structure z5f (P : Program) (gf : Nat) {El : Type} (encs : El → List Value) (cap : (Nat → Blk) → List AV → Option (List El)) : Prop where
 fn : ∃ fn, P.funcs[gf]? = some fn ∧ (fn.name == "runtime.NumGoroutine") = false ∧ fn.body.isNone = false
 run : ∀ (X keep : Nat → Prop) (w0 w : World) (ι : Nat → Option Value) (C : Nat → Blk) (cs : List AV) (us : List Value) (xs : List El) (O : Nat → Prop), HRel X keep w0 ι C w → RelL w (okb X w ι C) ι cs us → cap C cs = some xs →
  (∀ b, okb X w ι C b → ¬ O b) → (∀ b, Capt ι C cs b → ¬ O b) →
  ∀ (l : Nat) (J : List El → (Nat → Prop) → World → Prop) (Jx : World → Prop) (W : World), w.heap.size ≤ l → l < W.heap.size → w.heap.size ≤ W.heap.size → (∀ b, b < w.heap.size → W.heap[b]? = w.heap[b]?) → J [] O W →
   (∀ pre O A, J pre O A → ∀ b, O b → b < A.heap.size) → (∀ pre O A B, J pre O A → z2G (Capt ι C cs) A B → J pre O B) → (∀ A B, Jx A → z2G (Capt ι C cs) A B → Jx B) →
   (∀ pre x, pre ++ [x] <+: xs → ∀ O W1, J pre O W1 → YieldAt (WF none) 1 P l (encs x).toArray W1 fun e W' => (e = .returned (.bool true) ∧ ∃ O', J (pre ++ [x]) O' W' ∧ Yields O O' l W1 W') ∨ (e = .returned (.bool false) ∧ Jx W' ∧ Yields O (fun _ => False) l W1 W')) →
   CallsIn (WF none) 2 P gf (#[.func (.yield l) #[] #[]] ++ us.toArray) W fun e W' => (∃ v, e = .returned v) ∧ ((∃ O', J xs O' W') ∨ Jx W')
def allBox (C : Nat → Blk) : List Nat → Bool
 | [] => true
 | k :: r => (match C k with
  | .box _ _ => true
  | _ => false) && allBox C r
theorem z8l {C : Nat → Blk} : ∀ {l : List Nat}, allBox C l = true → ∀ k ∈ l, ∃ e vs, C k = .box e vs
 | [], _, k, h => by cases h
 | j :: r, ha, k, h => by
  simp only [allBox, Bool.and_eq_true] at ha
  rcases List.mem_cons.1 h with rfl | h
  ·have := ha.1
   split at this
   ·rename_i e vs hv; exact ⟨e, vs, hv⟩
   ·cases this
  ·exact z8l ha.2 k h
def foldR {El A B : Type} (f : El → A → Option (A ⊕ B)) : List El → A → Option (A ⊕ B)
 | [], x => some (.inl x)
 | e :: r, x => match f e x with
  | some (.inl y) => foldR f r y
  | some (.inr z) => some (.inr z)
  | none => none
section
variable (TT : Tab) (Δ : Nat → Option z0K) (ok : Nat → Bool) (Λ : Nat → Option z0Y)
end
def rangeO {El : Type} (g : Operand) (gf : Nat) (cap : (Nat → Blk) → List AV → Option (List El)) (head : Shape) (ways : List Way) (st : List El → head.den → Option (head.den ⊕ denX ways)) : z0Y := fun s _ K =>
 match ev (getT s.tm) g with
 | .fn f cs => if Nat.beq f gf = true then (cap (getB s.bl) cs).bind fun xs => (if (allBox (getB s.bl) (AV.idsL cs) && !(meetN (AV.idsL cs) (head.ids (head.fixd s) ++ nlsrc head.bl head.sl s))) = true then (match head.take s with
    | some x => (st xs x).bind fun y => Sum.elim (fun x' => K .nm (head.put x')) (fun z => onX ways z K) y
    | none => none) else none) else none
 | _ => none
theorem wpIn_depth {ρ : Option Nat} {d d' : Nat} {P : Program} {c : Code} {Q : Exit → Act → World → Prop} {a : Act} {w : World} (h : c.wpIn (WF ρ) d P Q a w) : c.wpIn (WF ρ) d' P Q a w :=
 fun b k cs h1 h2 _ => h b k cs h1 h2 (fun _ hd => by cases hd)
theorem z4N {base : Nat} {k1 k2 : Nat → Prop} {w1 w2 : World} (hl : z1x k1 w1 k2 w2) : ∀ {ds : List Deferred}, z5B base k1 w1 ds → z5B base k2 w2 ds
 | [], _ => trivial
 | d :: ds, ⟨⟨D, h1, h2, h3, h4, h5⟩, h6⟩ => ⟨⟨D, h1, h2, hl.mono D h3, by rw [hl.kept.block D h3 (Array.getElem?_eq_some_iff.1 h4).1]; exact h4, h5⟩, z4N hl h6⟩
theorem marks_lt {base : Nat} {k1 : Nat → Prop} {w1 : World} : ∀ {ds : List Deferred}, z5B base k1 w1 ds → ∀ e ∈ ds, ∃ D, e.target = .collected D ∧ D < w1.heap.size
 | [], _, e, he => by cases he
 | d :: ds, ⟨⟨D, h1, h2, h3, h4, h5⟩, h6⟩, e, he => by
  rcases List.mem_cons.1 he with rfl | he
  ·exact ⟨D, h1, (Array.getElem?_eq_some_iff.1 h4).1⟩
  ·exact marks_lt h6 e he
section
variable {P : Program} {TT : Tab} {Δ : Nat → Option z0K}
theorem FRel.put1 {X keep : Nat → Prop} {w0 w : World} {n : z0N} {ι : Nat → Option Value} {tm : List (Nat × AV)} {C : Nat → Blk} {a : Act} (h : FRel X keep w0 n ι (getT tm) C a w) {d : Nat} (hd : n.ok d = true) {x : AV} {v : Value} (hv : RelV w (okb X w ι C) ι x v) :
  FRel X keep w0 n ι (getT ((d, x) :: tm)) C (a.put (some d) v) w := by
 rw [z3x]
 exact h.step (fun d' hd' => by injection hd' with hd'; subst hd'; exact hd) h.h (Ext.refl _ _ _ _) hv
theorem FRel.puts {X keep : Nat → Prop} {w0 w : World} {n : z0N} {ι : Nat → Option Value} {C : Nat → Blk} : ∀ (ps : List Nat) (vs : List AV) (us : List Value) (tm : List (Nat × AV)) (a : Act), FRel X keep w0 n ι (getT tm) C a w → (∀ p ∈ ps, n.ok p = true) → RelL w (okb X w ι C) ι vs us → ps.length = us.length →
  FRel X keep w0 n ι (getT (putsT ps vs tm)) C (putsA (ps.zip us) a) w
 | [], vs, us, tm, a, h, _, _, hl => by
  cases us with
  | nil => exact h
  | cons u ur => simp at hl
 | p :: ps, vs, us, tm, a, h, hp, hv, hl => by
  cases us with
  | nil => simp at hl
  | cons u ur =>
   cases vs with
   | nil => simp only [RelL] at hv; cases hv
   | cons v vr =>
    obtain ⟨u', ur', e, h1, h2⟩ := z0b.1 hv
    injection e with e1 e2
    subst e1; subst e2
    exact FRel.puts ps vr ur _ _ (h.put1 (hp p (List.mem_cons_self ..)) h1) (fun q hq => hp q (List.mem_cons_of_mem _ hq)) h2 (by simpa using hl)
theorem FRel.asg {X keep : Nat → Prop} {w0 w : World} {n : z0N} {ι : Nat → Option Value} {C : Nat → Blk} : ∀ (l : List (Nat × Nat)) (tm : List (Nat × AV)) (a : Act), FRel X keep w0 n ι (getT tm) C a w → (∀ p ∈ l, n.ok p.1 = true) → FRel X keep w0 n ι (getT (asgT l tm)) C (asgA l a) w
 | [], _, _, h, _ => h
 | p :: r, _, _, h, hp => FRel.asg r _ _ (h.put1 (hp p (List.mem_cons_self ..)) (h.tm p.2)) fun q hq => hp q (List.mem_cons_of_mem _ hq)
def allOk (ok : Nat → Bool) : List Nat → Bool
 | [] => true
 | p :: r => ok p && allOk ok r
theorem allOk_iff {ok : Nat → Bool} : ∀ {l : List Nat}, allOk ok l = true → ∀ p ∈ l, ok p = true
 | [], _, p, h => by cases h
 | q :: r, hl, p, h => by
  simp only [allOk, Bool.and_eq_true] at hl
  rcases List.mem_cons.1 h with rfl | h
  ·exact hl.1
  ·exact allOk_iff hl.2 p h
def roundK (head : Shape) (ways : List Way) (e : Ex) (s : St) : Option (head.den ⊕ denX ways) := match e with
 | .nm => (match head.take s with
  | some y => some (.inl y)
  | none => none)
 | .ex j => toX ways (.ex j) s fun y => some (.inr y)
 | .rt => toX ways .rt s fun y => some (.inr y)
noncomputable def stepRG (TT : Tab) (Δ : Nat → Option z0K) (ok : Nat → Bool) (Λ : Nat → Option z0Y) {El : Type} (avs : El → List AV) (ps : List Nat) (asg : Code) (head : Shape) (ways : List Way) (body : Code) (e : El) (x : head.den) : Option (head.den ⊕ denX ways) :=
 evC TT Δ ok Λ asg ⟨putsT ps (avs e) (head.put x).tm, (head.put x).bl⟩ fun e1 s1 => match e1 with
  | .nm => evC TT Δ ok Λ body s1 (roundK head ways)
  | _ => none
structure z8o (ok : Nat → Bool) {El : Type} (avs : El → List AV) (encs : El → List Value) (ps : Array Nat) (asg : Code) (head : Shape) (ways : List Way) : Prop where
 nl : z2v asg = true
 rel : ∀ (w : World) (ok : Nat → Prop) (ι : Nat → Option Value) (e : El), RelL w ok ι (avs e) (encs e)
 len : ∀ e : El, (encs e).length = ps.toList.length
 ps : allOk (z0I ok (slotsOf head.sl ++ z3l ways)) ps.toList = true
 no1 : noItB head.bl = true
 no2 : noItX ways = true
theorem rangeO_okG (hm : P.follows .mixedOrders = true) (hP : z0q P TT) (hΔ : z0O P Δ) {Λ : List (Nat × z0Y)} {El : Type} {avs : El → List AV} {encs : El → List Value} {g : Operand} {gf : Nat} {cap : (Nat → Blk) → List AV → Option (List El)} {ps : Array Nat} {asg body : Code}
  {head : Shape} {ways : List Way} {ok : Nat → Bool} (hI : z5f P gf encs cap) (hT : z8o ok avs encs ps asg head ways) (hL : z3D P (z0I ok (slotsOf head.sl ++ z3l ways)) true Λ body)
  {st : List El → head.den → Option (head.den ⊕ denX ways)} (hst : ∀ xs x y, st xs x = some y → foldR (stepRG TT Δ (z0I ok (slotsOf head.sl ++ z3l ways)) (lookL Λ) avs ps.toList asg head ways body) xs x = some y) :
  LoopAt P ok false (rangeO g gf cap head ways st) (.rangeFunc g ps asg body) := by
 intro n hn ρ hρ
 obtain ⟨hρ, hmk⟩ : ρ = none ∧ n.marks = true := hρ.resolve_left (by simp)
 subst hρ
 subst hn
 intro dp X keep w0 w ι s a R K r Q h hev hQ
 unfold rangeO at hev
 have hgv := z4U h.f.tm g
 split at hev
 ·rename_i f cs hg
  split at hev
  ·rename_i hf
   have hf := Nat.eq_of_beq_eq_true hf
   subst hf
   obtain ⟨xs, hcap, hev⟩ := z0H hev
   ·split at hev
    ·rename_i hck
     simp only [Bool.and_eq_true, Bool.not_eq_true'] at hck
     obtain ⟨hbox, hmt⟩ := hck
     split at hev
     ·rename_i x0 hx0
      obtain ⟨out, hout, hev⟩ := z0H hev
      have hfold := hst xs x0 out hout
      rw [hg] at hgv
      simp only [RelV] at hgv
      obtain ⟨us, hgval, hcs⟩ := hgv
      let a0 : Act := { tmps := a.tmps, defers := [] }
      have hbase : n.base ≤ w.heap.size := Nat.le_trans h.f.defers.1 h.f.h.fr.size
      let Cp := Capt ι (getB s.bl) cs
      have hCo : ∀ b, Cp b → owned ι (getB s.bl) b := by rintro b ⟨k, _, hb⟩; exact ⟨k, hb⟩
      have hr0 : SRel X (fun b => b < w.heap.size ∧ ¬ owned ι (getB s.bl) b) w n ι s a0 w := ⟨⟨h.f.h.rebase, h.f.tm, h.f.size, hbase, fun _ => rfl, trivial⟩, h.dom⟩
      obtain ⟨ι1, S1, hown1⟩ := Shape.take_own hr0 hx0 Cp (by
       rintro b ⟨k, hk, hb⟩
       obtain ⟨e, vs, hvs⟩ := z8l hbox k hk
       refine ⟨⟨k, e, vs, hvs, hb⟩, h.f.h.lt ⟨k, hb⟩, fun i hi hbi => ?_⟩
       have e := h.f.h.inj k i b hb hbi
       subst e
       exact z2w hmt k hk hi)
      let C1 := getB (head.put x0).bl
      let XX : Nat → Prop := fun b => X b ∨ Cp b
      let kp : Nat → Prop := fun b => b < w.heap.size ∧ ¬ owned ι1 C1 b ∧ ¬ Cp b
      let pins := slotsOf head.sl ++ z3l ways
      have hown2 : ∀ b, owned ι1 C1 b → owned ι (getB s.bl) b := fun b ho => by obtain ⟨i, _, hi⟩ := hown1 b ho; exact ⟨i, hi⟩
      have hokp : ∀ b, okb X w ι (getB s.bl) b → ¬ owned ι1 C1 b := fun b hb ho => hb.2.1 (hown2 b ho)
      have hcsp : ∀ b, Cp b → ¬ owned ι1 C1 b := fun b hb ho => S1.f.h.ox b ho (.inr hb)
      have hseq := hI.run X keep w0 w ι (getB s.bl) cs us xs (owned ι1 C1) h.f.h hcs hcap hokp hcsp
      have hkeep : ∀ b, keep b → kp b := fun b hb => ⟨Nat.lt_of_lt_of_le (h.f.h.kl b hb) h.f.h.fr.size, fun ho => h.f.h.own b (hown2 b ho) hb, fun hc => h.f.h.own b (hCo b hc) hb⟩
      have hXl0 : ∀ b, X b → b < w.heap.size := fun b hb => Nat.lt_of_lt_of_le (h.f.h.xl b hb) h.f.h.fr.size
      have hXl : ∀ b, XX b → b < w.heap.size := fun b hb => hb.elim (hXl0 b) fun hc => h.f.h.lt (hCo b hc)
      have S2 : SRel XX kp w n ι1 (head.put x0) a0 w := ⟨⟨⟨S1.f.h.bl, S1.f.h.inj, Kept.refl _ _, fun b hb hk => hk.2.1 hb, fun b hb => hb.1, S1.f.h.ox, S1.f.h.xl, S1.f.h.gl⟩, S1.f.tm, S1.f.size, hbase, fun _ => rfl, trivial⟩, S1.dom⟩
      let step := stepRG TT Δ (z0I n.ok (slotsOf head.sl ++ z3l ways)) (lookL Λ) avs ps.toList asg head ways body
      let nR := z2L n pins a0
      let I : List El → (Nat → Prop) → World → Prop := fun pre O W => ∃ rest x ι, xs = pre ++ rest ∧ foldR step rest x = some out ∧ SRel XX kp w n ι (head.put x) a0 W ∧ O = owned ι (getB (head.put x).bl)
      let Ix : Code → World → Prop := fun c W => ∃ z e, out = .inr z ∧ ((c = .ret ∧ e = Ex.rt) ∨ ∃ j, c = .exit j ∧ e = Ex.ex j) ∧ ∀ (R' : Type) (K' : Ex → St → Option R') (r' : R'), onX ways z K' = some r' → ∃ s' ι', SRel XX kp w n ι' s' a0 W ∧ NoIt s' ∧ K' e s' = some r'
      have hIg : ∀ {pre O A B row}, I pre O A → A.grownBy B row → (∀ r, row = some r → w.heap.size ≤ r ∧ ∃ o : Obj, A.heap[r]? = some o ∧ o.isCells = false) → I pre O B := by
       rintro pre O A B row ⟨rest, x, ι, e1, e2, e3, e4⟩ hg hr
       exact ⟨rest, x, ι, e1, e2, e3.grown (z2u _ hT.no1 _) hg hr, e4⟩
      have hIxg : ∀ {c A B row}, Ix c A → A.grownBy B row → (∀ r, row = some r → w.heap.size ≤ r ∧ ∃ o : Obj, A.heap[r]? = some o ∧ o.isCells = false) → Ix c B := by
       rintro c A B row ⟨z, e, e1, e2, e3⟩ hg hr
       refine ⟨z, e, e1, e2, fun R' K' r' hk => ?_⟩
       obtain ⟨s', ι', q1, q2, q3⟩ := e3 R' K' r' hk
       exact ⟨s', ι', q1.grown q2 hg hr, q2, q3⟩
      have hCS : ∀ {ι' s' a' A}, SRel XX kp w n ι' s' a' A → ∀ b, Cp b → ¬ kp b ∧ ¬ owned ι' (getB s'.bl) b ∧ (XX b ∨ ∀ o v, A.cell? ⟨b, o, none⟩ = some v → False) :=
       fun h' b hb => ⟨fun hk => hk.2.2 hb, fun ho => h'.f.h.ox b ho (.inr hb), .inl (.inr hb)⟩
      have hIm : ∀ {pre O A B}, I pre O A → z2G Cp A B → I pre O B := by
       rintro pre O A B ⟨rest, x, ι, e1, e2, e3, e4⟩ hm
       exact ⟨rest, x, ι, e1, e2, e3.mod hm (hCS e3), e4⟩
      have hIxm : ∀ {c A B}, Ix c A → z2G Cp A B → Ix c B := by
       rintro c A B ⟨z, e, e1, e2, e3⟩ hm
       refine ⟨z, e, e1, e2, fun R' K' r' hk => ?_⟩
       obtain ⟨s', ι', q1, q2, q3⟩ := e3 R' K' r' hk
       exact ⟨s', ι', q1.mod hm (hCS q1), q2, q3⟩
      obtain ⟨fg, hg1, hg2, hg3⟩ := hI.fn
      have eg : ∀ (args : Array Value) (w : World), (callFunc f args).run P w = .ok (.enter f args) w := by
       intro args w
       have hname : ¬ fg.name = "runtime.NumGoroutine" := by simpa using hg2
       have hb : ¬ fg.body = none := by
        intro hb
        rw [hb] at hg3
        cases hg3
       simp [callFunc, hg1, hname, hb]
      refine wpIn_depth (d := 3) (wpIn_rangeFunc fun fn hfn => ?_)
      obtain ⟨rec, hrec⟩ : ∃ rec : LoopState → Option Code → Loop, rec = fun st pe => { state := st, pending := pe, fn, tmps := a.tmps, params := ps, assign := asg, body, defers := w.heap.size } := ⟨_, rfl⟩
      obtain ⟨L, hLe⟩ : ∃ L, L = w.heap.size + 1 := ⟨_, rfl⟩
      obtain ⟨V1, hV1⟩ : ∃ V1, V1 = (w.alloc (.deferred (some []))).alloc (.loop (rec .ready none)) := ⟨_, rfl⟩
      have g1 : w.grownBy (w.alloc (.deferred (some []))) none := World.grownBy_alloc w _ none
      have g2 : (w.alloc (.deferred (some []))).grownBy V1 none := by rw [hV1]; exact World.grownBy_alloc _ _ none
      have hL1 : V1.heap[L]? = some (.loop (rec .ready none)) := by
       have := World.alloc_heap_new (w.alloc (.deferred (some []))) (.loop (rec .ready none))
       rw [World.size_alloc] at this
       rw [hV1, hLe]; exact this
      have hK1 : V1.heap[w.heap.size]? = some (.deferred (some [])) := by
       rw [g2.block _ (by rw [World.size_alloc]; omega) (by simp)]
       exact World.alloc_heap_new w _
      have hkV : ∀ b, b < w.heap.size → V1.heap[b]? = w.heap[b]? := fun b hb => by
       rw [g2.block b (by rw [World.size_alloc]; omega) (by simp), g1.block b hb (by simp)]
      have hI1 : I [] (owned ι1 C1) V1 := hIg (hIg ⟨xs, x0, ι1, rfl, hfold, S2, rfl⟩ g1 (fun r e => by cases e)) g2 (fun r e => by cases e)
      refine ⟨L, [{ target := .collected w.heap.size, args := #[] }], V1, { target := .fn (.func f) us.toArray, args := #[.func (.yield L) #[] #[]] }, V1, f,
       #[.func (.yield L) #[] #[]] ++ us.toArray, V1, ?_, ?_, ?_, ?_, (fun e => by cases e), ?_⟩
      ·rw [hV1, hLe, hrec]; exact run_enterLoop_outer _ _ _ _ _
      ·simp only [resolve, hgval]
       simp [go_sem]
      ·intro f' _; trivial
      ·simp [invoke, go_sem, eg]
      ·let J : List El → (Nat → Prop) → World → Prop := fun pre O W => I pre O W ∧ W.heap[L]? = some (.loop (rec .ready none)) ∧ W.heap[w.heap.size]? = some (.deferred (some []))
       let Jx : World → Prop := fun W => ∃ c, Ix c W ∧ W.heap[L]? = some (.loop (rec .done (some c))) ∧ W.heap[w.heap.size]? = some (.deferred (some []))
       have hCl : ∀ b, Cp b → b < w.heap.size := fun b hb => h.f.h.lt (hCo b hb)
       have keepM : ∀ {A B : World} {k : Nat} {o : Obj}, w.heap.size ≤ k → z2G Cp A B → A.heap[k]? = some o → B.heap[k]? = some o := fun hw hm hk => (hm.block _ (Array.getElem?_eq_some_iff.1 hk).1 (fun hc => absurd (hCl _ hc) (Nat.not_lt.2 hw))).trans hk
       have hLw : w.heap.size ≤ L := by omega
       have hV1s : w.heap.size ≤ V1.heap.size := Nat.le_trans g1.size g2.size
       refine (hseq L J Jx V1 hLw (Array.getElem?_eq_some_iff.1 hL1).1 hV1s hkV ⟨hI1, hL1, hK1⟩ (by
        rintro pre O A ⟨⟨rest, x, ι, e1, e2, e3, rfl⟩, _, _⟩ b hb
        exact e3.f.h.lt hb) (fun pre O A B hJ hm => ⟨hIm hJ.1 hm, keepM hLw hm hJ.2.1, keepM (Nat.le_refl _) hm hJ.2.2⟩)
        (fun A B ⟨c, h1, h2, h3⟩ hm => ⟨c, hIxm h1 hm, keepM hLw hm h2, keepM (Nat.le_refl _) hm h3⟩) ?_).mono ?_
       ·
        rintro pre x ⟨t, ht⟩ O W ⟨⟨rest, x1, ι2, hxs, hfo, S3, hO⟩, hl, hk⟩
        have hrest : rest = x :: t := by
         rw [hxs, List.append_assoc] at ht
         exact (List.append_cancel_left ht).symm
        subst hrest
        have hlt : L < W.heap.size := (Array.getElem?_eq_some_iff.1 hl).1
        have hy := run_yield (P := P) (args := (encs x).toArray) hl (by rw [hrec]; simp [hT.len x])
        rw [hrec] at hy
        let kpA : Nat → Prop := fun b => b < W.heap.size ∧ ¬ owned ι2 (getB (head.put x1).bl) b
        have hnoA : NoIt (head.put x1) := z2u _ hT.no1 _
        have hkpA : ∀ b, kp b → kpA b := fun b hb => ⟨Nat.lt_of_lt_of_le hb.1 S3.f.h.fr.size, fun ho => S3.f.h.own b ho hb⟩
        have hwL : w.heap.size < L := by omega
        have hnot : ∀ (b : Nat) (o : Obj), W.heap[b]? = some o → o.isCells = false → kpA b := fun b o hb ho => ⟨(Array.getElem?_eq_some_iff.1 hb).1, fun hw => by
         obtain ⟨o', q1, q2⟩ := S3.z6K hnoA hw
         rw [hb] at q1
         injection q1 with q1
         subst q1
         rw [ho] at q2
         cases q2⟩
        let nA : z0N := ⟨false, nR.base, nR.ok, nR.G, nR.lt, nR.set⟩
        have F0 : FRel XX kpA W nA ι2 (getT (head.put x1).tm) (getB (head.put x1).bl) a0 W := ⟨S3.f.h.rebase, S3.f.tm, ⟨S3.f.size, fun _ _ => rfl⟩, Nat.le_trans hbase S3.f.h.fr.size, fun _ => rfl, trivial⟩
        have F1 := F0.puts ps.toList (avs x) (encs x) (head.put x1).tm a0 (fun p hp => allOk_iff hT.ps p hp) (hT.rel _ _ _ x) (hT.len x).symm
        have hact : ({ tmps := (ps.zip (encs x).toArray).foldl (fun t (p, v) => t.setIfInBounds p v) a.tmps, defers := [] } : Act) = putsA (ps.toList.zip (encs x)) a0 := by
         obtain ⟨q1, q2⟩ := z7W (ps.toList.zip (encs x)) a0
         have e : putsA (ps.toList.zip (encs x)) a0 = ⟨(putsA (ps.toList.zip (encs x)) a0).tmps, (putsA (ps.toList.zip (encs x)) a0).defers⟩ := rfl
         rw [e, q1, q2]
         congr 1
         rw [← Array.foldl_toList, Array.toList_zip]
        simp only [foldR] at hfo
        cases hst' : step x x1 with
        | none => rw [hst'] at hfo; cases hfo
        | some v =>
         rw [hst'] at hfo
         have hst' : evC TT Δ nA.ok (lookL Λ) asg ⟨putsT ps.toList (avs x) (head.put x1).tm, (head.put x1).bl⟩ (fun e1 s1 => match e1 with
          | .nm => evC TT Δ nR.ok (lookL Λ) body s1 (roundK head ways)
          | _ => none) = some v := hst'
         refine ⟨fn, _, asg, body, hy, roundIn_of_wpIn hfn ?_⟩
         rw [hact]
         refine z1f (n := nA) (Λ := lookL Λ) hm hP hΔ asg hT.nl ⟨putsT ps.toList (avs x) (head.put x1).tm, (head.put x1).bl⟩ _ _ _ W ι2 ⟨F1, S3.dom⟩ hst' (fun e1 s1 a1 W1 ι5 hk1 S1' hlk1 => ?_)
         cases e1 with
         | ex j => cases hk1
         | rt => cases hk1
         | nm =>
         have hk1 : evC TT Δ nR.ok (lookL Λ) body s1 (roundK head ways) = some v := hk1
         have hl1 : W1.heap[L]? = some (.loop (rec .ready none)) := (S1'.f.h.fr.block L (hnot L _ hl rfl) hlt).trans hl
         have hkM1 : W1.heap[w.heap.size]? = some (.deferred (some [])) := (S1'.f.h.fr.block _ (hnot _ _ hk rfl) (Array.getElem?_eq_some_iff.1 hk).1).trans hk
         have hlt1 : L < W1.heap.size := (Array.getElem?_eq_some_iff.1 hl1).1
         refine ⟨_, run_beginRound hl1 (by rw [hrec]), ?_⟩
         obtain ⟨W2, hW2⟩ : ∃ W2, W2 = W1.putObj L (.loop { rec .ready none with state := .busy }) := ⟨_, rfl⟩
         rw [← hW2]
         have hl2 : W2.heap[L]? = some (.loop { rec .ready none with state := .busy }) := by rw [hW2]; exact World.putObj_heap_same hlt1
         have ho2 : ∀ b, b ≠ L → W2.heap[b]? = W1.heap[b]? := fun b hb => by rw [hW2]; exact World.putObj_heap_other hb
         have hk2 : W2.heap[w.heap.size]? = some (.deferred (some [])) := by rw [ho2 _ (by omega)]; exact hkM1
         have hs2 : W2.heap.size = W1.heap.size := by rw [hW2]; simp
         have hsW : W.heap.size ≤ W1.heap.size := S1'.f.h.fr.size
         have HB : HRel XX (fun b => kpA b ∧ b ≠ L) W ι5 (getB s1.bl) W1 := S1'.f.h.weaken (fun b hb => hb.1) (Kept.refl _ _) (fun b hb => hb.1.1) (fun b hb => S1'.f.h.xl b hb)
         obtain ⟨HQ, VQ⟩ := HB.quiet (w' := W2) L (by rw [hW2]; rfl) (by rw [hW2]; rfl) (by rw [hW2]; rfl) (Nat.le_of_eq hs2.symm) (fun b hb _ => ho2 b hb) (fun o v hc => by simp [World.cell?, hl1] at hc)
          (fun b hb e => S1'.f.h.own b hb (by rw [e]; exact hnot L _ hl rfl)) (fun hk => hk.2 rfl)
         let kp2 : Nat → Prop := fun b => b < W2.heap.size ∧ ¬ owned ι5 (getB s1.bl) b
         have hkp2 : ∀ b, kp b → kp2 b := fun b hb => ⟨by rw [hs2]; exact Nat.lt_of_lt_of_le (hkpA b hb).1 hsW, fun ho => S1'.f.h.own b ho (hkpA b hb)⟩
         have hbase2 : n.base ≤ W2.heap.size := by rw [hs2]; exact Nat.le_trans (Nat.le_trans hbase S3.f.h.fr.size) hsW
         have hdef : a1.defers = [] := S1'.f.defers.2.1 rfl
         have F2 : FRel XX kp2 W2 nR ι5 (getT s1.tm) (getB s1.bl) a1 W2 := ⟨HQ.rebase, fun t => VQ _ _ (S1'.f.tm t), S1'.f.size, hbase2, fun _ => hdef, by rw [hdef]; trivial⟩
         have hKW2 : Kept kp w W2 := by
          refine S3.f.h.fr.trans ⟨?_, ?_, ?_, ?_, fun b hb hl => ?_⟩
          ·rw [hW2]; exact S1'.f.h.fr.os
          ·rw [hW2]; exact S1'.f.h.fr.tape
          ·rw [hW2]; exact S1'.f.h.fr.output
          ·rw [hs2]; exact hsW
          ·rw [ho2 b (fun e => by have := hb.1; omega)]
           exact S1'.f.h.fr.block b (hkpA b hb) hl
         refine z0L (n := nR) (ρ := some L) hm hP hΔ body (hL nR rfl (some L) (.inl rfl)) s1 _ _ _ W2 ι5 kp2 W2 ⟨F2, S1'.dom⟩ hk1 (fun e s3 a3 W3 ι3 k3 v3 hlat hk3 S5 => ?_)
         have hk3 : roundK head ways e s3 = some v := hk3
         unfold roundK at hk3
         have keepW : ∀ b, kp2 b → W3.heap[b]? = W2.heap[b]? := fun b hb => (S5.f.h.fr.block b (hlat.mono b hb) (Nat.lt_of_lt_of_le hb.1 hlat.kept.size)).trans (hlat.kept.block b hb hb.1)
         have hl3 := (keepW L ⟨by rw [hs2]; exact hlt1, fun hw => S1'.f.h.own L hw (hnot L _ hl rfl)⟩).trans hl2
         have hk3' := (keepW w.heap.size ⟨(Array.getElem?_eq_some_iff.1 hk2).1, fun hw => S1'.f.h.own _ hw (hnot _ _ hk rfl)⟩).trans hk2
         have back : ∀ s4 ι4, SRel XX k3 v3 nR ι4 s4 a3 W3 → (∀ t, t ∉ pins → getT s4.tm t = .un) → SRel XX kp w n ι4 s4 a0 W3 := by
          intro s4 ι4 h4 hun
          refine ⟨⟨h4.f.h.weaken (fun b hb => hlat.mono b (hkp2 b hb)) (hKW2.trans (hlat.kept.weak hkp2)) (fun b hb => hb.1) hXl, fun t => ?_, S3.f.size, hbase, fun _ => rfl, trivial⟩, h4.dom⟩
          by_cases hp : t ∈ pins
          ·have e1 := h4.f.size.2 t hp
           rw [← e1]
           exact h4.f.tm t
          ·rw [hun t hp]
           simp only [RelV]
         have hend : ∀ jump : Option Code, (Instr.endRound L jump).run P W3 = .ok (.bool jump.isNone) (W3.putObj L (.loop (rec (if jump.isNone then .ready else .done) jump))) := fun jump => by
          have := run_endRound (P := P) jump hl3
          rw [hrec] at this ⊢
          exact this
         have hlt3 : L < W3.heap.size := (Array.getElem?_eq_some_iff.1 hl3).1
         have gP : ∀ o, W3.grownBy (W3.putObj L o) (some L) := fun o => grownBy_putObj' W3 L o
         have gR : ∀ r, some L = some r → w.heap.size ≤ r ∧ ∃ o : Obj, W3.heap[r]? = some o ∧ o.isCells = false := fun r e => by injection e with e; subst e; exact ⟨by omega, _, hl3, rfl⟩
         have hkD : ∀ o, (W3.putObj L o).heap[w.heap.size]? = some (.deferred (some [])) := fun o => (World.putObj_heap_other (by omega)).trans hk3'
         have leave : ∀ (e : Ex) (c : Code), ((c = .ret ∧ e = Ex.rt) ∨ ∃ j, c = .exit j ∧ e = Ex.ex j) → (toX ways e s3 fun y => some (Sum.inr y : head.den ⊕ denX ways)) = some v → Jx (W3.putObj L (.loop (rec .done (some c)))) := by
          intro e c hce hto
          obtain ⟨z, hz1, hz2⟩ := z7P S5 ways _ hT.no2 hto
          injection hz1 with hz1
          subst hz1
          have hout' : Sum.inr z = out := by injection hfo
          refine ⟨c, hIxg (c := c) ⟨z, e, hout'.symm, hce, fun R' K' r' hk' => ?_⟩ (gP _) gR, World.putObj_heap_same hlt3, hkD _⟩
          obtain ⟨s4, ι4, q1, q2, q3, q4⟩ := hz2 K' r' hk'
          exact ⟨s4, ι4, back s4 ι4 q1 (fun t ht => q3 t (fun q => ht (List.mem_append_right _ q))), q2, q4⟩
         have hyS : ∀ o, W.heap.size ≤ (W3.putObj L o).heap.size := fun o => by
          have q2 : W2.heap.size ≤ W3.heap.size := Nat.le_trans hlat.kept.size S5.f.h.fr.size
          have : (W3.putObj L o).heap.size = W3.heap.size := by simp
          omega
         have hyB : ∀ o b, b < W.heap.size → ¬ O b → b ≠ L → (W3.putObj L o).heap[b]? = W.heap[b]? := fun o b hb hno hbl => by
          rw [World.putObj_heap_other hbl, keepW b ⟨by omega, fun ho => S1'.f.h.own b ho ⟨hb, by rw [← hO]; exact hno⟩⟩, ho2 b hbl]
          exact S1'.f.h.fr.block b ⟨hb, by rw [← hO]; exact hno⟩ hb
         cases e with
         | nm =>
          simp only at hk3
          split at hk3
          ·rename_i y hy'
           injection hk3 with hk3
           subst hk3
           obtain ⟨ι4, h4, h4o⟩ := Shape.take_own S5 hy' (fun _ => False) (fun _ q => q.elim)
           have h4 := h4.noY
           refine ⟨_, _, hend none, .inl ⟨rfl, _, ⟨hIg ⟨t, y, ι4, by rw [hxs, List.append_assoc]; rfl, hfo, back _ _ h4 (fun u hu => z5Z _ _ _ (fun q => hu (List.mem_append_left _ q))), rfl⟩ (gP _) gR, World.putObj_heap_same hlt3, hkD _⟩, ?_, ?_, ?_⟩⟩
           ·exact hyS _
           ·exact hyB _
           ·intro b hb hob
            have q1 : owned ι3 (getB s3.bl) b := by obtain ⟨i, _, hi⟩ := h4o b hob; exact ⟨i, hi⟩
            have q2 := S5.f.h.own b q1
            have hb2 : b < W2.heap.size := by omega
            rw [hO]
            exact Classical.byContradiction fun q => q2 (hlat.mono b ⟨hb2, fun ho => S1'.f.h.own b ho ⟨hb, q⟩⟩)
          ·cases hk3
         | ex j => exact ⟨_, _, hend (some (.exit j)), .inr ⟨rfl, leave (.ex j) (.exit j) (.inr ⟨j, rfl, rfl⟩) hk3, hyS _, hyB _, fun _ _ q => q.elim⟩⟩
         | rt => exact ⟨_, _, hend (some .ret), .inr ⟨rfl, leave .rt .ret (.inl ⟨rfl, rfl⟩) hk3, hyS _, hyB _, fun _ _ q => q.elim⟩⟩
       ·
        have fin : ∀ s' ι' W', SRel XX kp w n ι' s' a0 W' → NoIt s' → W'.heap[w.heap.size]? = some (.deferred (some [])) →
          z1x keep w0 (fun b => keep b ∨ b = w.heap.size) W' ∧ SRel X (fun b => keep b ∨ b = w.heap.size) W' n ι' s' { a with defers := { target := .collected w.heap.size, args := #[] } :: a.defers } W' := by
         intro s' ι' W' h' hno hD
         have h' := h'.lessX (X := X) fun b hb => .inl hb
         have hlat : z1x keep w0 (fun b => keep b ∨ b = w.heap.size) W' := ⟨fun b hb => .inl hb, h.f.h.fr.trans (h'.f.h.fr.weak hkeep)⟩
         refine ⟨hlat, ⟨⟨⟨h'.f.h.bl, h'.f.h.inj, Kept.refl _ _, fun b hb hk => ?_, fun b hk => ?_, h'.f.h.ox, fun b hb => Nat.lt_of_lt_of_le (hXl0 b hb) h'.f.h.fr.size, h'.f.h.gl⟩, h'.f.tm, h'.f.size, Nat.le_trans hbase h'.f.h.fr.size, (fun hm => by rw [hmk] at hm; cases hm), ⟨_, rfl, hbase, .inr rfl, hD, fun e he ht => ?_⟩, z4N hlat h.f.defers.2.2⟩, h'.dom⟩⟩
         ·rcases hk with hk | hk
          ·exact h'.f.h.own b hb (hkeep b hk)
          ·subst hk
           exact h'.f.h.z4L hb hD
         ·rcases hk with hk | hk
          ·exact Nat.lt_of_lt_of_le (hkeep b hk).1 h'.f.h.fr.size
          ·subst hk
           exact (Array.getElem?_eq_some_iff.1 hD).1
         ·obtain ⟨D', q1, q2⟩ := marks_lt h.f.defers.2.2 e he
          rw [ht] at q1
          injection q1 with q1
          have := h.f.h.fr.size
          omega
        rintro e V2 ⟨⟨v, rfl⟩, (⟨O', ⟨rest, x, ι2, hxs, hfo, S3, _⟩, hl, hk⟩ | ⟨c, ⟨z, e, hz, hce, hK⟩, hl, hk⟩)⟩
        ·have hrest : rest = [] := by simpa using hxs.symm
         subst hrest
         simp only [foldR] at hfo
         injection hfo with hfo
         subst hfo
         obtain ⟨V3, hE, hgr, hD3⟩ : ∃ V3, (Instr.endLoop L).run P V2 = .ok (none) V3 ∧ V2.grownBy V3 (some L) ∧ V3.heap[w.heap.size]? = some (.deferred (some [])) :=
          ⟨V2.putObj L (.loop { rec .ready none with state := .exhausted }), by have := run_endLoop (P := P) hl (by rw [hrec]; simp); rw [hrec] at this ⊢; exact this, grownBy_putObj' V2 L _, (World.putObj_heap_other (by omega)).trans hk⟩
         have S4 := S3.grown (z2u _ hT.no1 _) hgr (fun r e => by injection e with e; subst e; exact ⟨by omega, _, hl, rfl⟩)
         obtain ⟨q1, q2⟩ := fin _ _ _ S4 (z2u _ hT.no1 _) hD3
         refine ⟨none, _, hE, ?_⟩
         exact hQ .nm _ _ _ _ _ _ q1 hev q2
        ·subst hz
         obtain ⟨s', ι', S3, hno, hk3⟩ := hK R K r hev
         obtain ⟨V3, hE, hgr, hD3⟩ : ∃ V3, (Instr.endLoop L).run P V2 = .ok (some c) V3 ∧ V2.grownBy V3 (some L) ∧ V3.heap[w.heap.size]? = some (.deferred (some [])) :=
          ⟨V2.putObj L (.loop { rec .done (some c) with state := .exhausted }), by have := run_endLoop (P := P) hl (by rw [hrec]; simp); rw [hrec] at this ⊢; exact this, grownBy_putObj' V2 L _, (World.putObj_heap_other (by omega)).trans hk⟩
         have S4 := S3.grown hno hgr (fun r e => by injection e with e; subst e; exact ⟨by omega, _, hl, rfl⟩)
         obtain ⟨q1, q2⟩ := fin _ _ _ S4 hno hD3
         refine ⟨some c, _, hE, ?_⟩
         rcases hce with ⟨rfl, rfl⟩ | ⟨j, rfl, rfl⟩
         ·exact wpIn_ret (hQ .rt _ _ _ _ _ _ q1 hk3 q2)
         ·exact wpIn_exit (hQ (.ex j) _ _ _ _ _ _ q1 hk3 q2)
     ·cases hev
    ·cases hev
  ·cases hev
 ·cases hev
end
end Go.Proofs.Rf
namespace Go.Proofs.Rf
open Go Go.RowKit
mutual
def SV.re (f : Nat → Nat) : (s : SV) → s.den → AV
 | .d agg t, x => avD agg t x
 | .rs b sz, p => .rs (f b) sz p.1 p.2
 | .rz b sz, p => .rs (f b) sz 0 p
 | .fn g cs, x => .fn g (SV.reL f cs x)
 | .rf b, _ => .rf (f b)
 | .pt b o, _ => .pt (f b) o
 | .ud, _ => .ud
 | .mp b, _ => .mp (f b)
 | .np, _ => .np
 | .mnil, _ => .mnil
 | .nl, _ => .nl
 | .ro b, _ => .ro (f b)
 | .fs b sz, p => .fs (f b) p.1 sz p.2.1 p.2.2
 | .ag cs, x => .ag (SV.reL f cs x)
 | .ve cs, x => .ve (SV.reL f cs x)
def SV.reL (f : Nat → Nat) : (l : List SV) → SV.denL l → List AV
 | [], _ => []
 | a :: r, x => a.re f x.1 :: SV.reL f r x.2
end
def reS (f : Nat → Nat) : (l : List (Nat × SV)) → denS l → List AV
 | [], _ => []
 | p :: r, x => p.2.re f x.1 :: reS f r x.2
def SB.re (f : Nat → Nat) : (s : SB) → s.den → Blk
 | .row t e, xs => .row t e xs true
 | .box e cs, x => .box e (SV.reL f cs x)
 | .it, _ => .dead
 | .map kt va vt, l => .map kt va vt l
 | .nr t t2 e ie, l => .nr t t2 e ie l
def reB (f : Nat → Nat) : (l : List SB) → denB l → List Blk
 | [], _ => []
 | a :: r, x => a.re f x.1 :: reB f r x.2
def rnB (ρ m : List Nat) (nb b : Nat) : Nat := match m[b]? with
 | some k => ρ.getD k 0
 | none => nb + (b - m.length)
def posM (k : Nat) : Nat → List Nat → Option Nat
 | _, [] => none
 | i, j :: r => if Nat.beq j k = true then some i else posM k (i + 1) r
def z3Z (m : List Nat) (bs : List Blk) : Nat → List Nat → List (Nat × Blk)
 | _, [] => []
 | k, i :: r => (i, match posM k 0 m with
  | some j => getB bs j
  | none => .dead) :: z3Z m bs (k + 1) r
def mkCallB (psh rsh : Shape) (m : List Nat) (np : Nat) (F : psh.den → Option rsh.den) : z0K := fun args C nb _ K =>
 if (nodupN (blkB C psh.bl 0 (blkS (getT (numT 0 args)) psh.sl [])) && Nat.beq args.length psh.sl.length) = true then
  (match takeS C (getT (numT 0 args)) (blkB C psh.bl 0 (blkS (getT (numT 0 args)) psh.sl [])) psh.sl with
  | some (x, f) => match takeB C (blkB C psh.bl 0 (blkS (getT (numT 0 args)) psh.sl [])) psh.bl (blkB C psh.bl 0 (blkS (getT (numT 0 args)) psh.sl [])) with
   | some (y, g) => if meetN (blkB C psh.bl 0 (blkS (getT (numT 0 args)) psh.sl [])) (z0U (f ++ g)) = true then none else
     (F (x, y)).bind fun z => K ⟨retV ((reS (rnB (blkB C psh.bl 0 (blkS (getT (numT 0 args)) psh.sl [])) m nb) rsh.sl z.1).drop np),
      (if rsh.flat = true then [] else f ++ g) ++ z3Z m (reB (rnB (blkB C psh.bl 0 (blkS (getT (numT 0 args)) psh.sl [])) m nb) rsh.bl z.2) 0 (blkB C psh.bl 0 (blkS (getT (numT 0 args)) psh.sl [])),
      (reB (rnB (blkB C psh.bl 0 (blkS (getT (numT 0 args)) psh.sl [])) m nb) rsh.bl z.2).drop m.length⟩
   | none => none
  | none => none)
 else none
noncomputable def runFB (TT : Tab) (Δ : Nat → Option z0K) (n : Nat → Bool) (Λ : Nat → Option z0Y) (c : Code) (rvs : List ResultVar) (psh rsh : Shape) (np : Nat) (x : psh.den) : Option rsh.den :=
 evC TT Δ n Λ c (psh.put x) fun e s => match e with
  | .ex _ => none
  | .nm => (match retsOf TT s rvs with
   | some vs => rsh.take ⟨numT 0 ((z0u 0 np).map (getT s.tm) ++ vs), s.bl⟩
   | none => none)
  | .rt => (match retsOf TT s rvs with
   | some vs => rsh.take ⟨numT 0 ((z0u 0 np).map (getT s.tm) ++ vs), s.bl⟩
   | none => none)
def allLt (n : Nat) : List Nat → Bool
 | [] => true
 | k :: r => Nat.blt k n && allLt n r
def idsAt : List Nat → List Nat → Bool
 | [], _ => true
 | k :: r, i :: l => Nat.beq i k && idsAt r l
 | _ :: _, [] => false
def takeI (sh : Shape) (m : List Nat) (s : St) : Option sh.den := if idsAt m (sh.ids s) = true then sh.take1 s (sh.ids s) else none
noncomputable def runFBI (TT : Tab) (Δ : Nat → Option z0K) (n : Nat → Bool) (Λ : Nat → Option z0Y) (c : Code) (rvs : List ResultVar) (psh rsh : Shape) (m : List Nat) (np : Nat) (x : psh.den) : Option rsh.den :=
 evC TT Δ n Λ c (psh.put x) fun e s => match e with
  | .ex _ => none
  | .nm => (match retsOf TT s rvs with
   | some vs => takeI rsh m ⟨numT 0 ((z0u 0 np).map (getT s.tm) ++ vs), s.bl⟩
   | none => none)
  | .rt => (match retsOf TT s rvs with
   | some vs => takeI rsh m ⟨numT 0 ((z0u 0 np).map (getT s.tm) ++ vs), s.bl⟩
   | none => none)
def rootOf : SV → SV → Option (Nat × Nat)
 | .rf a, .rf b => some (a, b)
 | .pt a _, .pt b _ => some (a, b)
 | .rz a _, .rz b _ => some (a, b)
 | _, _ => none
def z5P : (l : List SB) → denB l → Nat → Option Nat
 | .row _ _ :: _, x, 0 => some x.1.length
 | _ :: r, x, k + 1 => z5P r x.2 k
 | _, _, _ => none
def keepsLen (pb rb : List SB) (y : denB pb) (z : denB rb) : Nat → List (Nat × SV) → List (Nat × SV) → Bool
 | np + 1, p :: r, p' :: r' => (match p.2, p'.2 with
  | .rz a _, .rz b _ => (match z5P pb y a, z5P rb z b with
   | some n, some n' => Nat.beq n n'
   | _, _ => false)
  | _, _ => true) && keepsLen pb rb y z np r r'
 | _, _, _ => true
theorem z8b : ∀ (l : List SB) (x : denB l) (k n : Nat), z5P l x k = some n → ∃ (t : Ty) (e : Nat) (xs : List t.den), getB (putB l x) k = .row t e xs true ∧ xs.length = n
 | [], _, k, n, h => by cases k <;> cases h
 | .row t e :: _, x, 0, n, h => by
  injection h with h
  exact ⟨t, e, x.1, rfl, h⟩
 | .box _ _ :: _, _, 0, _, h => by cases h
 | .it :: _, _, 0, _, h => by cases h
 | .map _ _ _ :: _, _, 0, _, h => by cases h
 | a :: r, x, k + 1, n, h => by
  have h : z5P r x.2 k = some n := by cases a <;> exact h
  exact z8b r x.2 k n h
theorem z5O {X keep : Nat → Prop} {w0 w : World} {ι : Nat → Option Value} {l : List SB} {x : denB l} (h : HRel X keep w0 ι (getB (putB l x)) w) {k n : Nat} (hl : z5P l x k = some n) {A : Option Addr} {n' c : Nat} (hι : ι k = some (.slice A n' c)) : n' = n := by
 obtain ⟨t, e, xs, h1, h2⟩ := z8b l x k n hl
 have hB := h.bl k
 rw [h1] at hB
 obtain ⟨v, cs, b1, b2, _⟩ := hB
 rw [hι] at b1
 injection b1 with b1
 subst b1
 rw [← h2]
 rcases b2.2 with ⟨q, q'⟩ | ⟨g, cap, cur, q, _⟩
 ·injection q with _ q1 _
  omega
 ·injection q
theorem z6Q {pb rb : List SB} {y : denB pb} {z : denB rb} : ∀ {np : Nat} {l l' : List (Nat × SV)}, keepsLen pb rb y z np l l' = true → ∀ (i t t' a b sz sz' : Nat), i < np → l[i]? = some (t, .rz a sz) → l'[i]? = some (t', .rz b sz') → ∃ n, z5P pb y a = some n ∧ z5P rb z b = some n
 | 0, _, _, _, i, _, _, _, _, _, _, hi, _, _ => by omega
 | np + 1, [], _, _, i, _, _, _, _, _, _, _, h1, _ => by simp at h1
 | np + 1, _ :: _, [], _, i, _, _, _, _, _, _, _, _, h2 => by simp at h2
 | np + 1, p :: r, p' :: r', h, i, t, t', a, b, sz, sz', hi, h1, h2 => by
  simp only [keepsLen, Bool.and_eq_true] at h
  cases i with
  | zero =>
   simp only [List.getElem?_cons_zero, Option.some.injEq] at h1 h2
   subst h1; subst h2
   have h := h.1
   simp only at h
   split at h
   ·rename_i n n' q1 q2
    have := Nat.eq_of_beq_eq_true h
    subst this
    exact ⟨n, q1, q2⟩
   ·cases h
  | succ i => exact z6Q h.2 i t t' a b sz sz' (by omega) (by simpa using h1) (by simpa using h2)
def rootAt (j k : Nat) : Nat → List (Nat × SV) → List (Nat × SV) → Bool
 | 0, _, _ => false
 | np + 1, p :: r, p' :: r' => (match rootOf p'.2 p.2 with
  | some (a, b) => Nat.beq a j && Nat.beq b k
  | none => false) || rootAt j k np r r'
 | _, _, _ => false
def z6w (psh rsh : Shape) (np : Nat) : Nat → List Nat → Bool
 | _, [] => true
 | j, k :: r => rootAt j k np psh.sl rsh.sl && z6w psh rsh np (j + 1) r
section
variable {w' : World} {ok ok' : Nat → Prop} {ι2 ι'' : Nat → Option Value} {fl : Bool} {f : Nat → Nat}
mutual
theorem SV.re_rel (hok : fl = false → ∀ b, ok b → ok' b) (hι : ∀ b v, ι2 b = some v → ι'' (f b) = some v) : ∀ (sv : SV) (x : sv.den) (u : Value), (fl = true → sv.flat = true) → RelV w' ok ι2 (sv.put x) u → RelV w' ok' ι'' (sv.re f x) u
 | .d agg t, x, u, hf, h => avD_mv hok hf h
 | .rs b sz, p, u, _, h => by
  simp only [SV.put, SV.re, RelV] at h ⊢
  obtain ⟨A, n, c, A', c', h1, h2⟩ := h
  exact ⟨A, n, c, A', c', hι _ _ h1, h2⟩
 | .rz b sz, p, u, _, h => by
  simp only [SV.put, SV.re, RelV] at h ⊢
  obtain ⟨A, n, c, A', c', h1, h2⟩ := h
  exact ⟨A, n, c, A', c', hι _ _ h1, h2⟩
 | .fn g cs, x, u, hf, h => by
  simp only [SV.put, SV.re, RelV] at h ⊢
  obtain ⟨us, e, h1⟩ := h
  exact ⟨us, e, SV.z6z hok hι cs x us hf h1⟩
 | .rf b, x, u, _, h => by
  simp only [SV.put, SV.re, RelV] at h ⊢
  exact ⟨hι _ _ h.1, h.2⟩
 | .pt b o, x, u, _, h => by
  simp only [SV.put, SV.re, RelV] at h ⊢
  obtain ⟨g, h1, h2⟩ := h
  exact ⟨g, hι _ _ h1, h2⟩
 | .ud, x, u, _, h => by
  simp only [SV.put, SV.re, RelV] at h ⊢
  exact h
 | .mp b, x, u, _, h => by
  simp only [SV.put, SV.re, RelV] at h ⊢
  obtain ⟨g, h1, h2⟩ := h
  exact ⟨g, hι _ _ h1, h2⟩
 | .np, x, u, _, h => by
  simp only [SV.put, SV.re, RelV] at h ⊢
  exact h
 | .mnil, x, u, _, h => by
  simp only [SV.put, SV.re, RelV] at h ⊢
  exact h
 | .nl, x, u, _, h => by
  simp only [SV.put, SV.re, RelV] at h ⊢
  exact h
 | .ro b, x, u, _, h => by
  simp only [SV.put, SV.re, RelV] at h ⊢
  obtain ⟨arr, h1, h2⟩ := h
  exact ⟨arr, hι _ _ h1, h2⟩
 | .fs b sz, p, u, _, h => by
  simp only [SV.put, SV.re, RelV] at h ⊢
  obtain ⟨A', c', h1, h2, h3⟩ := h
  refine ⟨A', c', h1, h2, fun q => ?_⟩
  obtain ⟨arr, g, n, c, k1, k2⟩ := h3 q
  exact ⟨arr, g, n, c, hι _ _ k1, k2⟩
 | .ag cs, x, u, hf, h => by
  simp only [SV.put, SV.re, RelV] at h ⊢
  obtain ⟨us, e, h1⟩ := h
  exact ⟨us, e, SV.z6z hok hι cs x us hf h1⟩
 | .ve cs, x, u, hf, h => by
  have hfl : fl = false := by
   cases h0 : fl with
   | false => rfl
   | true => have := hf h0; simp [SV.flat] at this
  simp only [SV.put, SV.re, RelV] at h ⊢
  obtain ⟨g, o, us, e, h0, h1, h2⟩ := h
  exact ⟨g, o, us, e, hok hfl g h0, SV.z6z hok hι cs x us (fun q => by rw [hfl] at q; cases q) h1, h2⟩
theorem SV.z6z (hok : fl = false → ∀ b, ok b → ok' b) (hι : ∀ b v, ι2 b = some v → ι'' (f b) = some v) : ∀ (l : List SV) (x : SV.denL l) (us : List Value), (fl = true → SV.flatL l = true) → RelL w' ok ι2 (SV.putL l x) us → RelL w' ok' ι'' (SV.reL f l x) us
 | [], x, us, _, h => by simpa only [SV.putL, SV.reL, RelL] using h
 | a :: r, x, us, hf, h => by
  simp only [SV.putL, SV.reL, RelL] at h ⊢
  obtain ⟨v, vr, e, h1, h2⟩ := h
  have hf' : fl = true → a.flat = true ∧ SV.flatL r = true := fun q => by
   have := hf q
   simpa only [SV.flatL, Bool.and_eq_true] using this
  exact ⟨v, vr, e, SV.re_rel hok hι a x.1 v (fun q => (hf' q).1) h1, SV.z6z hok hι r x.2 vr (fun q => (hf' q).2) h2⟩
end
theorem SB.re_rel (hok : fl = false → ∀ b, ok b → ok' b) (hι : ∀ b v, ι2 b = some v → ι'' (f b) = some v) {j : Nat} : ∀ (sb : SB) (x : sb.den), (fl = true → sb.flat = true) → RelB w' ok ι2 j (sb.put x) → RelB w' ok' ι'' (f j) (sb.re f x)
 | .row t e, xs, hf, h => by
  obtain ⟨v, cs, h1, h2, h3⟩ := h
  refine ⟨v, cs, hι _ _ h1, h2, z0w (fun x us hx => ?_) h3⟩
  cases hfl : fl with
  | true => exact z3B t x us (hf hfl) hx
  | false => exact z0m (fun _ _ _ _ e => e) (hok hfl) t x us hx
 | .box e cs, x, hf, h => by
  obtain ⟨g, us, h1, h2, h3⟩ := h
  exact ⟨g, us, hι _ _ h1, h2, SV.z6z hok hι cs x us hf h3⟩
 | .it, _, _, _ => trivial
 | .map kt va vt, l, hf, h => by
  obtain ⟨g, es, ck, l', h1, h2, h3, h4, h5, h6⟩ := h
  refine ⟨g, es, ck, l', hι _ _ h1, h2, h3, h4, h5, ?_⟩
  cases hfl : fl with
  | true =>
   have := hf hfl
   simp only [SB.flat, Bool.and_eq_true] at this
   exact RzM_flat this.1 this.2 h6
  | false => exact z3h (fun _ _ _ _ e => e) (hok hfl) h6
 | .nr t t2 e ie, l, hf, h => by
  obtain ⟨arr, u, vs, cs, h1, h2, h3, h4, h5⟩ := h
  refine ⟨arr, u, vs, cs, hι _ _ h1, h2, h3, ?_, h5⟩
  cases hfl : fl with
  | true =>
   have := hf hfl
   simp only [SB.flat, Bool.and_eq_true] at this
   exact NrL_turn (fun x us => z3B t x us this.1) (fun x us => z3B t2 x us this.2) h4
  | false => exact z1L (fun _ _ _ _ e => e) (hok hfl) h4 (fun _ _ _ _ => rfl)
theorem SB.re_bk {C2 C'' : Nat → Blk} {j : Nat} {b : Nat} (hι : ∀ b v, ι2 b = some v → ι'' (f b) = some v) : ∀ (sb : SB) (y : sb.den), RelB w' ok ι2 j (sb.put y) → C'' (f j) = sb.re f y → C2 j = sb.put y → b ∈ bk ι'' C'' (f j) → b ∈ bk ι2 C2 j
 | .row t e, xs, hB, h1, h2, h => by
  obtain ⟨v, cs, hv, _⟩ := hB
  unfold bk at h ⊢
  rw [h1, hι j v hv] at h
  rw [h2, hv]
  exact h
 | .box e cs, x, hB, h1, h2, h => by
  obtain ⟨g, us, hv, _⟩ := hB
  unfold bk at h ⊢
  rw [h1, hι j _ hv] at h
  rw [h2, hv]
  exact h
 | .it, _, _, h1, _, h => by
  rw [z0S h1] at h
  cases h
 | .map kt va vt, l, hB, h1, h2, h => by
  obtain ⟨g, es, ck, l', hv, _⟩ := hB
  unfold bk at h ⊢
  rw [h1, hι j _ hv] at h
  rw [h2, hv]
  exact h
 | .nr t t2 e ie, l, hB, h1, h2, h => by
  obtain ⟨arr, u, vs, cs, hv, _⟩ := hB
  unfold bk at h ⊢
  rw [h1, hι j _ hv] at h
  rw [h2, hv]
  exact h
end
theorem z5m (f : Nat → Nat) : ∀ (l : List SB) (x : denB l), (reB f l x).length = l.length
 | [], _ => rfl
 | _ :: r, x => by simp [reB, z5m f r x.2]
theorem z6A (f : Nat → Nat) : ∀ (l : List SB) (x : denB l) (j : Nat), (getB (reB f l x) j = .dead ∧ l.length ≤ j) ∨ ∃ sb, l[j]? = some sb ∧ ∃ y : sb.den, getB (reB f l x) j = sb.re f y ∧ getB (putB l x) j = sb.put y
 | [], _, j => .inl ⟨rfl, Nat.zero_le j⟩
 | a :: r, x, 0 => .inr ⟨a, rfl, x.1, rfl, rfl⟩
 | a :: r, x, j + 1 => by
  rcases z6A f r x.2 j with h | ⟨sb, h1, y, h2, h3⟩
  ·exact .inl ⟨h.1, by simpa using h.2⟩
  ·exact .inr ⟨sb, by simpa using h1, y, h2, h3⟩
theorem z6V : ∀ (l : List Blk) (k j : Nat), getB (l.drop k) j = getB l (k + j)
 | [], k, j => by simp [getB]
 | b :: r, 0, j => by simp
 | b :: r, k + 1, j => by
  rw [List.drop_succ_cons, z6V r k j, show k + 1 + j = (k + j) + 1 by omega]
  rfl
theorem posM_iff : ∀ {m : List Nat} {k i j : Nat}, posM k i m = some j → i ≤ j ∧ m[j - i]? = some k
 | [], _, _, _, h => by cases h
 | a :: r, k, i, j, h => by
  simp only [posM] at h
  split at h
  ·rename_i hb
   injection h with h
   subst h
   rw [Nat.sub_self, Nat.eq_of_beq_eq_true hb]
   exact ⟨Nat.le_refl _, rfl⟩
  ·obtain ⟨h1, h2⟩ := posM_iff h
   refine ⟨by omega, ?_⟩
   rw [show j - i = (j - (i + 1)) + 1 by omega]
   simpa using h2
theorem z4r (m : List Nat) (bs : List Blk) : ∀ (k : Nat) (l : List Nat), z0U (z3Z m bs k l) = l
 | _, [] => rfl
 | k, i :: r => by simp only [z3Z, z0U, z4r m bs (k + 1) r]
theorem updRe_at (m : List Nat) (bs : List Blk) : ∀ (l : List Nat) (k0 k i : Nat) (C : Nat → Blk), l.Nodup → l[k]? = some i → updC C (z3Z m bs k0 l) i = match posM (k0 + k) 0 m with
  | some j => getB bs j
  | none => .dead
 | [], _, _, _, _, _, h => by simp at h
 | a :: r, k0, 0, i, C, hn, h => by
  simp only [List.getElem?_cons_zero, Option.some.injEq] at h
  subst h
  show updC (setC C a _) (z3Z m bs (k0 + 1) r) a = _
  rw [z1O _ _ _ (by rw [z4r]; exact (List.nodup_cons.1 hn).1), z0e]
  rfl
 | a :: r, k0, k + 1, i, C, hn, h => by
  show updC (setC C a _) (z3Z m bs (k0 + 1) r) i = _
  rw [updRe_at m bs r (k0 + 1) k i _ (List.nodup_cons.1 hn).2 (by simpa using h), show k0 + 1 + k = k0 + (k + 1) by omega]
theorem z7U : ∀ {np : Nat} {j k i : Nat} {l l' : List (Nat × SV)}, rootAt j k np l l' = true → slotsFrom i l = true → slotsFrom i l' = true → ∃ t, i ≤ t ∧ t < i + np ∧ ∃ sv sv', l[t - i]? = some (t, sv) ∧ l'[t - i]? = some (t, sv') ∧ rootOf sv' sv = some (j, k)
 | 0, _, _, _, _, _, h, _, _ => by simp [rootAt] at h
 | np + 1, _, _, _, [], _, h, _, _ => by simp [rootAt] at h
 | np + 1, _, _, _, _ :: _, [], h, _, _ => by simp [rootAt] at h
 | np + 1, j, k, i, p :: r, p' :: r', h, h1, h2 => by
  simp only [slotsFrom, Bool.and_eq_true] at h1 h2
  have e1 := Nat.eq_of_beq_eq_true h1.1
  have e2 := Nat.eq_of_beq_eq_true h2.1
  simp only [rootAt, Bool.or_eq_true] at h
  rcases h with h | h
  ·split at h
   ·rename_i a b hr
    simp only [Bool.and_eq_true] at h
    rw [Nat.eq_of_beq_eq_true h.1, Nat.eq_of_beq_eq_true h.2] at hr
    obtain ⟨t, sv⟩ := p
    obtain ⟨t', sv'⟩ := p'
    simp only at e1 e2 hr
    subst e1
    subst e2
    exact ⟨_, Nat.le_refl _, by omega, sv, sv', by simp, by simp, hr⟩
   ·cases h
  ·obtain ⟨t, q1, q2, sv, sv', q3, q4, q5⟩ := z7U h h1.2 h2.2
   refine ⟨t, by omega, by omega, sv, sv', ?_, ?_, q5⟩
   ·rw [show t - i = (t - (i + 1)) + 1 by omega]; simpa using q3
   ·rw [show t - i = (t - (i + 1)) + 1 by omega]; simpa using q4
theorem z6v {psh rsh : Shape} {np : Nat} : ∀ {m : List Nat} {j0 : Nat}, z6w psh rsh np j0 m = true → ∀ j k, m[j]? = some k → rootAt (j0 + j) k np psh.sl rsh.sl = true
 | [], _, _, j, k, h => by simp at h
 | a :: r, j0, hr, 0, k, h => by
  simp only [List.getElem?_cons_zero, Option.some.injEq] at h
  subst h
  simp only [z6w, Bool.and_eq_true] at hr
  exact hr.1
 | a :: r, j0, hr, j + 1, k, h => by
  simp only [z6w, Bool.and_eq_true] at hr
  have := z6v hr.2 j k (by simpa using h)
  rwa [show j0 + 1 + j = j0 + (j + 1) by omega] at this
theorem putS_at : ∀ (l : List (Nat × SV)) (x : denS l) (i t : Nat) (sv : SV), slotsFrom i l = true → i ≤ t → l[t - i]? = some (t, sv) → ∃ y : sv.den, getT (putS l x) t = sv.put y
 | [], _, _, _, _, _, _, h => by simp at h
 | p :: r, x, i, t, sv, hs, hi, h => by
  simp only [slotsFrom, Bool.and_eq_true] at hs
  have e1 := Nat.eq_of_beq_eq_true hs.1
  rcases Nat.eq_or_lt_of_le hi with e | e
  ·subst e
   rw [Nat.sub_self] at h
   simp only [List.getElem?_cons_zero, Option.some.injEq] at h
   subst h
   refine ⟨x.1, ?_⟩
   simp only [putS, getT]
   rw [if_pos (Nat.beq_refl _)]
  ·rw [show t - i = (t - (i + 1)) + 1 by omega] at h
   obtain ⟨y, hy⟩ := putS_at r x.2 (i + 1) t sv hs.2 (by omega) (by simpa using h)
   refine ⟨y, ?_⟩
   simp only [putS, getT]
   rw [if_neg (fun q => by have := Nat.eq_of_beq_eq_true q; omega)]
   exact hy
theorem reS_rel {w' : World} {ok ok' : Nat → Prop} {ι2 ι'' : Nat → Option Value} {f : Nat → Nat} {fl : Bool} (hok : fl = false → ∀ b, ok b → ok' b) (hι : ∀ b v, ι2 b = some v → ι'' (f b) = some v) :
  ∀ (l : List (Nat × SV)) (x : denS l) (i : Nat) (us : List Value), slotsFrom i l = true → (fl = true → flatS l = true) → us.length = l.length → (∀ t, t < us.length → RelV w' ok ι2 (getT (putS l x) (i + t)) (us.getD t undef)) → RelL w' ok' ι'' (reS f l x) us
 | [], x, i, us, _, _, hl, _ => z0d.2 (List.length_eq_zero_iff.1 hl)
 | p :: r, x, i, us, hs, hf, hl, h => by
  cases us with
  | nil => simp at hl
  | cons u ur =>
   simp only [slotsFrom, Bool.and_eq_true] at hs
   have hp := Nat.eq_of_beq_eq_true hs.1
   have hf' : fl = true → p.2.flat = true ∧ flatS r = true := fun q => by
    have := hf q
    simpa only [flatS, Bool.and_eq_true] using this
   refine z0b.2 ⟨u, ur, rfl, ?_, reS_rel hok hι r x.2 (i + 1) ur hs.2 (fun q => (hf' q).2) (by simpa using hl) fun t ht => ?_⟩
   ·have h0 := h 0 (by simp)
    rw [Nat.add_zero] at h0
    simp only [putS, getT] at h0
    rw [if_pos (by rw [hp]; exact Nat.beq_refl i)] at h0
    exact SV.re_rel hok hι p.2 x.1 u (fun q => (hf' q).1) h0
   ·have h1 := h (t + 1) (by simpa using ht)
    simp only [putS, getT] at h1
    rw [if_neg (fun q => by have := Nat.eq_of_beq_eq_true q; omega)] at h1
    rw [show i + 1 + t = i + (t + 1) by omega]
    simpa using h1
section
variable {X keep : Nat → Prop} {w0 w : World} {ι : Nat → Option Value} {C : Nat → Blk}
theorem z4b {sh : Shape} {T : Nat → AV} {V : Nat → Value} {ρ : List Nat} (h : HRel X keep w0 ι C w) (hT : ∀ t, RelV w (okb X w ι C) ι (T t) (V t)) {x1 : denS sh.sl} {f1 : List (Nat × Blk)} (e1 : takeS C T ρ sh.sl = some (x1, f1))
  {x2 : denB sh.bl} {f2 : List (Nat × Blk)} (e2 : takeB C ρ sh.bl ρ = some (x2, f2)) (hmt : meetN ρ (z0U (f1 ++ f2)) = false) :
  HRel X keep w0 ι (updC C (f1 ++ f2)) w ∧ Ext X ι C w ι (updC C (f1 ++ f2)) w ∧ (∀ i ∈ ρ, updC C (f1 ++ f2) i = C i) ∧ sh.bl.length = ρ.length ∧
  (∀ j b, b ∈ bk (fun j => (ρ[j]?).bind ι) (getB (putB sh.bl x2)) j → ∃ i, ρ[j]? = some i ∧ b ∈ bk ι (updC C (f1 ++ f2)) i) ∧
  (∀ i b j, ρ[j]? = some i → b ∈ bk ι (updC C (f1 ++ f2)) i → b ∈ bk (fun j => (ρ[j]?).bind ι) (getB (putB sh.bl x2)) j) ∧
  ∀ ok' : Nat → Prop, (∀ g, okb X w ι (updC C (f1 ++ f2)) g → ok' g) → (∀ j, RelB w ok' (fun j => (ρ[j]?).bind ι) j (getB (putB sh.bl x2) j)) ∧ ∀ t, RelV w ok' (fun j => (ρ[j]?).bind ι) (getT (putS sh.sl x1) t) (V t) := by
 obtain ⟨a1, a2⟩ := z4a sh.sl _ h (z0v.refl _) hT x1 f1 e1
 obtain ⟨b1, b2, b3⟩ := z4c sh.bl ρ 0 _ a1.1 a1.2.1 (fun k i hk => by rw [Nat.zero_add]; exact hk) x2 f2 e2
 have hF := a1.append b1
 let C1 := updC C (f1 ++ f2)
 have hC1 : C1 = updC (updC C f1) f2 := z0r _ _ _
 let ι' : Nat → Option Value := fun j => (ρ[j]?).bind ι
 have hι' : z3C ρ ι ι' := fun j i e => by show (ρ[j]?).bind ι = _; rw [e]; rfl
 let C' := getB (putB sh.bl x2)
 have hHR : HRel X keep w0 ι C1 w := hF.1
 have same : ∀ i ∈ ρ, C1 i = C i := fun i hi => z1O _ _ _ (z2w hmt i hi)
 have hat : ∀ j i, ρ[j]? = some i → bk ι' C' j = bk ι C1 i := by
  intro j i hi
  have := (b3 C1 (fun _ => True) ι' same hHR.bl (fun _ _ => trivial) (fun _ _ => trivial) hι' j i hi).2 C' (by rw [Nat.zero_add])
  rw [Nat.zero_add] at this
  exact this
 refine ⟨hHR, hF.2.2, same, b2, fun j b hb => ?_, fun i b j hi hb => by rw [hat j i hi]; exact hb, fun ok' hok => ⟨fun j => ?_, ?_⟩⟩
 ·cases hi : ρ[j]? with
  | none =>
   have h1 : C' j = .dead := z2E _ _ (by rw [z0C, b2]; exact List.getElem?_eq_none_iff.1 hi)
   rw [z0S h1] at hb
   cases hb
  | some i =>
   refine ⟨i, rfl, ?_⟩
   rw [← hat j i hi]
   exact hb
 ·cases hi : ρ[j]? with
  | none =>
   have h1 : C' j = .dead := z2E _ _ (by rw [z0C, b2]; exact List.getElem?_eq_none_iff.1 hi)
   show RelB w ok' ι' j (C' j)
   rw [h1]
   trivial
  | some i =>
   have := (b3 C1 ok' ι' same hHR.bl (fun g hg => hok g (by show okb X w ι C1 g; rw [hC1]; exact hg)) hok hι' j i hi).1
   rw [Nat.zero_add] at this
   exact this
 ·exact a2 ok' ι' (fun g hg => hok g (by show okb X w ι C1 g; rw [hC1]; exact b1.2.2.ok g hg)) hι'
end
end Go.Proofs.Rf
namespace Go.Proofs.Rf
open Go Go.RowKit
structure FnOKB (P : Program) (f : Nat) (fn : Func) (c : Code) (psh rsh : Shape) (m : List Nat) (np : Nat) : Prop where
 at_ : P.funcs[f]? = some fn
 body : fn.body = some c
 name : (fn.name == "runtime.NumGoroutine") = false
 len : Nat.ble psh.sl.length fn.ntmps = true
 slots : slotsFrom 0 psh.sl = true
 slotr : slotsFrom 0 rsh.sl = true
 res : Nat.beq rsh.sl.length (np + fn.results.toList.length) = true
 pin : Nat.ble np psh.sl.length = true
 roots : z6w psh rsh np 0 m = true
 nd : nodupN m = true
 ml : Nat.ble m.length rsh.bl.length = true
theorem z1o (k : Nat) : ∀ n, (z0u k n).length = n
 | 0 => rfl
 | n + 1 => by simp [z0u, z1o (k + 1) n]
theorem z5n : ∀ (k n i : Nat), i < n → (z0u k n)[i]? = some (k + i)
 | k, 0, i, h => by omega
 | k, n + 1, 0, _ => by simp [z0u]
 | k, n + 1, i + 1, h => by
  simp only [z0u, List.getElem?_cons_succ]
  rw [z5n (k + 1) n i (by omega), show k + 1 + i = k + (i + 1) by omega]
theorem z5A {w : World} {ok : Nat → Prop} {ι : Nat → Option Value} {T : Nat → AV} {V : Nat → Value} (hT : ∀ t, RelV w ok ι (T t) (V t)) : ∀ l : List Nat, RelL w ok ι (l.map T) (l.map V)
 | [] => z0d.2 rfl
 | x :: r => z0b.2 ⟨_, _, rfl, hT x, z5A hT r⟩
section
variable {X keep : Nat → Prop} {w0 w : World} {ι : Nat → Option Value} {C : Nat → Blk} {P : Program} {TT : Tab} {Δ : Nat → Option z0K}
theorem mkCallB_ok (hm : P.follows .mixedOrders = true) (hP : z0q P TT) (hΔ : z0O P Δ) {Λ : Nat → Option z0Y} {f : Nat} {fn : Func} {c : Code} {psh rsh : Shape} {m : List Nat} {np : Nat} (hF : FnOKB P f fn c psh rsh m np)
  (hL : ∀ n : z0N, n.ok = z0I (upTo fn.ntmps) (z0u 0 np) → n.marks = true → LoopsIn P n none Λ c) {F : psh.den → Option rsh.den} (hrun : ∀ x z, F x = some z → runFB TT Δ (z0I (upTo fn.ntmps) (z0u 0 np)) Λ c fn.results.toList psh rsh np x = some z ∧ keepsLen psh.bl rsh.bl x.2 z.2 np psh.sl rsh.sl = true) : z0a P f (mkCallB psh rsh m np F) := by
 refine ⟨⟨fn, hF.at_, hF.name, by rw [hF.body]; rfl⟩, ?_, ?_⟩
 ·intro X keep w0 w ι C nb args vs e h hv hco hn
  unfold mkCallB at hco
  generalize hρ : blkB C psh.bl 0 (blkS (getT (numT 0 args)) psh.sl []) = ρ at hco
  split at hco
  ·rename_i hc1
   simp only [Bool.and_eq_true] at hc1
   have hnd := z2n hc1.1
   have hal := Nat.eq_of_beq_eq_true hc1.2
   split at hco
   ·rename_i x fz1 e1
    split at hco
    ·rename_i y fz2 e2
     split at hco
     ·cases hco
     ·rename_i hmt
      have hmt : meetN ρ (z0U (fz1 ++ fz2)) = false := by simpa using hmt
      obtain ⟨z, hz, hco⟩ := z0H hco
      injection hco with hco
      subst hco
      let V : Nat → Value := fun t => vs.getD t undef
      have hTV : ∀ t, RelV w (okb X w ι C) ι (getT (numT 0 args) t) (V t) := fun t => by
       have := (z1u args vs 0 t hv).1
       rwa [Nat.zero_add] at this
      obtain ⟨H1, E1, same, hbl, hbk, hbk', hrel⟩ := z4b h hTV e1 e2 hmt
      have hvl : vs.length = psh.sl.length := (z0j hv).trans hal
      have hnt : psh.sl.length ≤ fn.ntmps := Nat.le_of_ble_eq_true hF.len
      have hnp : np ≤ psh.sl.length := Nat.le_of_ble_eq_true hF.pin
      let C1 := updC C (fz1 ++ fz2)
      let ι' : Nat → Option Value := fun j => (ρ[j]?).bind ι
      let C' := getB (putB psh.bl y)
      let X' : Nat → Prop := fun b => b < w.heap.size ∧ ¬ okb X w ι C1 b ∧ ¬ owned ι' C' b
      let keep' : Nat → Prop := fun b => b < w.heap.size ∧ ¬ owned ι' C' b
      have hown : ∀ b, owned ι' C' b → owned ι C1 b := by
       rintro b ⟨j, hj⟩
       obtain ⟨i, _, hi⟩ := hbk j b hj
       exact ⟨i, hi⟩
      have hokc : ∀ b, okb X w ι C1 b → okb X' w ι' C' b := fun b hb => ⟨hb.1, fun ho => hb.2.1 (hown b ho), fun hx => hx.2.1 hb⟩
      obtain ⟨hB, hT⟩ := hrel (okb X' w ι' C') hokc
      have Hc : HRel X' keep' w ι' C' w := ⟨hB, fun j j' b h1 h2 => by
        obtain ⟨i, hi, hb⟩ := hbk j b h1
        obtain ⟨i', hi', hb'⟩ := hbk j' b h2
        have e := H1.inj i i' b hb hb'
        subst e
        have hlt := (List.getElem?_eq_some_iff.1 hi).1
        exact (List.getElem?_inj hlt hnd).1 (hi.trans hi'.symm), Kept.refl _ _, fun b hb hk => hk.2 hb, fun b hb => hb.1, fun b hb hx => hx.2.2 hb, fun b hb => hb.1, H1.gl.mono fun g hg => ⟨hokc g hg, rfl⟩⟩
      let a0 : Act := { tmps := vs.toArray ++ Array.replicate (fn.ntmps - vs.toArray.size) undef, defers := [] }
      have ha0 : ∀ t, a0.tmps.getD t undef = V t := by
       intro t
       show (vs.toArray ++ Array.replicate (fn.ntmps - vs.toArray.size) undef).getD t undef = vs.getD t undef
       rw [Array.getD_eq_getD_getElem?, List.getD_eq_getElem?_getD]
       rcases Nat.lt_or_ge t vs.length with ht | ht
       ·rw [Array.getElem?_append_left (by simpa using ht)]
        simp
       ·rw [Array.getElem?_append_right (by simpa using ht), List.getElem?_eq_none ht, Array.getElem?_replicate]
        split <;> rfl
      let n : z0N := z2L (z0M w.heap.size fn.ntmps) (z0u 0 np) a0
      have hsz0 : a0.tmps.size = fn.ntmps := by
       simp only [a0, Array.size_append, Array.size_replicate, List.size_toArray]
       omega
      have hjl : (psh.put (x, y)).bl.length = ρ.length := by rw [← hbl]; exact z0C _ _
      have S0 : SRel X' keep' w n ι' (psh.put (x, y)) a0 w := by
       refine ⟨⟨Hc, fun t => ?_, ⟨hsz0, fun _ _ => rfl⟩, Nat.le_refl _, fun _ => rfl, trivial⟩, fun j hj => ?_⟩
       ·rw [ha0 t]; exact hT t
       ·show (ρ[j]?).bind ι = none
        rw [List.getElem?_eq_none (by omega)]
        rfl
      have hev := (hrun (x, y) z hz).1
      unfold runFB at hev
      refine callsIn_wide.1 (callsIn_of_wp_marks (F := WF none) (n := 0) hF.at_ hF.body trivial (z0L (n := n) hm hP hΔ c (hL n rfl rfl) _ _ _ a0 w ι' keep' w S0 hev fun e s' a' w1 ι1 k1 v1 hlat hk h1 => ?_) rfl)
      have hsr : SRel X' keep' w n ι1 s' { tmps := a'.tmps, defers := [] } w1 :=
       ⟨⟨h1.f.h.weaken hlat.mono hlat.kept (fun b hb => hb.1) (fun b hb => hb.1), h1.f.tm, h1.f.size, Nat.le_refl _, fun _ => rfl, trivial⟩, h1.dom⟩
      have fin : ∀ (w' : World) (ι3 : Nat → Option Value), SRel X' keep' w n ι3 s' { tmps := a'.tmps, defers := [] } w' → (match retsOf TT s' fn.results.toList with
        | some vs => rsh.take ⟨numT 0 ((z0u 0 np).map (getT s'.tm) ++ vs), s'.bl⟩
        | none => none) = some z → ∃ v, (results fn a'.tmps).run P w' = .ok v w' ∧ ∃ v', Ending.returned v = .returned v' ∧ Out X keep w0 ι C w nb ⟨retV ((reS (rnB ρ m nb) rsh.sl z.1).drop np),
         (if rsh.flat = true then [] else fz1 ++ fz2) ++ z3Z m (reB (rnB ρ m nb) rsh.bl z.2) 0 ρ, (reB (rnB ρ m nb) rsh.bl z.2).drop m.length⟩ v' w' := by
       intro w' ι3 h' hk
       split at hk
       ·rename_i rs hrs
        obtain ⟨us0, v, r1, r2, r3⟩ := z2i hP h' hrs
        refine ⟨v, r1, v, rfl, ?_⟩
        let us : List Value := (z0u 0 np).map (fun t => a'.tmps.getD t undef) ++ us0
        have hus : RelL w' (okb X' w' ι3 (getB s'.bl)) ι3 ((z0u 0 np).map (getT s'.tm) ++ rs) us := z0B (z5A h'.f.tm _) r2
        let a2 : Act := { tmps := us.toArray, defers := [] }
        have ha2 : ∀ t, a2.tmps.getD t undef = us.getD t undef := fun t => by
         show us.toArray.getD t undef = _
         rw [Array.getD_eq_getD_getElem?, List.getD_eq_getElem?_getD]
         simp
        have S1 : SRel X' keep' w (z0M w.heap.size us.length) ι3 ⟨numT 0 ((z0u 0 np).map (getT s'.tm) ++ rs), s'.bl⟩ a2 w' := by
         refine ⟨⟨h'.f.h, fun t => ?_, (by show a2.tmps.size = us.length; simp [a2]), Nat.le_refl _, fun _ => rfl, trivial⟩, h'.dom⟩
         have := (z1u _ us 0 t hus).1
         rw [Nat.zero_add] at this
         rw [ha2]
         exact this
        obtain ⟨ι2, S2⟩ := Shape.z0A S1 hk
        have hrl : us0.length = fn.results.toList.length := by
         have h2 := z0j r2
         have h3 : ∀ {l : List ResultVar} {vs : List AV}, retsOf TT s' l = some vs → vs.length = l.length := by
          intro l
          induction l with
          | nil => intro vs hvs; simp only [retsOf] at hvs; injection hvs with hvs; subst hvs; rfl
          | cons q l ih =>
           intro vs hvs
           simp only [retsOf] at hvs
           split at hvs
           ·split at hvs
            ·rename_i vr hvr
             injection hvs with hvs
             subst hvs
             simp [ih hvr]
            ·cases hvs
           ·cases hvs
         have h4 := h3 hrs
         omega
        have hul : us.length = rsh.sl.length := by
         have h1 := Nat.eq_of_beq_eq_true hF.res
         simp only [us, List.length_append, List.length_map, z1o]
         omega
        have hpin : ∀ t, t < np → us.getD t undef = V t := by
         intro t ht
         have h1 := h'.f.size.2 t (List.mem_of_getElem? (show (z0u 0 np)[t]? = some t by rw [z5n 0 np t ht, Nat.zero_add]))
         rw [ha0] at h1
         rw [← h1, List.getD_eq_getElem?_getD, List.getElem?_append_left (by simpa [z1o] using ht), List.getElem?_map, z5n 0 np t ht, Nat.zero_add]
         rfl
        have hroot : ∀ j k, m[j]? = some k → ∃ i u, ρ[k]? = some i ∧ ι2 j = some u ∧ ι i = some u := by
         intro j k hjk
         have hra := z6v hF.roots j k hjk
         rw [Nat.zero_add] at hra
         obtain ⟨t, _, ht, sv, sv', q1, q2, q3⟩ := z7U hra hF.slots hF.slotr
         rw [Nat.zero_add] at ht
         obtain ⟨y1, g1⟩ := putS_at psh.sl x 0 t sv hF.slots (Nat.zero_le _) q1
         obtain ⟨y2, g2⟩ := putS_at rsh.sl z.1 0 t sv' hF.slotr (Nat.zero_le _) q2
         have l1 := hT t
         have l2 := S2.f.tm t
         rw [ha2, hpin t ht] at l2
         have g2 : getT (rsh.put z).tm t = sv'.put y2 := g2
         rw [g1] at l1
         rw [g2] at l2
         have hone : ∃ u, ι2 j = some u ∧ ι' k = some u := by
          cases sv' <;> cases sv <;> simp only [rootOf, Option.some.injEq, Prod.mk.injEq] at q3 <;> (try (cases q3; done))
          ·obtain ⟨q3, q4⟩ := q3
           subst q3; subst q4
           simp only [SV.put, RelV] at l1 l2
           exact ⟨_, l2.1, l1.1⟩
          ·obtain ⟨q3, q4⟩ := q3
           subst q3; subst q4
           obtain ⟨nn, w1, w2⟩ := z6Q (hrun _ _ hz).2 t _ _ _ _ _ _ ht (by rw [Nat.sub_zero] at q1; exact q1) (by rw [Nat.sub_zero] at q2; exact q2)
           simp only [SV.put, RelV] at l1 l2
           obtain ⟨A, n1, c, A', c', k1, _, k3, _, _, k6⟩ := l1
           obtain ⟨A2, n2, c2, A2', c2', j1, _, j3, _, _, j6⟩ := l2
           obtain ⟨rfl, rfl⟩ := k6 trivial
           obtain ⟨rfl, rfl⟩ := j6 trivial
           rw [k3] at j3
           injection j3 with j3 _ j5
           subst j3; subst j5
           have e1 := z5O Hc w1 k1
           have e2 := z5O S2.f.h w2 j1
           subst e1; subst e2
           exact ⟨_, j1, k1⟩
          ·obtain ⟨q3, q4⟩ := q3
           subst q3; subst q4
           simp only [SV.put, RelV] at l1 l2
           obtain ⟨g, k1, k2⟩ := l1
           obtain ⟨g', k3, k4⟩ := l2
           rw [k2] at k4
           injection k4 with k4
           injection k4 with k4
           injection k4 with k4
           rw [k4] at k1
           exact ⟨_, k3, k1⟩
         obtain ⟨u, u1, u2⟩ := hone
         have u2 : (ρ[k]?).bind ι = some u := u2
         obtain ⟨i, i1, i2⟩ := z0H u2
         exact ⟨i, u, i1, u1, i2⟩
        let fl := rsh.flat
        let fz := fz1 ++ fz2
        let Cz := updC C (if fl = true then [] else fz)
        have hz' : HRel X keep w0 ι Cz w ∧ Ext X ι C w ι Cz w ∧ ∀ i ∈ ρ, Cz i = C i := by
         show HRel X keep w0 ι (updC C (if fl = true then [] else fz)) w ∧ Ext X ι C w ι (updC C (if fl = true then [] else fz)) w ∧ ∀ i ∈ ρ, (updC C (if fl = true then [] else fz)) i = C i
         cases fl
         ·exact ⟨H1, E1, same⟩
         ·exact ⟨h, Ext.refl _ _ _ _, fun _ _ => rfl⟩
        obtain ⟨Hz, Ez, samez⟩ := hz'
        let bs := reB (rnB ρ m nb) rsh.bl z.2
        let new := bs.drop m.length
        have hml : m.length ≤ rsh.bl.length := Nat.le_of_ble_eq_true hF.ml
        have hbsl : bs.length = rsh.bl.length := z5m _ _ _
        have hnl : new.length = rsh.bl.length - m.length := by show (bs.drop m.length).length = _; rw [List.length_drop, hbsl]
        let ι'' : Nat → Option Value := fun k => if nb ≤ k ∧ k < nb + new.length then ι2 (m.length + (k - nb)) else ι k
        have hin : ∀ j, j < new.length → ι'' (nb + j) = ι2 (m.length + j) := by
         intro j hj
         show (if nb ≤ nb + j ∧ nb + j < nb + new.length then ι2 (m.length + (nb + j - nb)) else ι (nb + j)) = _
         rw [if_pos (by omega), Nat.add_sub_cancel_left]
        have hou : ∀ k, ¬ (nb ≤ k ∧ k < nb + new.length) → ι'' k = ι k := fun k hk => if_neg hk
        let upd := (if fl = true then [] else fz) ++ z3Z m bs 0 ρ
        let C'' := addC (updC C upd) nb new
        have hCu : updC C upd = updC Cz (z3Z m bs 0 ρ) := z0r _ _ _
        have hsm : ∀ i u, ι i = some u → ¬ (nb ≤ i ∧ i < nb + new.length) := fun i u hi hq => by rw [hn i hq.1 hq.2] at hi; cases hi
        have hrn : ∀ j v, ι2 j = some v → ι'' (rnB ρ m nb j) = some v := by
         intro j v hv
         have hjl : j < rsh.bl.length := by
          rcases Nat.lt_or_ge j rsh.bl.length with q | q
          ·exact q
          ·rw [S2.dom j (by rw [show (rsh.put z).bl.length = rsh.bl.length from z0C _ _]; exact q)] at hv; cases hv
         unfold rnB
         cases hmj : m[j]? with
         | some k =>
          obtain ⟨i, u, i1, i2, i3⟩ := hroot j k hmj
          rw [hv] at i2
          injection i2 with i2
          subst i2
          simp only
          rw [List.getD_eq_getElem?_getD, i1]
          show ι'' i = some v
          rw [hou i (hsm i _ i3), i3]
         | none =>
          have hge : m.length ≤ j := List.getElem?_eq_none_iff.1 hmj
          simp only
          rw [hin (j - m.length) (by omega), show m.length + (j - m.length) = j by omega, hv]
        let S : Nat → Prop := fun i => i ∈ ρ ∨ (nb ≤ i ∧ i < nb + new.length)
        have hCat : ∀ i, S i → C'' i = .dead ∨ ∃ j, rnB ρ m nb j = i ∧ C'' i = getB bs j := by
         intro i hi
         by_cases hq : nb ≤ i ∧ i < nb + new.length
         ·right
          obtain ⟨j, rfl⟩ : ∃ j, i = nb + j := ⟨i - nb, by omega⟩
          refine ⟨m.length + j, ?_, ?_⟩
          ·unfold rnB
           rw [List.getElem?_eq_none (by omega)]
           simp only
           omega
          ·show addC (updC C upd) nb new (nb + j) = _
           rw [addC_at new _ nb j (by omega)]
           exact z6V bs m.length j
         ·have hi : i ∈ ρ := hi.resolve_right hq
          obtain ⟨k, hk⟩ := List.mem_iff_getElem?.1 hi
          have hCi : C'' i = match posM (0 + k) 0 m with
            | some j => getB bs j
            | none => .dead := by
           show addC (updC C upd) nb new i = _
           rw [z1F _ _ _ _ hq, hCu]
           exact updRe_at m bs ρ 0 k i Cz hnd hk
          rw [Nat.zero_add] at hCi
          cases hp : posM k 0 m with
          | none => rw [hp] at hCi; exact .inl hCi
          | some j =>
           rw [hp] at hCi
           right
           refine ⟨j, ?_, hCi⟩
           have := (posM_iff hp).2
           rw [Nat.sub_zero] at this
           unfold rnB
           rw [this]
           simp only
           rw [List.getD_eq_getElem?_getD, hk]
           rfl
        have hbk2 : ∀ i b, S i → b ∈ bk ι'' C'' i → ∃ j, rnB ρ m nb j = i ∧ b ∈ bk ι2 (getB (putB rsh.bl z.2)) j := by
         intro i b hi hb
         rcases hCat i hi with q | ⟨j, q1, q2⟩
         ·rw [z0S q] at hb; cases hb
         ·refine ⟨j, q1, ?_⟩
          rcases z6A (rnB ρ m nb) rsh.bl z.2 j with g | ⟨sb, g1, y', g2, g3⟩
          ·rw [z0S (q2.trans g.1)] at hb; cases hb
          ·have hB := S2.f.h.bl j
           rw [show getB (rsh.put z).bl j = _ from g3] at hB
           subst q1
           exact SB.re_bk hrn sb y' hB (q2.trans g2) g3 hb
        have hCo : ∀ i, ¬ S i → C'' i = Cz i := by
         intro i hi
         show addC (updC C upd) nb new i = _
         rw [z1F _ _ _ _ (fun q => hi (.inr q)), hCu]
         exact z1O _ _ _ (by rw [z4r]; exact fun q => hi (.inl q))
        have hιo : ∀ k, ¬ S k → ι'' k = ι k := fun k hk => hou k fun q => hk (.inr q)
        have hownz : ∀ b, owned ι' C' b → ∃ i ∈ ρ, b ∈ bk ι Cz i := by
         rintro b ⟨j, hj⟩
         obtain ⟨i, hi, hb⟩ := hbk j b hj
         have hm : i ∈ ρ := List.mem_of_getElem? hi
         exact ⟨i, hm, by rw [z0D (ι := ι) (ι' := ι) ((samez i hm).trans (same i hm).symm) rfl]; exact hb⟩
        have okT : fl = false → ∀ b, okb X' w' ι2 (getB (rsh.put z).bl) b → okb X w' ι'' C'' b := by
         intro hfl b hb
         have hCz : Cz = C1 := by show updC C (if fl = true then [] else fz) = _; rw [hfl]; rfl
         have hcase : b < w.heap.size → okb X w ι C1 b ∨ owned ι' C' b := fun hl => Classical.byContradiction fun q => hb.2.2 ⟨hl, fun q1 => q (.inl q1), fun q1 => q (.inr q1)⟩
         refine ⟨hb.1, ?_, fun hx => ?_⟩
         ·rintro ⟨i, hi⟩
          by_cases hs : S i
          ·obtain ⟨j, _, hj⟩ := hbk2 i b hs hi
           exact hb.2.1 ⟨j, hj⟩
          ·rw [z0D (hCo i hs) (hιo i hs)] at hi
           rcases hcase (Hz.lt ⟨i, hi⟩) with q | q
           ·rw [hCz] at hi
            exact q.2.1 ⟨i, hi⟩
           ·obtain ⟨i', hm, hi'⟩ := hownz b q
            exact hs (.inl (Hz.inj i i' b hi hi' ▸ hm))
         ·rcases hcase (Nat.lt_of_lt_of_le (h.xl b hx) h.fr.size) with q | q
          ·exact q.2.2 hx
          ·obtain ⟨i', hm, hi'⟩ := hownz b q
           exact Hz.ox b ⟨i', hi'⟩ hx
        have hfl2 : fl = true → flatS rsh.sl = true ∧ flatB rsh.bl = true := by
         intro q
         have q : (flatS rsh.sl && flatB rsh.bl) = true := q
         simpa only [Bool.and_eq_true] using q
        obtain ⟨HF, EF⟩ := Hz.step (C' := C'') (ι' := ι'') (w' := w') S S2.f.h.fr.os S2.f.h.fr.tape S2.f.h.fr.output S2.f.h.fr.size hCo
         (fun k v hk => by rw [hou k (hsm k v hk)]; exact hk) hιo
         (by
          intro k b hs hb
          obtain ⟨j, _, hj⟩ := hbk2 k b hs hb
          have hnk := S2.f.h.own b ⟨j, hj⟩
          by_cases hl : b < w.heap.size
          ·right
           have ho : owned ι' C' b := Classical.byContradiction fun q => hnk ⟨hl, q⟩
           obtain ⟨i, hm, hi⟩ := hownz b ho
           exact ⟨i, .inl hm, hi⟩
          ·exact .inl (Nat.le_of_not_lt hl))
         (by
          intro k k' b hs hs' hb hb'
          obtain ⟨j, q, hj⟩ := hbk2 k b hs hb
          obtain ⟨j', q', hj'⟩ := hbk2 k' b hs' hb'
          rw [← q, ← q', S2.f.h.inj j j' b hj hj'])
         (by
          intro b hb hno
          refine S2.f.h.fr.block b ⟨hb, fun ho => ?_⟩ hb
          obtain ⟨i, hm, hi⟩ := hownz b ho
          exact hno i (.inl hm) hi)
         (by
          intro _ k hs
          rcases hCat k hs with q | ⟨j, q1, q2⟩
          ·rw [q]; trivial
          ·rcases z6A (rnB ρ m nb) rsh.bl z.2 j with g | ⟨sb, g1, y', g2, g3⟩
           ·rw [q2.trans g.1]; trivial
           ·have hB := S2.f.h.bl j
            rw [show getB (rsh.put z).bl j = _ from g3] at hB
            rw [q2.trans g2, ← q1]
            exact SB.re_rel (fl := fl) okT hrn sb y' (fun q => z4S (hfl2 q).2 g1) hB)
        have hret : RelL w' (okb X w' ι'' C'') ι'' (reS (rnB ρ m nb) rsh.sl z.1) us := by
         refine reS_rel (ι2 := ι2) (fl := fl) okT hrn rsh.sl z.1 0 us hF.slotr (fun q => (hfl2 q).1) hul fun t _ => ?_
         rw [Nat.zero_add]
         have := S2.f.tm t
         rw [ha2] at this
         exact this
        have hret2 := z1c hret np
        have hdr : us.drop np = us0 := by
         show ((z0u 0 np).map (fun t => a'.tmps.getD t undef) ++ us0).drop np = us0
         rw [List.drop_left' (by simp [z1o])]
        rw [hdr] at hret2
        refine ⟨ι'', HF, Ez.trans EF, ?_, hou⟩
        rw [r3]
        exact retV_rel hret2
       ·cases hk
      have leave : (match retsOf TT s' fn.results.toList with
        | some vs => rsh.take ⟨numT 0 ((z0u 0 np).map (getT s'.tm) ++ vs), s'.bl⟩
        | none => none) = some z → LeavesInM (WF none) 0 P fn a'.tmps (fun en w' => ∃ v, en = .returned v ∧ Out X keep w0 ι C w nb ⟨retV ((reS (rnB ρ m nb) rsh.sl z.1).drop np),
         (if rsh.flat = true then [] else fz1 ++ fz2) ++ z3Z m (reB (rnB ρ m nb) rsh.bl z.2) 0 ρ, (reB (rnB ρ m nb) rsh.bl z.2).drop m.length⟩ v w') a'.defers .returning w1 := by
       intro hk
       refine z2D (base := w.heap.size) (G := fun w' => SRel X' keep' w n ι1 s' { tmps := a'.tmps, defers := [] } w') (fun w' h' => fin w' ι1 h' hk) (fun w' D h' hD hd => ?_) a'.defers w1 hsr (z3J h1.f.h.fr h1.f.defers.2.2)
       obtain ⟨q1, q2⟩ := h'.f.h.quiet (w' := w'.putObj D (.deferred none)) D rfl rfl rfl (by simp) (fun b hb _ => World.putObj_heap_other hb) (fun o v hc => by simp [World.cell?, hd] at hc)
        (fun b hb e => h'.f.h.z4L hb (by rw [e]; exact hd)) (fun hk' => absurd hk'.1 (Nat.not_lt.2 hD))
       exact ⟨⟨q1, fun t => q2 _ _ (h'.f.tm t), h'.f.size, Nat.le_refl _, fun _ => rfl, trivial⟩, h'.dom⟩
      cases e with
      | nm => exact leave hk
      | ex j => cases hk
      | rt => exact leave hk
    ·cases hco
   ·cases hco
  ·cases hco
 ·intro args C nb R K
  unfold mkCallB
  split
  ·split
   ·split
    ·split
     ·rfl
     ·generalize F _ = q
      cases q <;> rfl
    ·rfl
   ·rfl
  ·rfl
structure FnOKBI (P : Program) (f : Nat) (fn : Func) (c : Code) (psh rsh : Shape) (m : List Nat) (np : Nat) : Prop where
 at_ : P.funcs[f]? = some fn
 body : fn.body = some c
 name : (fn.name == "runtime.NumGoroutine") = false
 len : Nat.ble psh.sl.length fn.ntmps = true
 slots : slotsFrom 0 psh.sl = true
 slotr : slotsFrom 0 rsh.sl = true
 res : Nat.beq rsh.sl.length (np + fn.results.toList.length) = true
 pin : Nat.ble np psh.sl.length = true
 nl : z2v c = true
 nd : nodupN m = true
 ml : Nat.ble m.length rsh.bl.length = true
 mlt : allLt psh.bl.length m = true
theorem or_false_iff (p : Prop) : (p ∨ False) ↔ p := ⟨fun h => h.elim id False.elim, .inl⟩
theorem allLt_iff {n : Nat} : ∀ {l : List Nat}, allLt n l = true → ∀ k ∈ l, k < n
 | [], _, k, h => by cases h
 | a :: r, h, k, hk => by
  simp only [allLt, Bool.and_eq_true] at h
  rcases List.mem_cons.1 hk with rfl | hk
  ·exact Nat.le_of_ble_eq_true h.1
  ·exact allLt_iff h.2 k hk
theorem idsAt_iff : ∀ {m ids : List Nat} {j k : Nat}, idsAt m ids = true → m[j]? = some k → ids[j]? = some k
 | [], _, _, _, _, h => by simp at h
 | a :: r, [], _, _, h, _ => by cases h
 | a :: r, b :: l, 0, k, h, hk => by
  simp only [idsAt, Bool.and_eq_true] at h
  simp only [List.getElem?_cons_zero, Option.some.injEq] at hk ⊢
  rw [← hk]; exact Nat.eq_of_beq_eq_true h.1
 | a :: r, b :: l, j + 1, k, h, hk => by
  simp only [idsAt, Bool.and_eq_true] at h
  exact idsAt_iff (m := r) (ids := l) (j := j) h.2 (by simpa using hk)
theorem putB_some {w : World} {ok : Nat → Prop} {ι : Nat → Option Value} : ∀ {l : List SB} {x : denB l} {k i : Nat}, RelB w ok ι i (getB (putB l x) k) → k < l.length → ∃ u, ι i = some u
 | [], _, _, _, _, hk => by simp at hk
 | .row _ _ :: _, _, 0, _, h, _ => by obtain ⟨v, _, h1, _⟩ := h; exact ⟨v, h1⟩
 | .box _ _ :: _, _, 0, _, h, _ => by obtain ⟨g, _, h1, _⟩ := h; exact ⟨_, h1⟩
 | .it :: _, _, 0, _, h, _ => by obtain ⟨g, h1, _⟩ := h; exact ⟨_, h1⟩
 | .map _ _ _ :: _, _, 0, _, h, _ => by obtain ⟨g, _, _, _, h1, _⟩ := h; exact ⟨_, h1⟩
 | .nr _ _ _ _ :: _, _, 0, _, h, _ => by obtain ⟨arr, _, _, _, h1, _⟩ := h; exact ⟨_, h1⟩
 | _ :: r, x, k + 1, i, h, hk => putB_some (l := r) (x := x.2) (k := k) h (by simpa using hk)
theorem mkCallBI_ok (hm : P.follows .mixedOrders = true) (hP : z0q P TT) (hΔ : z0O P Δ) {Λ : Nat → Option z0Y} {f : Nat} {fn : Func} {c : Code} {psh rsh : Shape} {m : List Nat} {np : Nat} (hF : FnOKBI P f fn c psh rsh m np)
  {F : psh.den → Option rsh.den} (hrun : ∀ x z, F x = some z → runFBI TT Δ (z0I (upTo fn.ntmps) (z0u 0 np)) Λ c fn.results.toList psh rsh m np x = some z) : z0a P f (mkCallB psh rsh m np F) := by
 refine ⟨⟨fn, hF.at_, hF.name, by rw [hF.body]; rfl⟩, ?_, ?_⟩
 ·intro X keep w0 w ι C nb args vs e h hv hco hn
  unfold mkCallB at hco
  generalize hρ : blkB C psh.bl 0 (blkS (getT (numT 0 args)) psh.sl []) = ρ at hco
  split at hco
  ·rename_i hc1
   simp only [Bool.and_eq_true] at hc1
   have hnd := z2n hc1.1
   have hal := Nat.eq_of_beq_eq_true hc1.2
   split at hco
   ·rename_i x fz1 e1
    split at hco
    ·rename_i y fz2 e2
     split at hco
     ·cases hco
     ·rename_i hmt
      have hmt : meetN ρ (z0U (fz1 ++ fz2)) = false := by simpa using hmt
      obtain ⟨z, hz, hco⟩ := z0H hco
      injection hco with hco
      subst hco
      let V : Nat → Value := fun t => vs.getD t undef
      have hTV : ∀ t, RelV w (okb X w ι C) ι (getT (numT 0 args) t) (V t) := fun t => by
       have := (z1u args vs 0 t hv).1
       rwa [Nat.zero_add] at this
      obtain ⟨H1, E1, same, hbl, hbk, hbk', hrel⟩ := z4b h hTV e1 e2 hmt
      have hvl : vs.length = psh.sl.length := (z0j hv).trans hal
      have hnt : psh.sl.length ≤ fn.ntmps := Nat.le_of_ble_eq_true hF.len
      have hnp : np ≤ psh.sl.length := Nat.le_of_ble_eq_true hF.pin
      let C1 := updC C (fz1 ++ fz2)
      let ι' : Nat → Option Value := fun j => (ρ[j]?).bind ι
      let C' := getB (putB psh.bl y)
      let X' : Nat → Prop := fun b => b < w.heap.size ∧ ¬ okb X w ι C1 b ∧ ¬ owned ι' C' b
      let keep' : Nat → Prop := fun b => b < w.heap.size ∧ ¬ owned ι' C' b
      have hown : ∀ b, owned ι' C' b → owned ι C1 b := by
       rintro b ⟨j, hj⟩
       obtain ⟨i, _, hi⟩ := hbk j b hj
       exact ⟨i, hi⟩
      have hokc : ∀ b, okb X w ι C1 b → okb X' w ι' C' b := fun b hb => ⟨hb.1, fun ho => hb.2.1 (hown b ho), fun hx => hx.2.1 hb⟩
      obtain ⟨hB, hT⟩ := hrel (okb X' w ι' C') hokc
      have Hc : HRel X' keep' w ι' C' w := ⟨hB, fun j j' b h1 h2 => by
        obtain ⟨i, hi, hb⟩ := hbk j b h1
        obtain ⟨i', hi', hb'⟩ := hbk j' b h2
        have e := H1.inj i i' b hb hb'
        subst e
        have hlt := (List.getElem?_eq_some_iff.1 hi).1
        exact (List.getElem?_inj hlt hnd).1 (hi.trans hi'.symm), Kept.refl _ _, fun b hb hk => hk.2 hb, fun b hb => hb.1, fun b hb hx => hx.2.2 hb, fun b hb => hb.1, H1.gl.mono fun g hg => ⟨hokc g hg, rfl⟩⟩
      let a0 : Act := { tmps := vs.toArray ++ Array.replicate (fn.ntmps - vs.toArray.size) undef, defers := [] }
      have ha0 : ∀ t, a0.tmps.getD t undef = V t := by
       intro t
       show (vs.toArray ++ Array.replicate (fn.ntmps - vs.toArray.size) undef).getD t undef = vs.getD t undef
       rw [Array.getD_eq_getD_getElem?, List.getD_eq_getElem?_getD]
       rcases Nat.lt_or_ge t vs.length with ht | ht
       ·rw [Array.getElem?_append_left (by simpa using ht)]
        simp
       ·rw [Array.getElem?_append_right (by simpa using ht), List.getElem?_eq_none ht, Array.getElem?_replicate]
        split <;> rfl
      let n : z0N := z2L (z0M w.heap.size fn.ntmps) (z0u 0 np) a0
      have hsz0 : a0.tmps.size = fn.ntmps := by
       simp only [a0, Array.size_append, Array.size_replicate, List.size_toArray]
       omega
      have hjl : (psh.put (x, y)).bl.length = ρ.length := by rw [← hbl]; exact z0C _ _
      have S0 : SRel X' keep' w n ι' (psh.put (x, y)) a0 w := by
       refine ⟨⟨Hc, fun t => ?_, ⟨hsz0, fun _ _ => rfl⟩, Nat.le_refl _, fun _ => rfl, trivial⟩, fun j hj => ?_⟩
       ·rw [ha0 t]; exact hT t
       ·show (ρ[j]?).bind ι = none
        rw [List.getElem?_eq_none (by omega)]
        rfl
      have hev := hrun (x, y) z hz
      unfold runFBI at hev
      refine callsIn_wide.1 (callsIn_of_wp_marks (F := WF none) (n := 0) hF.at_ hF.body trivial (z1f (n := n) (Λ := Λ) hm hP hΔ c hF.nl _ _ _ a0 w ι' S0 hev fun e s' a' w1 ι1 hk h1 hlk1 => ?_) rfl)
      have hsr : SRel X' keep' w n ι1 s' { tmps := a'.tmps, defers := [] } w1 :=
       ⟨⟨h1.f.h, h1.f.tm, h1.f.size, Nat.le_refl _, fun _ => rfl, trivial⟩, h1.dom⟩
      have fin : ∀ (w' : World) (ι3 : Nat → Option Value), SRel X' keep' w n ι3 s' { tmps := a'.tmps, defers := [] } w' → Lk ι' ι3 → (match retsOf TT s' fn.results.toList with
        | some vs => takeI rsh m ⟨numT 0 ((z0u 0 np).map (getT s'.tm) ++ vs), s'.bl⟩
        | none => none) = some z → ∃ v, (results fn a'.tmps).run P w' = .ok v w' ∧ ∃ v', Ending.returned v = .returned v' ∧ Out X keep w0 ι C w nb ⟨retV ((reS (rnB ρ m nb) rsh.sl z.1).drop np),
         (if rsh.flat = true then [] else fz1 ++ fz2) ++ z3Z m (reB (rnB ρ m nb) rsh.bl z.2) 0 ρ, (reB (rnB ρ m nb) rsh.bl z.2).drop m.length⟩ v' w' := by
       intro w' ι3 h' hlk hk
       split at hk
       ·rename_i rs hrs
        obtain ⟨us0, v, r1, r2, r3⟩ := z2i hP h' hrs
        refine ⟨v, r1, v, rfl, ?_⟩
        let us : List Value := (z0u 0 np).map (fun t => a'.tmps.getD t undef) ++ us0
        have hus : RelL w' (okb X' w' ι3 (getB s'.bl)) ι3 ((z0u 0 np).map (getT s'.tm) ++ rs) us := z0B (z5A h'.f.tm _) r2
        let a2 : Act := { tmps := us.toArray, defers := [] }
        have ha2 : ∀ t, a2.tmps.getD t undef = us.getD t undef := fun t => by
         show us.toArray.getD t undef = _
         rw [Array.getD_eq_getD_getElem?, List.getD_eq_getElem?_getD]
         simp
        have S1 : SRel X' keep' w (z0M w.heap.size us.length) ι3 ⟨numT 0 ((z0u 0 np).map (getT s'.tm) ++ rs), s'.bl⟩ a2 w' := by
         refine ⟨⟨h'.f.h, fun t => ?_, (by show a2.tmps.size = us.length; simp [a2]), Nat.le_refl _, fun _ => rfl, trivial⟩, h'.dom⟩
         have := (z1u _ us 0 t hus).1
         rw [Nat.zero_add] at this
         rw [ha2]
         exact this
        unfold takeI at hk
        split at hk
        rotate_left
        ·cases hk
        rename_i hids
        obtain ⟨ι2, hren, S2, _⟩ := Shape.z6r S1 hk (fun _ => False) (fun b hb => hb.elim)
        rw [show (fun b => X' b ∨ False) = X' from funext fun b => propext (or_false_iff _)] at S2
        have hrl : us0.length = fn.results.toList.length := by
         have h2 := z0j r2
         have h3 : ∀ {l : List ResultVar} {vs : List AV}, retsOf TT s' l = some vs → vs.length = l.length := by
          intro l
          induction l with
          | nil => intro vs hvs; simp only [retsOf] at hvs; injection hvs with hvs; subst hvs; rfl
          | cons q l ih =>
           intro vs hvs
           simp only [retsOf] at hvs
           split at hvs
           ·split at hvs
            ·rename_i vr hvr
             injection hvs with hvs
             subst hvs
             simp [ih hvr]
            ·cases hvs
           ·cases hvs
         have h4 := h3 hrs
         omega
        have hul : us.length = rsh.sl.length := by
         have h1 := Nat.eq_of_beq_eq_true hF.res
         simp only [us, List.length_append, List.length_map, z1o]
         omega
        have hroot : ∀ j k, m[j]? = some k → ∃ i u, ρ[k]? = some i ∧ ι2 j = some u ∧ ι i = some u := by
         intro j k hjk
         have hkl : k < psh.bl.length := allLt_iff hF.mlt k (List.mem_of_getElem? hjk)
         have h1 := hren j k (idsAt_iff hids hjk)
         obtain ⟨u, hu⟩ := putB_some (hB k) hkl
         have hu' : (ρ[k]?).bind ι = some u := hu
         obtain ⟨i, i1, i2⟩ := z0H hu'
         exact ⟨i, u, i1, by rw [h1]; exact hlk k u hu, i2⟩
        let fl := rsh.flat
        let fz := fz1 ++ fz2
        let Cz := updC C (if fl = true then [] else fz)
        have hz' : HRel X keep w0 ι Cz w ∧ Ext X ι C w ι Cz w ∧ ∀ i ∈ ρ, Cz i = C i := by
         show HRel X keep w0 ι (updC C (if fl = true then [] else fz)) w ∧ Ext X ι C w ι (updC C (if fl = true then [] else fz)) w ∧ ∀ i ∈ ρ, (updC C (if fl = true then [] else fz)) i = C i
         cases fl
         ·exact ⟨H1, E1, same⟩
         ·exact ⟨h, Ext.refl _ _ _ _, fun _ _ => rfl⟩
        obtain ⟨Hz, Ez, samez⟩ := hz'
        let bs := reB (rnB ρ m nb) rsh.bl z.2
        let new := bs.drop m.length
        have hml : m.length ≤ rsh.bl.length := Nat.le_of_ble_eq_true hF.ml
        have hbsl : bs.length = rsh.bl.length := z5m _ _ _
        have hnl : new.length = rsh.bl.length - m.length := by show (bs.drop m.length).length = _; rw [List.length_drop, hbsl]
        let ι'' : Nat → Option Value := fun k => if nb ≤ k ∧ k < nb + new.length then ι2 (m.length + (k - nb)) else ι k
        have hin : ∀ j, j < new.length → ι'' (nb + j) = ι2 (m.length + j) := by
         intro j hj
         show (if nb ≤ nb + j ∧ nb + j < nb + new.length then ι2 (m.length + (nb + j - nb)) else ι (nb + j)) = _
         rw [if_pos (by omega), Nat.add_sub_cancel_left]
        have hou : ∀ k, ¬ (nb ≤ k ∧ k < nb + new.length) → ι'' k = ι k := fun k hk => if_neg hk
        let upd := (if fl = true then [] else fz) ++ z3Z m bs 0 ρ
        let C'' := addC (updC C upd) nb new
        have hCu : updC C upd = updC Cz (z3Z m bs 0 ρ) := z0r _ _ _
        have hsm : ∀ i u, ι i = some u → ¬ (nb ≤ i ∧ i < nb + new.length) := fun i u hi hq => by rw [hn i hq.1 hq.2] at hi; cases hi
        have hrn : ∀ j v, ι2 j = some v → ι'' (rnB ρ m nb j) = some v := by
         intro j v hv
         have hjl : j < rsh.bl.length := by
          rcases Nat.lt_or_ge j rsh.bl.length with q | q
          ·exact q
          ·rw [S2.dom j (by rw [show (rsh.put z).bl.length = rsh.bl.length from z0C _ _]; exact q)] at hv; cases hv
         unfold rnB
         cases hmj : m[j]? with
         | some k =>
          obtain ⟨i, u, i1, i2, i3⟩ := hroot j k hmj
          rw [hv] at i2
          injection i2 with i2
          subst i2
          simp only
          rw [List.getD_eq_getElem?_getD, i1]
          show ι'' i = some v
          rw [hou i (hsm i _ i3), i3]
         | none =>
          have hge : m.length ≤ j := List.getElem?_eq_none_iff.1 hmj
          simp only
          rw [hin (j - m.length) (by omega), show m.length + (j - m.length) = j by omega, hv]
        let S : Nat → Prop := fun i => i ∈ ρ ∨ (nb ≤ i ∧ i < nb + new.length)
        have hCat : ∀ i, S i → C'' i = .dead ∨ ∃ j, rnB ρ m nb j = i ∧ C'' i = getB bs j := by
         intro i hi
         by_cases hq : nb ≤ i ∧ i < nb + new.length
         ·right
          obtain ⟨j, rfl⟩ : ∃ j, i = nb + j := ⟨i - nb, by omega⟩
          refine ⟨m.length + j, ?_, ?_⟩
          ·unfold rnB
           rw [List.getElem?_eq_none (by omega)]
           simp only
           omega
          ·show addC (updC C upd) nb new (nb + j) = _
           rw [addC_at new _ nb j (by omega)]
           exact z6V bs m.length j
         ·have hi : i ∈ ρ := hi.resolve_right hq
          obtain ⟨k, hk⟩ := List.mem_iff_getElem?.1 hi
          have hCi : C'' i = match posM (0 + k) 0 m with
            | some j => getB bs j
            | none => .dead := by
           show addC (updC C upd) nb new i = _
           rw [z1F _ _ _ _ hq, hCu]
           exact updRe_at m bs ρ 0 k i Cz hnd hk
          rw [Nat.zero_add] at hCi
          cases hp : posM k 0 m with
          | none => rw [hp] at hCi; exact .inl hCi
          | some j =>
           rw [hp] at hCi
           right
           refine ⟨j, ?_, hCi⟩
           have := (posM_iff hp).2
           rw [Nat.sub_zero] at this
           unfold rnB
           rw [this]
           simp only
           rw [List.getD_eq_getElem?_getD, hk]
           rfl
        have hbk2 : ∀ i b, S i → b ∈ bk ι'' C'' i → ∃ j, rnB ρ m nb j = i ∧ b ∈ bk ι2 (getB (putB rsh.bl z.2)) j := by
         intro i b hi hb
         rcases hCat i hi with q | ⟨j, q1, q2⟩
         ·rw [z0S q] at hb; cases hb
         ·refine ⟨j, q1, ?_⟩
          rcases z6A (rnB ρ m nb) rsh.bl z.2 j with g | ⟨sb, g1, y', g2, g3⟩
          ·rw [z0S (q2.trans g.1)] at hb; cases hb
          ·have hB := S2.f.h.bl j
           rw [show getB (rsh.put z).bl j = _ from g3] at hB
           subst q1
           exact SB.re_bk hrn sb y' hB (q2.trans g2) g3 hb
        have hCo : ∀ i, ¬ S i → C'' i = Cz i := by
         intro i hi
         show addC (updC C upd) nb new i = _
         rw [z1F _ _ _ _ (fun q => hi (.inr q)), hCu]
         exact z1O _ _ _ (by rw [z4r]; exact fun q => hi (.inl q))
        have hιo : ∀ k, ¬ S k → ι'' k = ι k := fun k hk => hou k fun q => hk (.inr q)
        have hownz : ∀ b, owned ι' C' b → ∃ i ∈ ρ, b ∈ bk ι Cz i := by
         rintro b ⟨j, hj⟩
         obtain ⟨i, hi, hb⟩ := hbk j b hj
         have hm : i ∈ ρ := List.mem_of_getElem? hi
         exact ⟨i, hm, by rw [z0D (ι := ι) (ι' := ι) ((samez i hm).trans (same i hm).symm) rfl]; exact hb⟩
        have okT : fl = false → ∀ b, okb X' w' ι2 (getB (rsh.put z).bl) b → okb X w' ι'' C'' b := by
         intro hfl b hb
         have hCz : Cz = C1 := by show updC C (if fl = true then [] else fz) = _; rw [hfl]; rfl
         have hcase : b < w.heap.size → okb X w ι C1 b ∨ owned ι' C' b := fun hl => Classical.byContradiction fun q => hb.2.2 ⟨hl, fun q1 => q (.inl q1), fun q1 => q (.inr q1)⟩
         refine ⟨hb.1, ?_, fun hx => ?_⟩
         ·rintro ⟨i, hi⟩
          by_cases hs : S i
          ·obtain ⟨j, _, hj⟩ := hbk2 i b hs hi
           exact hb.2.1 ⟨j, hj⟩
          ·rw [z0D (hCo i hs) (hιo i hs)] at hi
           rcases hcase (Hz.lt ⟨i, hi⟩) with q | q
           ·rw [hCz] at hi
            exact q.2.1 ⟨i, hi⟩
           ·obtain ⟨i', hm, hi'⟩ := hownz b q
            exact hs (.inl (Hz.inj i i' b hi hi' ▸ hm))
         ·rcases hcase (Nat.lt_of_lt_of_le (h.xl b hx) h.fr.size) with q | q
          ·exact q.2.2 hx
          ·obtain ⟨i', hm, hi'⟩ := hownz b q
           exact Hz.ox b ⟨i', hi'⟩ hx
        have hfl2 : fl = true → flatS rsh.sl = true ∧ flatB rsh.bl = true := by
         intro q
         have q : (flatS rsh.sl && flatB rsh.bl) = true := q
         simpa only [Bool.and_eq_true] using q
        obtain ⟨HF, EF⟩ := Hz.step (C' := C'') (ι' := ι'') (w' := w') S S2.f.h.fr.os S2.f.h.fr.tape S2.f.h.fr.output S2.f.h.fr.size hCo
         (fun k v hk => by rw [hou k (hsm k v hk)]; exact hk) hιo
         (by
          intro k b hs hb
          obtain ⟨j, _, hj⟩ := hbk2 k b hs hb
          have hnk := S2.f.h.own b ⟨j, hj⟩
          by_cases hl : b < w.heap.size
          ·right
           have ho : owned ι' C' b := Classical.byContradiction fun q => hnk ⟨hl, q⟩
           obtain ⟨i, hm, hi⟩ := hownz b ho
           exact ⟨i, .inl hm, hi⟩
          ·exact .inl (Nat.le_of_not_lt hl))
         (by
          intro k k' b hs hs' hb hb'
          obtain ⟨j, q, hj⟩ := hbk2 k b hs hb
          obtain ⟨j', q', hj'⟩ := hbk2 k' b hs' hb'
          rw [← q, ← q', S2.f.h.inj j j' b hj hj'])
         (by
          intro b hb hno
          refine S2.f.h.fr.block b ⟨hb, fun ho => ?_⟩ hb
          obtain ⟨i, hm, hi⟩ := hownz b ho
          exact hno i (.inl hm) hi)
         (by
          intro _ k hs
          rcases hCat k hs with q | ⟨j, q1, q2⟩
          ·rw [q]; trivial
          ·rcases z6A (rnB ρ m nb) rsh.bl z.2 j with g | ⟨sb, g1, y', g2, g3⟩
           ·rw [q2.trans g.1]; trivial
           ·have hB := S2.f.h.bl j
            rw [show getB (rsh.put z).bl j = _ from g3] at hB
            rw [q2.trans g2, ← q1]
            exact SB.re_rel (fl := fl) okT hrn sb y' (fun q => z4S (hfl2 q).2 g1) hB)
        have hret : RelL w' (okb X w' ι'' C'') ι'' (reS (rnB ρ m nb) rsh.sl z.1) us := by
         refine reS_rel (ι2 := ι2) (fl := fl) okT hrn rsh.sl z.1 0 us hF.slotr (fun q => (hfl2 q).1) hul fun t _ => ?_
         rw [Nat.zero_add]
         have := S2.f.tm t
         rw [ha2] at this
         exact this
        have hret2 := z1c hret np
        have hdr : us.drop np = us0 := by
         show ((z0u 0 np).map (fun t => a'.tmps.getD t undef) ++ us0).drop np = us0
         rw [List.drop_left' (by simp [z1o])]
        rw [hdr] at hret2
        refine ⟨ι'', HF, Ez.trans EF, ?_, hou⟩
        rw [r3]
        exact retV_rel hret2
       ·cases hk
      have leave : (match retsOf TT s' fn.results.toList with
        | some vs => takeI rsh m ⟨numT 0 ((z0u 0 np).map (getT s'.tm) ++ vs), s'.bl⟩
        | none => none) = some z → LeavesInM (WF none) 0 P fn a'.tmps (fun en w' => ∃ v, en = .returned v ∧ Out X keep w0 ι C w nb ⟨retV ((reS (rnB ρ m nb) rsh.sl z.1).drop np),
         (if rsh.flat = true then [] else fz1 ++ fz2) ++ z3Z m (reB (rnB ρ m nb) rsh.bl z.2) 0 ρ, (reB (rnB ρ m nb) rsh.bl z.2).drop m.length⟩ v w') a'.defers .returning w1 := by
       intro hk
       refine z2D (base := w.heap.size) (G := fun w' => SRel X' keep' w n ι1 s' { tmps := a'.tmps, defers := [] } w') (fun w' h' => fin w' ι1 h' hlk1 hk) (fun w' D h' hD hd => ?_) a'.defers w1 hsr (z3J h1.f.h.fr h1.f.defers.2.2)
       obtain ⟨q1, q2⟩ := h'.f.h.quiet (w' := w'.putObj D (.deferred none)) D rfl rfl rfl (by simp) (fun b hb _ => World.putObj_heap_other hb) (fun o v hc => by simp [World.cell?, hd] at hc)
        (fun b hb e => h'.f.h.z4L hb (by rw [e]; exact hd)) (fun hk' => absurd hk'.1 (Nat.not_lt.2 hD))
       exact ⟨⟨q1, fun t => q2 _ _ (h'.f.tm t), h'.f.size, Nat.le_refl _, fun _ => rfl, trivial⟩, h'.dom⟩
      cases e with
      | nm => exact leave hk
      | ex j => cases hk
      | rt => exact leave hk
    ·cases hco
   ·cases hco
  ·cases hco
 ·intro args C nb R K
  unfold mkCallB
  split
  ·split
   ·split
    ·split
     ·rfl
     ·generalize F _ = q
      cases q <;> rfl
    ·rfl
   ·rfl
  ·rfl
end
noncomputable def z1b (TT : Tab) (Δ : List (Nat × z0K)) (Λ : List (Nat × z0Y)) (f : Func) (psh rsh : Shape) (np : Nat) (x : psh.den) : Option rsh.den :=
 runFB TT (lookL Δ) (z0I (upTo f.ntmps) (z0u 0 np)) (lookL Λ) (z1N f) f.results.toList psh rsh np x |>.bind fun z => if keepsLen psh.bl rsh.bl x.2 z.2 np psh.sl rsh.sl = true then some z else none
theorem z1a {P : Program} {TT : Tab} (hm : P.follows .mixedOrders = true) (hP : z0q P TT) {Δ : List (Nat × z0K)} (hΔ : z2H P Δ) {Λ : List (Nat × z0Y)} {f : Nat} {fn : Func} {psh rsh : Shape} {m : List Nat} {np : Nat} {c : Code} (hF : FnOKB P f fn c psh rsh m np) (hc : z1N fn = c)
  (hL : z3D P (z0I (upTo fn.ntmps) (z0u 0 np)) false Λ c) : z0a P f (mkCallB psh rsh m np (z1b TT Δ Λ fn psh rsh np)) := by
 subst hc
 exact mkCallB_ok hm hP (z2p hΔ) hF (fun n hn hk => hL n hn none (.inr ⟨rfl, hk⟩)) fun x y h => by
  obtain ⟨z, h1, h2⟩ := z0H h
  split at h2
  ·rename_i hk
   injection h2 with h2
   subst h2
   exact ⟨h1, hk⟩
  ·cases h2
noncomputable def runFnBI (TT : Tab) (Δ : List (Nat × z0K)) (f : Func) (psh rsh : Shape) (m : List Nat) (np : Nat) (x : psh.den) : Option rsh.den :=
 runFBI TT (lookL Δ) (z0I (upTo f.ntmps) (z0u 0 np)) (lookL []) (z1N f) f.results.toList psh rsh m np x
theorem z7T {P : Program} {TT : Tab} (hm : P.follows .mixedOrders = true) (hP : z0q P TT) {Δ : List (Nat × z0K)} (hΔ : z2H P Δ) {f : Nat} {fn : Func} {psh rsh : Shape} {m : List Nat} {np : Nat} {c : Code} (hF : FnOKBI P f fn c psh rsh m np) (hc : z1N fn = c) :
  z0a P f (mkCallB psh rsh m np (runFnBI TT Δ fn psh rsh m np)) := by
 subst hc
 exact mkCallBI_ok hm hP (z2p hΔ) hF fun x y h => h
end Go.Proofs.Rf
namespace Go.Proofs.Rf
open Go Go.RowKit
def Lim {A B : Type} (f : A → Option (A ⊕ B)) (g : A → Option B) : Prop := ∀ x y, g x = some y → ∃ k, iterL f k x = some y
theorem z0T {A B : Type} (f : A → Option (A ⊕ B)) : Lim f (limL f) := fun _ _ h => z6c h
theorem z1J {A B : Type} (f : A → Option (A ⊕ B)) (k : Nat) : Lim f (iterL f k) := fun _ _ h => ⟨k, h⟩
theorem z0F {P : Program} {TT : Tab} (hm : P.follows .mixedOrders = true) (hP : z0q P TT) {Δ : List (Nat × z0K)} (hΔ : z2H P Δ) {Λ : List (Nat × z0Y)} {fn : Func} {r : Nat} {head : Shape} {ways : List Way} {ok : Nat → Bool} {inn : Bool}
  {g : head.den → Option (denX ways)} (hg : Lim (z0Z TT Δ Λ ok fn r head ways) g) (hL : z3D P ok inn Λ (z1E fn r)) : LoopAt P ok inn (lp head ways g) (.loop (z1E fn r)) := by
 intro n hn ρ hi
 subst hn
 exact lp_ok hm hP (z2p hΔ) (hL n rfl ρ hi) fun x y h => hg x y h
def z5V (r : Nat) : Code → Option Code
 | .seq a b => match z5V r a with
  | some c => some c
  | none => z5V r b
 | .cond _ a b => match z5V r a with
  | some c => some c
  | none => z5V r b
 | .block _ c => z5V r c
 | .scope c => z5V r c
 | .loop c => z5V r c
 | .rangeFunc g ps a b => if Nat.beq (z1Z a) r = true then some (.rangeFunc g ps a b) else z5V r b
 | _ => none
def rgG (f : Func) (r : Nat) : Operand := match z5V r (z1N f) with
 | some (.rangeFunc g _ _ _) => g
 | _ => .tmp 0
def rgP (f : Func) (r : Nat) : Array Nat := match z5V r (z1N f) with
 | some (.rangeFunc _ ps _ _) => ps
 | _ => #[]
def rgA (f : Func) (r : Nat) : Code := match z5V r (z1N f) with
 | some (.rangeFunc _ _ a _) => a
 | _ => .skip
def rgB (f : Func) (r : Nat) : Code := match z5V r (z1N f) with
 | some (.rangeFunc _ _ _ b) => b
 | _ => .skip
noncomputable def roundFnG (TT : Tab) (Δ : List (Nat × z0K)) (Λ : List (Nat × z0Y)) (ok : Nat → Bool) (f : Func) (r : Nat) {El : Type} (avs : El → List AV) (head : Shape) (ways : List Way) (e : El) (x : head.den) : Option (head.den ⊕ denX ways) :=
 stepRG TT (lookL Δ) (z0I ok (slotsOf head.sl ++ z3l ways)) (lookL Λ) avs (rgP f r).toList (rgA f r) head ways (rgB f r) e x
theorem z6u {P : Program} {TT : Tab} (hm : P.follows .mixedOrders = true) (hP : z0q P TT) {Δ : List (Nat × z0K)} (hΔ : z2H P Δ) {Λ : List (Nat × z0Y)} {fn : Func} {r : Nat} {El : Type} {avs : El → List AV} {encs : El → List Value} {gf : Nat} {cap : (Nat → Blk) → List AV → Option (List El)}
  {head : Shape} {ways : List Way} {ok : Nat → Bool} (hI : z5f P gf encs cap) (hT : z8o ok avs encs (rgP fn r) (rgA fn r) head ways) (hL : z3D P (z0I ok (slotsOf head.sl ++ z3l ways)) true Λ (rgB fn r)) :
  LoopAt P ok false (rangeO (rgG fn r) gf cap head ways (foldR (roundFnG TT Δ Λ ok fn r avs head ways))) (.rangeFunc (rgG fn r) (rgP fn r) (rgA fn r) (rgB fn r)) :=
 rangeO_okG hm hP (z2p hΔ) hI hT hL fun _ _ _ h => h
end Go.Proofs.Rf
namespace Go.Proofs.Rf
open Go Go.RowKit
theorem Oper.uponIn_then {F : Fence} {n : Nat} {P : Program} {o : Oper} {a : Act} {K K' L : Act → World → Prop} {Q : Exit → Act → World → Prop} (h : ∀ a w, K a w → K' a w) : ∀ r : Result Next, o.uponIn F n P a K (Exit.then L Q) r → o.uponIn F n P a K' Q r
 | .ok (.value v) w', hh => h _ _ hh
 | .ok .skip w', hh => h _ _ hh
 | .ok (.defer d) w', hh => h _ _ hh
 | .ok (.enter f args) w', hh => ⟨hh.1, hh.2.mono fun e w'' he => by cases e <;> first | exact h _ _ he | exact he⟩
 | .ok (.row row args) w', hh => ⟨hh.1, hh.2.mono fun v w'' he => h _ _ he⟩
 | .ok (.round l f tmps assign body) w', hh => ⟨hh.1, hh.2.mono fun e w'' he => by cases e <;> first | exact h _ _ he | exact he⟩
 | .halt (.panic v) w', hh => hh
theorem z1d {F : Fence} {n : Nat} {P : Program} {ops : Array Oper} {Q : Exit → Act → World → Prop} : ∀ (l1 l2 : List Nat) (a : Act) (w : World), wpOpsIn F n P ops (Exit.then (wpOpsIn F n P ops Q l2) Q) l1 a w → wpOpsIn F n P ops Q (l1 ++ l2) a w
 | [], l2, a, w, h => h
 | i :: r, l2, a, w, h => by
  rw [List.cons_append, wpOpsIn_cons]
  rw [wpOpsIn_cons] at h
  unfold wpOpIn at h ⊢
  split
  ·rename_i ho
   rw [ho] at h
   exact z1d r l2 a w h
  ·rename_i o ho
   rw [ho] at h
   simp only at h
   split
   ·rename_i hw
    rw [if_pos hw] at h
    exact ⟨h.1, Oper.uponIn_then (fun a w q => z1d r l2 a w q) _ h.2⟩
   ·rename_i hw
    rw [if_neg hw] at h
    exact ⟨h.1, z1d r l2 _ w h.2⟩
inductive RY (A El : Type) where
 | go (y : A)
 | done
 | yl (e : El) (y : A)
def isMove0 (o : Oper) : Option Nat := match o.dst, o.op, o.guard with
 | some t, .move (.tmp 0), none => some t
 | _, _, _ => none
def isYield (t : Nat) (o : Oper) : Option (Nat × List Operand) := match o.dst, o.op, o.guard with
 | some d, .call c, none => (match c.callee with
  | .value (.tmp t') => if Nat.beq t' t = true then some (d, c.args.toList) else none
  | _ => none)
 | _, _, _ => none
section
variable (TT : Tab) (Δ : Nat → Option z0K) (ok : Nat → Bool) (Λ : Nat → Option z0Y) (rid j : Nat) (mid : Shape)
def yReg {R : Type} (ops : Array Oper) (s : St) (KP : Ex → St → Option R) (Y : List AV → (Bool → Option R) → Option R) : Option R :=
 match (ops[0]?).bind isMove0 with
 | some t => match (ops[j]?).bind (isYield t) with
  | some (d, args) => if (ok t && ok d && Nat.blt 0 j) = true then
    evOps TT Δ (z0I ok [t]) ops false (((zipN 0 ops.toList).take j).drop 1) ⟨(t, .un) :: s.tm, s.bl⟩ [] fun s1 _ => match mid.take s1 with
     | some z => Y (args.map (ev (getT s1.tm))) fun b => evOps TT Δ ok ops false ((zipN 0 ops.toList).drop (j + 1)) ⟨(d, .d .bool b) :: (mid.put z).tm, (mid.put z).bl⟩ [] fun s2 _ => KP .nm s2
     | none => none
   else none
  | none => none
 | none => none
noncomputable def evY {R : Type} : Code → St → (Ex → St → Option R) → (Ex → St → Option R) → (List AV → (Bool → Option R) → Option R) → Option R
 | .region id ops draw, s, K, KP, Y => if Nat.beq id rid = true then (if draw = true then none else yReg TT Δ ok j mid ops s KP Y) else evC TT Δ ok Λ (.region id ops draw) s K
 | .seq a b, s, K, KP, Y => evY a s (fun e s' => match e with
   | .nm => evY b s' K KP Y
   | .ex i => K (.ex i) s'
   | .rt => K .rt s') (fun e s' => match e with
   | .nm => evC TT Δ ok Λ b s' KP
   | .ex i => KP (.ex i) s'
   | .rt => KP .rt s') Y
 | .cond c a b, s, K, KP, Y => match ev (getT s.tm) c with
   | .d .bool g => if g = true then evY a s K KP Y else evY b s K KP Y
   | _ => none
 | .block id c, s, K, KP, Y => evY c s (fun e s' => match e with
   | .nm => K .nm s'
   | .ex i => if Nat.beq i id = true then K .nm s' else K (.ex i) s'
   | .rt => K .rt s') (fun e s' => match e with
   | .nm => KP .nm s'
   | .ex i => if Nat.beq i id = true then KP .nm s' else KP (.ex i) s'
   | .rt => KP .rt s') Y
 | .skip, s, K, _, _ => K .nm s
 | .exit id, s, K, _, _ => K (.ex id) s
 | .ret, s, K, _, _ => K .rt s
 | .loop c, s, K, _, _ => evC TT Δ ok Λ (.loop c) s K
 | _, _, _, _, _ => none
end
section
variable {P : Program} {TT : Tab} {Δ : Nat → Option z0K} {n : z0N} {Λ : Nat → Option z0Y} {rid j : Nat} {mid : Shape} {l : Nat}
theorem isMove0_iff {o : Oper} {t : Nat} (h : isMove0 o = some t) : o.dst = some t ∧ o.op = .move (.tmp 0) ∧ o.guard = none := by
 unfold isMove0 at h
 split at h
 ·rename_i t' h1 h2 h3
  injection h with h
  subst h
  exact ⟨h1, h2, h3⟩
 ·cases h
theorem isYield_iff {t : Nat} {o : Oper} {d : Nat} {args : List Operand} (h : isYield t o = some (d, args)) : ∃ c, o.dst = some d ∧ o.op = .call c ∧ o.guard = none ∧ c.callee = .value (.tmp t) ∧ c.args.toList = args := by
 unfold isYield at h
 split at h
 ·rename_i d' c h1 h2 h3
  split at h
  ·rename_i t' h4
   split at h
   ·rename_i h5
    have h5 := Nat.eq_of_beq_eq_true h5
    subst h5
    injection h with h
    injection h with e1 e2
    subst e1; subst e2
    exact ⟨c, h1, h2, h3, h4, rfl⟩
   ·cases h
  ·cases h
 ·cases h
theorem z4p : ∀ (l : List Oper) (i : Nat), (zipN i l).map (·.1) = List.range' i l.length
 | [], i => rfl
 | o :: l, i => by simp [zipN, z4p l (i + 1), List.range'_succ]
theorem zipN_get : ∀ (l : List Oper) (i : Nat), ∀ p ∈ zipN i l, ∃ k, p.1 = i + k ∧ l[k]? = some p.2
 | [], _, p, h => by cases h
 | o :: l, i, p, h => by
  rcases List.mem_cons.1 h with rfl | h
  ·exact ⟨0, rfl, rfl⟩
  ·obtain ⟨k, h1, h2⟩ := zipN_get l (i + 1) p h
   exact ⟨k + 1, by omega, by simpa using h2⟩
theorem yReg_sound (hP : z0q P TT) (hΔ : z0O P Δ) (hn0 : ∀ tm, n.G tm → tm.getD 0 undef = .func (.yield l) #[] #[]) {R : Type} {ops : Array Oper} {s : St} {KP : Ex → St → Option R} {Y : List AV → (Bool → Option R) → Option R} {r : R} {Q : Exit → Act → World → Prop}
  {X keep : Nat → Prop} {w0 w : World} {ι : Nat → Option Value} {a : Act} (h : SRel X keep w0 n ι s a w) (hev : yReg TT Δ n.ok j mid ops s KP Y = some r)
  (hY : ∀ args vals res z a' w' ι', SRel X keep w0 n ι' (mid.put z) a' w' → (∃ ok ι, RelL w' ok ι args vals) → Y args res = some r → YieldAt (WF none) 1 P l vals.toArray w' fun e w'' => ∃ b, e = .returned (.bool b) ∧ ∃ X' keep' w0' rb, res b = some rb ∧ SRel X' keep' w0' n ι' (mid.put z) a' w'' ∧
   ∀ s3 a3 w3 ι3, KP .nm s3 = some rb → SRel X' keep' w0' n ι3 s3 a3 w3 → Q .normal a3 w3) : wpOpsIn (WF none) 2 P ops Q (List.range ops.size) a w := by
 unfold yReg at hev
 split at hev
 ·rename_i t ht
  split at hev
  ·rename_i d args hd
   split at hev
   ·rename_i hc
    simp only [Bool.and_eq_true] at hc
    obtain ⟨⟨c1, c2⟩, c3⟩ := hc
    have c3 : 0 < j := Nat.le_of_ble_eq_true c3
    obtain ⟨o0, g0, g1⟩ := z0H ht
    obtain ⟨oj, k0, k1⟩ := z0H hd
    obtain ⟨m1, m2, m3⟩ := isMove0_iff g1
    obtain ⟨c, y1, y2, y3, y4, y5⟩ := isYield_iff k1
    have hj : j < ops.size := (Array.getElem?_eq_some_iff.1 k0).1
    let yv : Value := .func (.yield l) #[] #[]
    have hL : List.range ops.size = [0] ++ ((((zipN 0 ops.toList).take j).drop 1).map (·.1) ++ ([j] ++ ((zipN 0 ops.toList).drop (j + 1)).map (·.1))) := by
     have e1 : List.range ops.size = (zipN 0 ops.toList).map (·.1) := by rw [z4p, Array.length_toList, List.range_eq_range']
     have e2 : (zipN 0 ops.toList).map (·.1) = ((zipN 0 ops.toList).take j).map (·.1) ++ ((zipN 0 ops.toList).drop j).map (·.1) := by rw [← List.map_append, List.take_append_drop]
     have hz : (zipN 0 ops.toList).length = ops.size := by
      have := congrArg List.length (z4p ops.toList 0)
      simpa using this
     have e3 : ((zipN 0 ops.toList).drop j).map (·.1) = [j] ++ ((zipN 0 ops.toList).drop (j + 1)).map (·.1) := by
      rw [List.map_drop, List.map_drop, z4p, Array.length_toList]
      rw [List.drop_eq_getElem_cons (by simpa using hj)]
      simp
     have e4 : ((zipN 0 ops.toList).take j).map (·.1) = [0] ++ (((zipN 0 ops.toList).take j).drop 1).map (·.1) := by
      rw [List.map_drop, List.map_take, z4p, Array.length_toList]
      have : 0 < ((List.range' 0 ops.size).take j).length := by
       simp only [List.length_take, List.length_range']
       omega
      conv => lhs; rw [← List.drop_zero (l := (List.range' 0 ops.size).take j)]
      rw [List.drop_eq_getElem_cons this]
      simp
     rw [e1, e2, e3, e4, List.append_assoc]
    rw [hL]
    refine z1d [0] _ a w ?_
    rw [wpOpsIn_cons]
    unfold wpOpIn
    rw [g0]
    have hw : Region.wanted o0 (yielded ops a.tmps) = true := by simp [Region.wanted, m3]
    simp only [hw, if_true]
    refine z5h (fun c hc => by rw [m2] at hc; cases hc) ?_
    unfold Oper.wp
    have hr : (execOp a.eval o0).run P w = .ok (.value (a.eval (.tmp 0))) w := by
     unfold execOp
     rw [m2]
     rfl
    rw [hr]
    have hv0 : a.eval (.tmp 0) = yv := hn0 a.tmps h.f.size
    show wpOpsIn (WF none) 2 P ops Q _ (a.put o0.dst (a.eval (.tmp 0))) w
    rw [hv0, m1]
    let a1 : Act := a.put (some t) yv
    let n' := z2L n [t] a1
    have ht1 : t < a.tmps.size := n.lt _ _ h.f.size c1
    have hG1 : n.G a1.tmps := n.set _ _ _ h.f.size c1
    have S1 : SRel X keep w0 n' ι ⟨(t, .un) :: s.tm, s.bl⟩ a1 w := by
     have F1 : FRel X keep w0 n ι (getT ((t, .un) :: s.tm)) (getB s.bl) a1 w := h.f.put1 c1 (by simp only [RelV])
     exact ⟨⟨F1.h, F1.tm, ⟨hG1, fun _ _ => rfl⟩, F1.defers⟩, h.dom⟩
    refine z1d _ _ a1 w ?_
    refine z6Z (n := n') (Q := Exit.then _ Q) hP hΔ _ _ _ a1 w ι (fun p hp => ?_) hev S1 fun s1 lg a2 w2 ι2 hk S2 => ?_
    ·obtain ⟨k, q1, q2⟩ := zipN_get ops.toList 0 p (List.mem_of_mem_take (List.mem_of_mem_drop hp))
     rw [q1, Nat.zero_add, ← Array.getElem?_toList]
     exact q2
    split at hk
    ·rename_i z hz
     have hyv : a2.tmps.getD t undef = yv := by
      rw [S2.f.size.2 t (List.mem_singleton.2 rfl)]
      show (a.tmps.setIfInBounds t yv).getD t undef = yv
      rw [Array.getD_eq_getD_getElem?, Array.getElem?_setIfInBounds_self_of_lt ht1]
      rfl
     have S2n : SRel X keep w0 n ι2 s1 a2 w2 := ⟨⟨S2.f.h, S2.f.tm, S2.f.size.1, S2.f.defers⟩, S2.dom⟩
     obtain ⟨ι3, S3⟩ := Shape.z0A S2n hz
     have hargs : RelL w2 (okb X w2 ι2 (getB s1.bl)) ι2 (args.map (ev (getT s1.tm))) (args.map a2.eval) := z2a S2.f.tm args
     obtain ⟨fn, tmps, assign, body, hyr, hR⟩ := hY _ _ _ z a2 w2 ι3 S3 ⟨_, _, hargs⟩ hk
     refine z1d [j] _ a2 w2 ?_
     rw [wpOpsIn_cons]
     unfold wpOpIn
     rw [k0]
     have hw : Region.wanted oj (yielded ops a2.tmps) = true := by simp [Region.wanted, y3]
     simp only [hw, if_true]
     refine ⟨fun _ _ => trivial, ?_⟩
     have hex : (execOp a2.eval oj).run P w2 = .ok (.round l fn tmps assign body) w2 := by
      unfold execOp
      rw [y2]
      have he : a2.eval (.tmp t) = yv := hyv
      have harr : Array.map a2.eval c.args = (args.map a2.eval).toArray := by rw [← y5]; apply Array.ext'; simp
      simp only [resolve, y4, he, harr]
      simp [yv, Deferred.ofValue, invoke, callFunc, hyr]
     have hsem : ((oj.semAt (WF none).round a2.eval).run P w2) = .ok (.round l fn tmps assign body) w2 := by
      rw [Oper.semAt_eq _ _ _ (fun c hc => by rw [y2] at hc; cases hc)]
      exact hex
     rw [hsem, Oper.uponIn_round]
     refine ⟨fun q => (by cases q), hR.mono ?_⟩
     rintro e w3 ⟨b, rfl, X', keep', w0', rb, hrb, S4, hend⟩
     show wpOpsIn (WF none) 2 P ops Q _ (a2.put oj.dst (.bool b)) w3
     rw [y1]
     have F5 : FRel X' keep' w0' n ι3 (getT ((d, .d .bool b) :: (mid.put z).tm)) (getB (mid.put z).bl) (a2.put (some d) (.bool b)) w3 := S4.f.put1 c2 (z0s.2 rfl)
     refine z6Z (n := n) hP hΔ _ _ _ _ w3 ι3 (fun p hp => ?_) hrb ⟨F5, S4.dom⟩ fun s3 lg a3 w4 ι4 hk3 S6 => hend s3 a3 w4 ι4 hk3 S6
     obtain ⟨k, q1, q2⟩ := zipN_get ops.toList 0 p (List.mem_of_mem_drop hp)
     rw [q1, Nat.zero_add, ← Array.getElem?_toList]
     exact q2
    ·cases hk
   ·cases hev
  ·cases hev
 ·cases hev
theorem z2R (hm : P.follows .mixedOrders = true) (hP : z0q P TT) (hΔ : z0O P Δ) (hn0 : ∀ tm, n.G tm → tm.getD 0 undef = .func (.yield l) #[] #[]) {X : Nat → Prop} : ∀ (c : Code), LoopsIn P n none Λ c → ∀ {R : Type} {r : R} (s : St) (K KP : Ex → St → Option R) (Y : List AV → (Bool → Option R) → Option R) (Q : Exit → Act → World → Prop) (a : Act) (w : World) (ι : Nat → Option Value) (keep : Nat → Prop) (w0 : World),
  SRel X keep w0 n ι s a w → evY TT Δ n.ok Λ rid j mid c s K KP Y = some r →
  (∀ e s' a' w' ι' keep' w0', z1x keep w0 keep' w0' → K e s' = some r → SRel X keep' w0' n ι' s' a' w' → Q e.out a' w') →
  (∀ args vals res z a' w' ι' keep1 w01, z1x keep w0 keep1 w01 → SRel X keep1 w01 n ι' (mid.put z) a' w' → (∃ ok ι, RelL w' ok ι args vals) → Y args res = some r → YieldAt (WF none) 1 P l vals.toArray w' fun e w'' => ∃ b, e = .returned (.bool b) ∧ ∃ X' keep' w0' rb, res b = some rb ∧ SRel X' keep' w0' n ι' (mid.put z) a' w'' ∧
   ∀ e3 s3 a3 w3 ι3 keep3 w03, z1x keep' w0' keep3 w03 → KP e3 s3 = some rb → SRel X' keep3 w03 n ι3 s3 a3 w3 → Q e3.out a3 w3) →
  c.wpIn (WF none) 2 P Q a w
 | .region id ops draw, hL, R, r, s, K, KP, Y, Q, a, w, ι, keep, w0, h, hev, hK, hY => by
  simp only [evY] at hev
  split at hev
  ·split at hev
   ·cases hev
   ·rename_i hd
    have hd : draw = false := by simpa using hd
    subst hd
    refine wpIn_region ?_
    refine yReg_sound hP hΔ hn0 h hev fun args vals res z a' w' ι' S hr hy => ?_
    obtain ⟨fn, tmps, assign, body, q1, q2⟩ := hY args vals res z a' w' ι' keep w0 (z1x.refl _ _) S hr hy
    refine ⟨fn, tmps, assign, body, q1, q2.mono ?_⟩
    rintro e w'' ⟨b, he, X', keep', w0', rb, hrb, S4, hend⟩
    exact ⟨b, he, X', keep', w0', rb, hrb, S4, fun s3 a3 w3 ι3 hk S6 => hend .nm s3 a3 w3 ι3 keep' w0' (z1x.refl _ _) hk S6⟩
  ·exact z0L hm hP hΔ (.region id ops draw) hL s K Q a w ι keep w0 h hev hK
 | .seq x y, hL, R, r, s, K, KP, Y, Q, a, w, ι, keep, w0, h, hev, hK, hY => by
  simp only [evY] at hev
  refine wpIn_seq (z2R hm hP hΔ hn0 x hL.1 s _ _ Y _ a w ι keep w0 h hev (fun e s' a' w' ι' k1 v1 hl hk h' => ?_) fun args vals res z a' w' ι' k1 v1 hl S hr hy => ?_)
  ·cases e with
   | nm => exact z2R hm hP hΔ hn0 y hL.2 s' K KP Y Q a' w' ι' k1 v1 h' hk (fun e s2 a2 w2 ι2 k2 v2 hl2 => hK e s2 a2 w2 ι2 k2 v2 (hl.trans hl2)) fun args vals res z a2 w2 ι2 k2 v2 hl2 => hY args vals res z a2 w2 ι2 k2 v2 (hl.trans hl2)
   | ex i => exact hK (.ex i) s' a' w' ι' k1 v1 hl hk h'
   | rt => exact hK .rt s' a' w' ι' k1 v1 hl hk h'
  ·obtain ⟨fn, tmps, assign, body, q1, q2⟩ := hY args vals res z a' w' ι' k1 v1 hl S hr hy
   refine ⟨fn, tmps, assign, body, q1, q2.mono ?_⟩
   rintro e w'' ⟨b, he, X', keep', w0', rb, hrb, S4, hend⟩
   refine ⟨b, he, X', keep', w0', rb, hrb, S4, fun e3 s3 a3 w3 ι3 k3 v3 hl3 hk S6 => ?_⟩
   cases e3 with
   | nm => exact z0L hm hP hΔ y hL.2 s3 KP Q a3 w3 ι3 k3 v3 S6 hk fun e s2 a2 w2 ι2 k2 v2 hl2 hk2 S7 => hend e s2 a2 w2 ι2 k2 v2 (hl3.trans hl2) hk2 S7
   | ex i => exact hend (.ex i) s3 a3 w3 ι3 k3 v3 hl3 hk S6
   | rt => exact hend .rt s3 a3 w3 ι3 k3 v3 hl3 hk S6
 | .cond c x y, hL, R, r, s, K, KP, Y, Q, a, w, ι, keep, w0, h, hev, hK, hY => by
  simp only [evY] at hev
  have hc := z4U h.f.tm c
  split at hev
  ·rename_i g hg
   rw [hg, z0s] at hc
   refine wpIn_cond hc ?_
   split at hev
   ·rename_i ht
    subst ht
    exact z2R hm hP hΔ hn0 x hL.1 s K KP Y Q a w ι keep w0 h hev hK hY
   ·rename_i ht
    have ht : g = false := by simpa using ht
    subst ht
    exact z2R hm hP hΔ hn0 y hL.2 s K KP Y Q a w ι keep w0 h hev hK hY
  ·cases hev
 | .block id c, hL, R, r, s, K, KP, Y, Q, a, w, ι, keep, w0, h, hev, hK, hY => by
  simp only [evY] at hev
  refine wpIn_block (z2R hm hP hΔ hn0 c hL s _ _ Y _ a w ι keep w0 h hev (fun e s' a' w' ι' k1 v1 hl hk h' => ?_) fun args vals res z a' w' ι' k1 v1 hl S hr hy => ?_)
  ·cases e with
   | nm => exact hK .nm s' a' w' ι' k1 v1 hl hk h'
   | ex i =>
    simp only at hk
    show (Exit.inBlock id Q) (.exit i) a' w'
    simp only [Exit.inBlock]
    split at hk
    ·rename_i hi
     rw [if_pos (Nat.eq_of_beq_eq_true hi)]
     exact hK .nm s' a' w' ι' k1 v1 hl hk h'
    ·rename_i hi
     rw [if_neg (fun q => hi (by rw [q]; exact Nat.beq_refl _))]
     exact hK (.ex i) s' a' w' ι' k1 v1 hl hk h'
   | rt => exact hK .rt s' a' w' ι' k1 v1 hl hk h'
  ·obtain ⟨fn, tmps, assign, body, q1, q2⟩ := hY args vals res z a' w' ι' k1 v1 hl S hr hy
   refine ⟨fn, tmps, assign, body, q1, q2.mono ?_⟩
   rintro e w'' ⟨b, he, X', keep', w0', rb, hrb, S4, hend⟩
   refine ⟨b, he, X', keep', w0', rb, hrb, S4, fun e3 s3 a3 w3 ι3 k3 v3 hl3 hk S6 => ?_⟩
   cases e3 with
   | nm => exact hend .nm s3 a3 w3 ι3 k3 v3 hl3 hk S6
   | ex i =>
    simp only at hk
    show (Exit.inBlock id Q) (.exit i) a3 w3
    simp only [Exit.inBlock]
    split at hk
    ·rename_i hi
     rw [if_pos (Nat.eq_of_beq_eq_true hi)]
     exact hend .nm s3 a3 w3 ι3 k3 v3 hl3 hk S6
    ·rename_i hi
     rw [if_neg (fun q => hi (by rw [q]; exact Nat.beq_refl _))]
     exact hend (.ex i) s3 a3 w3 ι3 k3 v3 hl3 hk S6
   | rt => exact hend .rt s3 a3 w3 ι3 k3 v3 hl3 hk S6
 | .skip, hL, R, r, s, K, KP, Y, Q, a, w, ι, keep, w0, h, hev, hK, hY => wpIn_skip (hK .nm s a w ι keep w0 (z1x.refl _ _) hev h)
 | .exit id, hL, R, r, s, K, KP, Y, Q, a, w, ι, keep, w0, h, hev, hK, hY => wpIn_exit (hK (.ex id) s a w ι keep w0 (z1x.refl _ _) hev h)
 | .ret, hL, R, r, s, K, KP, Y, Q, a, w, ι, keep, w0, h, hev, hK, hY => wpIn_ret (hK .rt s a w ι keep w0 (z1x.refl _ _) hev h)
 | .loop c, hL, R, r, s, K, KP, Y, Q, a, w, ι, keep, w0, h, hev, hK, hY => z0L hm hP hΔ (.loop c) hL s K Q a w ι keep w0 h hev hK
 | .rangeFunc .., _, _, _, _, _, _, _, _, _, _, _, _, _, _, hev, _, _ => by cases hev
 | .scope _, _, _, _, _, _, _, _, _, _, _, _, _, _, _, hev, _, _ => by cases hev
 | .label _, _, _, _, _, _, _, _, _, _, _, _, _, _, _, hev, _, _ => by cases hev
 | .goto _, _, _, _, _, _, _, _, _, _, _, _, _, _, _, hev, _, _ => by cases hev
 | .refuse _, _, _, _, _, _, _, _, _, _, _, _, _, _, _, hev, _, _ => by cases hev
end
end Go.Proofs.Rf
namespace Go.Proofs.Rf
open Go Go.RowKit
section
variable {X keep : Nat → Prop} {w0 w : World} {ι : Nat → Option Value} {C : Nat → Blk}
theorem HRel.jump (h : HRel X keep w0 ι C w) {W : World} (hs : w.heap.size ≤ W.heap.size) (hsame : ∀ b, b < w.heap.size → okb X w ι C b ∨ owned ι C b → W.heap[b]? = w.heap[b]?) (keep' : Nat → Prop) (hk : ∀ b, keep' b → b < W.heap.size ∧ ¬ owned ι C b) :
  HRel (fun b => b < W.heap.size ∧ ¬ okb X w ι C b ∧ ¬ owned ι C b) keep' W ι C W ∧ ∀ v u, RelV w (okb X w ι C) ι v u → RelV W (okb (fun b => b < W.heap.size ∧ ¬ okb X w ι C b ∧ ¬ owned ι C b) W ι C) ι v u := by
 have hok : ∀ g, okb X w ι C g → okb (fun b => b < W.heap.size ∧ ¬ okb X w ι C b ∧ ¬ owned ι C b) W ι C g := fun g hg => ⟨Nat.lt_of_lt_of_le hg.1 hs, hg.2.1, fun hx => hx.2.1 hg⟩
 have hcell : ∀ g o v, okb X w ι C g → w.cell? ⟨g, o, none⟩ = some v → W.cell? ⟨g, o, none⟩ = some v := by
  intro g o v hg hv
  rw [← hv]; exact World.cell?_of_block (hsame g hg.1 (.inl hg))
 have hown : ∀ b, owned ι C b → W.heap[b]? = w.heap[b]? := fun b ho => hsame b (h.lt ho) (.inr ho)
 refine ⟨⟨fun k => ?_, h.inj, Kept.refl _ _, fun b hb hkb => (hk b hkb).2 hb, fun b hb => (hk b hb).1, fun b hb hx => hx.2.2 hb, fun b hb => hb.1, h.gl.mono fun g hg => ⟨hok g hg, hsame g hg.1 (.inl hg)⟩⟩, fun v u hv => z1w hcell hok (fun _ _ e => e) v u hv⟩
 have hB := h.bl k
 cases hC : C k with
 | row t e xs rw =>
  rw [hC] at hB
  cases rw with
  | true =>
   obtain ⟨v, cs, h1, h2, h3⟩ := hB
   refine ⟨v, cs, h1, ⟨h2.1, ?_⟩, z0w (z0m hcell hok t) h3⟩
   rcases h2.2 with h4 | ⟨g, cap, cur, hv, h5, h6, h7⟩
   ·exact .inl h4
   ·refine .inr ⟨g, cap, cur, hv, h5, ?_, h7⟩
    rw [hown g ⟨k, by unfold bk; rw [hC, h1, hv]; exact List.mem_singleton_self _⟩]
    exact h6
  | false =>
   obtain ⟨v, h1, h0, h2⟩ := hB
   exact ⟨v, h1, h0, z0m hcell hok _ _ _ h2⟩
 | box e cs =>
  rw [hC] at hB
  obtain ⟨g, us, h1, h2, h3⟩ := hB
  refine ⟨g, us, h1, ?_, z1l hcell hok (fun _ _ e => e) cs us h3⟩
  rw [hown g ⟨k, by unfold bk; rw [hC, h1]; exact List.mem_singleton_self _⟩]
  exact h2
 | it s pos =>
  rw [hC] at hB
  obtain ⟨g, h1, h2⟩ := hB
  refine ⟨g, h1, ?_⟩
  rw [hown g ⟨k, by unfold bk; rw [hC, h1]; exact List.mem_singleton_self _⟩]
  exact h2
 | map kt va vt l =>
  rw [hC] at hB
  obtain ⟨g, es, ck, l', h1, h2, h3, h4, h5, h6⟩ := hB
  refine ⟨g, es, ck, l', h1, ?_, h3, h4, h5, z3h hcell hok h6⟩
  rw [hown g ⟨k, by unfold bk; rw [hC, h1]; exact List.mem_singleton_self _⟩]
  exact h2
 | nr t it e ie xs =>
  rw [hC] at hB
  obtain ⟨arr, u, vs, cs, h1, h2, h3, h4, h5⟩ := hB
  have hin : ∀ v ∈ u :: vs, ∀ b, v.ownBlock = some b → W.heap[b]? = w.heap[b]? := fun v hv b hb => hown b ⟨k, by
   unfold bk
   rw [hC, h1]
   exact List.mem_filterMap.2 ⟨v, by rw [h2]; exact hv, hb⟩⟩
  exact ⟨arr, u, vs, cs, h1, h2, z0R h3 (hin u (List.mem_cons_self ..)), z1L hcell hok h4 (fun v hv => hin v (List.mem_cons_of_mem _ hv)), h5⟩
 | nz t it xs =>
  rw [hC] at hB
  obtain ⟨arr, u, vs, h1, h2, h3, h4, h5⟩ := hB
  exact ⟨arr, u, vs, h1, h2, z3i (fun l us q => z0m hcell hok _ l us q) h3, h4, z0m hcell hok _ _ _ h5⟩
 | bz cs =>
  rw [hC] at hB
  obtain ⟨v, h1, h2⟩ := hB
  exact ⟨v, h1, z1w hcell hok (fun _ _ e => e) _ _ h2⟩
 | dead => trivial
end
def rootIn (pins : List Nat) (j : Nat) : List (Nat × SV) → Bool
 | [] => false
 | (t, .pt b _) :: r => (Nat.beq b j && memN t pins) || rootIn pins j r
 | _ :: r => rootIn pins j r
def rooted (pins : List Nat) (sl : List (Nat × SV)) : Nat → List SB → Bool
 | _, [] => true
 | j, .box _ _ :: r => rootIn pins j sl && rooted pins sl (j + 1) r
 | _, _ => false
def nodupS : List (Nat × SV) → Bool
 | [] => true
 | p :: r => !(memN p.1 (slotsOf r)) && nodupS r
theorem z6T : ∀ (sl : List (Nat × SV)) (x : denS sl) (t : Nat) (sv : SV), nodupS sl = true → (t, sv) ∈ sl → ∃ y : sv.den, getT (putS sl x) t = sv.put y
 | p :: r, x, t, sv, hn, h => by
  simp only [nodupS, Bool.and_eq_true, Bool.not_eq_true'] at hn
  rcases List.mem_cons.1 h with rfl | h
  ·refine ⟨x.1, ?_⟩
   simp only [putS, getT]
   rw [if_pos (Nat.beq_refl _)]
  ·obtain ⟨y, hy⟩ := z6T r x.2 t sv hn.2 h
   refine ⟨y, ?_⟩
   simp only [putS, getT]
   rw [if_neg (fun q => ?_)]
   ·exact hy
   ·have q := Nat.eq_of_beq_eq_true q
    have hm : ∀ {l : List (Nat × SV)}, (t, sv) ∈ l → t ∈ slotsOf l := by
     intro l
     induction l with
     | nil => intro h; cases h
     | cons a l ih =>
      intro h
      simp only [slotsOf, List.mem_cons]
      rcases List.mem_cons.1 h with rfl | h
      ·exact .inl rfl
      ·exact .inr (ih h)
    have := hm h
    rw [q, z1y.2 this] at hn
    cases hn.1
theorem z3G {pins : List Nat} {j : Nat} : ∀ {sl : List (Nat × SV)}, rootIn pins j sl = true → ∃ t o, (t, SV.pt j o) ∈ sl ∧ t ∈ pins
 | [], h => by cases h
 | (t, .pt b o) :: r, h => by
  simp only [rootIn, Bool.or_eq_true, Bool.and_eq_true] at h
  rcases h with ⟨h1, h2⟩ | h
  ·rw [Nat.eq_of_beq_eq_true h1]
   exact ⟨t, o, List.mem_cons_self .., z1y.1 h2⟩
  ·obtain ⟨t', o', h1, h2⟩ := z3G h
   exact ⟨t', o', List.mem_cons_of_mem _ h1, h2⟩
 | (t, .d _ _) :: r, h | (t, .rf _) :: r, h | (t, .rs _ _) :: r, h | (t, .rz _ _) :: r, h | (t, .ud) :: r, h | (t, .fn _ _) :: r, h | (t, .mp _) :: r, h | (t, .np) :: r, h | (t, .mnil) :: r, h | (t, .nl) :: r, h | (t, .ro _) :: r, h | (t, .fs _ _) :: r, h | (t, .ag _) :: r, h | (t, .ve _) :: r, h => by
  simp only [rootIn] at h
  obtain ⟨t', o', h1, h2⟩ := z3G h
  exact ⟨t', o', List.mem_cons_of_mem _ h1, h2⟩
theorem z3F {pins : List Nat} {sl : List (Nat × SV)} : ∀ {bl : List SB} {j0 : Nat}, rooted pins sl j0 bl = true → ∀ j, j < bl.length → (∃ e cs, bl[j]? = some (.box e cs)) ∧ rootIn pins (j0 + j) sl = true
 | [], _, _, j, hj => by simp at hj
 | .box _ cs :: r, j0, h, 0, _ => by
  simp only [rooted, Bool.and_eq_true] at h
  exact ⟨⟨_, cs, rfl⟩, h.1⟩
 | .box _ cs :: r, j0, h, j + 1, hj => by
  simp only [rooted, Bool.and_eq_true] at h
  obtain ⟨h1, h2⟩ := z3F h.2 j (by simpa using hj)
  refine ⟨by simpa using h1, ?_⟩
  rwa [show j0 + 1 + j = j0 + (j + 1) by omega] at h2
 | .row _ _ :: r, _, h, _, _ => by cases h
 | .it :: r, _, h, _, _ => by cases h
 | .map _ _ _ :: r, _, h, _, _ => by cases h
 | .nr _ _ _ _ :: r, _, h, _, _ => by cases h
theorem putB_box : ∀ (l : List SB) (x : denB l) (j e : Nat) (cs : List SV), l[j]? = some (.box e cs) → ∃ vs, getB (putB l x) j = .box e vs
 | [], _, _, _, _, h => by simp at h
 | a :: r, x, 0, e, cs, h => by
  simp only [List.getElem?_cons_zero, Option.some.injEq] at h
  subst h
  exact ⟨_, rfl⟩
 | a :: r, x, j + 1, e, cs, h => putB_box r x.2 j e cs (by simpa using h)
theorem rooted_owned {X keep : Nat → Prop} {w0 w : World} {n : z0N} {ι : Nat → Option Value} {sh : Shape} {x : sh.den} {a : Act} (h : SRel X keep w0 n ι (sh.put x) a w) {pins : List Nat} (hr : rooted pins sh.sl 0 sh.bl = true) (hn : nodupS sh.sl = true) {b : Nat} (hb : owned ι (getB (sh.put x).bl) b) :
  ∃ t ∈ pins, ∃ o, a.tmps.getD t undef = .pointer (some ⟨b, o, none⟩) := by
 obtain ⟨j, hj⟩ := hb
 have hl : j < sh.bl.length := by
  rcases Nat.lt_or_ge j sh.bl.length with q | q
  ·exact q
  ·have : getB (sh.put x).bl j = .dead := z2E _ _ (by rw [show (sh.put x).bl.length = sh.bl.length from z0C _ _]; exact q)
   rw [z0S this] at hj
   cases hj
 obtain ⟨⟨e, cs, h1⟩, h2⟩ := z3F hr j hl
 rw [Nat.zero_add] at h2
 obtain ⟨t, o, h3, h4⟩ := z3G h2
 obtain ⟨y, hy⟩ := z6T sh.sl x.1 t _ hn h3
 have ht := h.f.tm t
 rw [show getT (sh.put x).tm t = _ from hy] at ht
 simp only [SV.put, RelV] at ht
 obtain ⟨g, g1, g2⟩ := ht
 obtain ⟨vs, hvs⟩ := putB_box sh.bl x.2 j e cs h1
 unfold bk at hj
 rw [show getB (sh.put x).bl j = _ from hvs, g1] at hj
 have hj : b = g := List.mem_singleton.1 hj
 subst hj
 exact ⟨t, h4, o, g2⟩
def capG {El : Type} (psh : Shape) (D : psh.den → Option (List El)) (C : Nat → Blk) (cs : List AV) : Option (List El) :=
 if (nodupN (blkB C psh.bl 0 (blkS (getT (numT 1 cs)) psh.sl [])) && Nat.beq cs.length psh.sl.length) = true then
  (match takeS C (getT (numT 1 cs)) (blkB C psh.bl 0 (blkS (getT (numT 1 cs)) psh.sl [])) psh.sl with
  | some (x, []) => match takeB C (blkB C psh.bl 0 (blkS (getT (numT 1 cs)) psh.sl [])) psh.bl (blkB C psh.bl 0 (blkS (getT (numT 1 cs)) psh.sl [])) with
   | some (y, []) => D (x, y)
   | _ => none
  | _ => none)
 else none
section
variable (TT : Tab) (Δ : Nat → Option z0K) (ok : Nat → Bool) (Λ : Nat → Option z0Y) {El : Type}
noncomputable def stepY (rid j : Nat) (mid head : Shape) (elOf : List AV → Option El) (id : Nat) (c : Code) (x : head.den) : Option (RY head.den El) :=
 evY TT Δ ok Λ rid j mid c (head.put x)
  (fun e s => match e with
   | .nm => (match head.take s with
    | some y => some (.go y)
    | none => none)
   | .ex i => if Nat.beq i id = true then some .done else none
   | .rt => some .done)
  (fun e s => match e with
   | .nm => (match head.take s with
    | some y => some (.go y)
    | none => none)
   | .ex i => if Nat.beq i id = true then some .done else none
   | .rt => some .done)
  fun args res => match elOf args with
   | some e => match res true, res false with
    | some (.go y), some .done => some (.yl e y)
    | _, _ => none
   | none => none
end
def colY {A El : Type} (f : A → Option (RY A El)) : Nat → A → Option (List El)
 | 0, _ => none
 | k + 1, x => match f x with
  | some (.go y) => colY f k y
  | some .done => some []
  | some (.yl e y) => match colY f k y with
   | some r => some (e :: r)
   | none => none
  | none => none
def allPt : List (Nat × SV) → Bool
 | [] => true
 | (_, .pt _ _) :: r => allPt r
 | _ => false
theorem takeS_pt {C : Nat → Blk} {T : Nat → AV} {ρ : List Nat} : ∀ {sl : List (Nat × SV)} {x : denS sl} {f : List (Nat × Blk)}, takeS C T ρ sl = some (x, f) → allPt sl = true → ∀ t, t ∈ slotsOf sl → ∃ j o i, (t, SV.pt j o) ∈ sl ∧ T t = .pt i o ∧ ρ[j]? = some i
 | [], _, _, _, _, t, ht => by cases ht
 | (u, .pt b o) :: r, x, f, h, ha, t, ht => by
  simp only [takeS] at h
  split at h
  ·rename_i x1 f1 e1
   split at h
   ·rename_i x2 f2 e2
    rcases List.mem_cons.1 ht with rfl | ht
    ·cases hT : T t <;> rw [hT] at e1 <;> simp only [SV.take] at e1 <;> (try (cases e1; done))
     rename_i i o'
     split at e1
     ·rename_i hi
      simp only [Bool.and_eq_true] at hi
      rw [Nat.eq_of_beq_eq_true hi.2] at hT ⊢
      exact ⟨b, o, i, List.mem_cons_self .., rfl, z3A hi.1⟩
     ·cases e1
    ·obtain ⟨j, o', i, q1, q2, q3⟩ := takeS_pt e2 ha t ht
     exact ⟨j, o', i, List.mem_cons_of_mem _ q1, q2, q3⟩
   ·cases h
  ·cases h
 | (_, .d _ _) :: _, _, _, _, ha, _, _ | (_, .rf _) :: _, _, _, _, ha, _, _ | (_, .rs _ _) :: _, _, _, _, ha, _, _ | (_, .rz _ _) :: _, _, _, _, ha, _, _ | (_, .ud) :: _, _, _, _, ha, _, _ | (_, .fn _ _) :: _, _, _, _, ha, _, _ => by cases ha
theorem z6q {C : Nat → Blk} {ρ : List Nat} : ∀ {l : List SB} {is : List Nat} {y : denB l} {f : List (Nat × Blk)}, takeB C ρ l is = some (y, f) → ∀ (j i e : Nat) (cs : List SV), l[j]? = some (SB.box e cs) → is[j]? = some i → ∃ e' vs, C i = Blk.box e' vs
 | [], _, _, _, _, j, i, e, cs, hj, _ => by simp at hj
 | a :: r, [], _, _, h, _, _, _, _, _, _ => by simp only [takeB] at h; cases h
 | a :: r, k :: is, y, f, h, j, i, e, cs, hj, hi => by
  simp only [takeB] at h
  split at h
  ·rename_i x1 f1 e1
   split at h
   ·rename_i x2 f2 e2
    cases j with
    | zero =>
     simp only [List.getElem?_cons_zero, Option.some.injEq] at hj hi
     subst hj; subst hi
     cases hC : C k with
     | box e' vs => exact ⟨e', vs, rfl⟩
     | row t e xs rw => rw [hC] at e1; cases rw <;> simp only [SB.take] at e1 <;> cases e1
     | it s p => rw [hC] at e1; simp only [SB.take] at e1; cases e1
     | map kt va vt l => rw [hC] at e1; simp only [SB.take] at e1; cases e1
     | nr _ _ _ _ _ => rw [hC] at e1; simp only [SB.take] at e1; cases e1
     | nz _ _ _ => rw [hC] at e1; simp only [SB.take] at e1; cases e1
     | bz _ => rw [hC] at e1; simp only [SB.take] at e1; cases e1
     | dead => rw [hC] at e1; simp only [SB.take] at e1; cases e1
    | succ j => exact z6q e2 j i e cs (by simpa using hj) (by simpa using hi)
   ·cases h
  ·cases h
theorem z4P : ∀ {vs : List AV} {i t : Nat} {k o : Nat}, getT (numT i vs) t = .pt k o → k ∈ AV.idsL vs
 | [], _, _, _, _, h => by simp only [numT, getT] at h; cases h
 | v :: r, i, t, k, o, h => by
  simp only [numT, getT] at h
  split at h
  ·rw [h]
   simp [AV.idsL, AV.ids]
  ·have := z4P h
   simp [AV.idsL, this]
theorem z2Y : ∀ {sl : List (Nat × SV)} {i t : Nat}, slotsFrom i sl = true → i ≤ t → t < i + sl.length → t ∈ slotsOf sl
 | [], i, t, _, h1, h2 => by simp at h2; omega
 | p :: r, i, t, h, h1, h2 => by
  simp only [slotsFrom, Bool.and_eq_true] at h
  have e := Nat.eq_of_beq_eq_true h.1
  simp only [slotsOf, List.mem_cons]
  rcases Nat.eq_or_lt_of_le h1 with q | q
  ·exact .inl (by omega)
  ·exact .inr (z2Y h.2 (by omega) (by simp only [List.length_cons] at h2; omega))
theorem meetN_nil : ∀ l : List Nat, meetN l [] = false
 | [] => rfl
 | k :: r => by simp [meetN, memN, meetN_nil r]
structure IterText (P : Program) (f : Nat) (fn : Func) (m : Nat) (pre : Option Code) (id : Nat) (c : Code) (psh head mid : Shape) : Prop where
 at_ : P.funcs[f]? = some fn
 body : fn.body = some (match pre with
  | some p => .seq p (.block id (.loop c))
  | none => .block id (.loop c))
 name : (fn.name == "runtime.NumGoroutine") = false
 res : fn.results = #[]
 len : Nat.blt m fn.ntmps = true
 slots : slotsFrom 1 psh.sl = true
 lenm : Nat.beq psh.sl.length m = true
 rootp : rooted (z0u 1 m) psh.sl 0 psh.bl = true
 ptp : allPt psh.sl = true
 ndp : nodupS psh.sl = true
 rooth : rooted (z0u 1 m) head.sl 0 head.bl = true
 rootm : rooted (z0u 1 m) mid.sl 0 mid.bl = true
 ndh : nodupS head.sl = true
 ndm : nodupS mid.sl = true
def iterSlots (base k : Nat) : z0N := ⟨false, base, upTo k, fun tm => tm.size = k, (z0M base k).lt, (z0M base k).set⟩
noncomputable def startY (TT : Tab) (Δ : Nat → Option z0K) (ok : Nat → Bool) (Λ : Nat → Option z0Y) (pre : Option Code) (head psh : Shape) (x : psh.den) : Option head.den :=
 match pre with
 | none => head.take (psh.put x)
 | some p => evC TT Δ ok Λ p (psh.put x) fun e s => match e with
  | .nm => head.take s
  | _ => none
section
variable {P : Program} {TT : Tab} {Δ : Nat → Option z0K} {Λ : Nat → Option z0Y} {El : Type}
theorem iterOK_of (hm : P.follows .mixedOrders = true) (hP : z0q P TT) (hΔ : z0O P Δ) {f : Nat} {fn : Func} {m : Nat} {pre : Option Code} {id : Nat} {c : Code} {psh head mid : Shape} {encs : El → List Value} {elOf : List AV → Option El} {rid j : Nat}
  (hT : IterText P f fn m pre id c psh head mid) (hel : ∀ args e w ok ι vals, elOf args = some e → RelL w ok ι args vals → vals = encs e)
  (hL : ∀ n : z0N, n.ok = z0I (upTo fn.ntmps) (z0u 0 (m + 1)) → LoopsIn P n none Λ c ∧ ∀ p, pre = some p → LoopsIn P n none Λ p) {D : psh.den → Option (List El)}
  (hD : ∀ x xs, D x = some xs → ∃ x0 k, startY TT Δ (z0I (upTo fn.ntmps) (z0u 0 (m + 1))) Λ pre head psh x = some x0 ∧ colY (stepY TT Δ (z0I (upTo fn.ntmps) (z0u 0 (m + 1))) Λ rid j mid head elOf id c) k x0 = some xs) : z5f P f encs (capG psh D) := by
 refine ⟨⟨fn, hT.at_, hT.name, by rw [hT.body]; rfl⟩, ?_⟩
 intro X keep w0 w ι C cs us xs O h hv hcap hokO hcO l J Jx W hwl hlW hwW hsame hJ hJl hJm hJxm hyield
 unfold capG at hcap
 generalize hρ : blkB C psh.bl 0 (blkS (getT (numT 1 cs)) psh.sl []) = ρ at hcap
 split at hcap
 ·rename_i hc1
  simp only [Bool.and_eq_true] at hc1
  have hnd := z2n hc1.1
  have hal := Nat.eq_of_beq_eq_true hc1.2
  split at hcap
  ·rename_i x e1
   split at hcap
   ·rename_i y e2
    obtain ⟨x0, k0, hst, hcol⟩ := hD (x, y) xs hcap
    let yv : Value := .func (.yield l) #[] #[]
    let V : Nat → Value := fun t => (yv :: us).getD t undef
    have hlm : psh.sl.length = m := Nat.eq_of_beq_eq_true hT.lenm
    have hul : us.length = m := (z0j hv).trans (hal.trans hlm)
    have hmk : m < fn.ntmps := Nat.le_of_ble_eq_true hT.len
    have hTV : ∀ t, RelV w (okb X w ι C) ι (getT (numT 1 cs) t) (V t) := by
     intro t
     cases t with
     | zero =>
      rw [(z1u cs us 1 0 hv).2 0 (by omega)]
      simp only [RelV]
     | succ t =>
      have := (z1u cs us 1 t hv).1
      rw [Nat.add_comm] at this
      simpa [V] using this
    obtain ⟨_, _, _, hbl, hbk, hbk', hrel⟩ := z4b h hTV e1 e2 (by show meetN ρ [] = false; exact meetN_nil ρ)
    have hbk : ∀ j b, b ∈ bk (fun j => (ρ[j]?).bind ι) (getB (putB psh.bl y)) j → ∃ i, ρ[j]? = some i ∧ b ∈ bk ι C i := hbk
    have hrel : ∀ ok' : Nat → Prop, (∀ g, okb X w ι C g → ok' g) → (∀ j, RelB w ok' (fun j => (ρ[j]?).bind ι) j (getB (putB psh.bl y) j)) ∧ ∀ t, RelV w ok' (fun j => (ρ[j]?).bind ι) (getT (putS psh.sl x) t) (V t) := hrel
    let Cp := Capt ι C cs
    have hCp : ∀ t ∈ z0u 1 m, ∀ b o, V t = .pointer (some ⟨b, o, none⟩) → Cp b := by
     intro t ht b o hvt
     have ht' := z1D.1 ht
     have hts : t ∈ slotsOf psh.sl := z2Y hT.slots ht'.1 (by omega)
     obtain ⟨j', o', i, q1, q2, q3⟩ := takeS_pt e1 hT.ptp t hts
     have hl : j' < psh.bl.length := by rw [hbl]; exact (List.getElem?_eq_some_iff.1 q3).1
     obtain ⟨⟨ee, cs', q4⟩, _⟩ := z3F hT.rootp j' hl
     obtain ⟨_, vs, q5⟩ := z6q e2 j' i ee cs' q4 q3
     have q6 := hTV t
     rw [q2, hvt] at q6
     simp only [RelV] at q6
     obtain ⟨g, g1, g2⟩ := q6
     injection g2 with g2
     injection g2 with g2
     injection g2 with g2 _
     refine ⟨i, z4P q2, ?_⟩
     unfold bk
     rw [q5, g1, g2]
     exact List.mem_singleton_self _
    let ι' : Nat → Option Value := fun j => (ρ[j]?).bind ι
    let C' := getB (putB psh.bl y)
    have hown : ∀ b, owned ι' C' b → owned ι C b := by
     rintro b ⟨j', hj⟩
     obtain ⟨i, _, hi⟩ := hbk j' b hj
     exact ⟨i, hi⟩
    let X0 : Nat → Prop := fun b => b < w.heap.size ∧ ¬ okb X w ι C b ∧ ¬ owned ι' C' b
    have hokc : ∀ b, okb X w ι C b → okb X0 w ι' C' b := fun b hb => ⟨hb.1, fun ho => hb.2.1 (hown b ho), fun hx => hx.2.1 hb⟩
    obtain ⟨hB, hTt⟩ := hrel (okb X0 w ι' C') hokc
    have Hc : HRel X0 (fun b => b < w.heap.size ∧ ¬ owned ι' C' b) w ι' C' w := ⟨hB, fun j j' b h1 h2 => by
      obtain ⟨i, hi, hb⟩ := hbk j b h1
      obtain ⟨i', hi', hb'⟩ := hbk j' b h2
      have e := h.inj i i' b hb hb'
      subst e
      have hlt := (List.getElem?_eq_some_iff.1 hi).1
      exact (List.getElem?_inj hlt hnd).1 (hi.trans hi'.symm), Kept.refl _ _, fun b hb hk => hk.2 hb, fun b hb => hb.1, fun b hb hx => hx.2.2 hb, fun b hb => hb.1, h.gl.mono fun g hg => ⟨hokc g hg, rfl⟩⟩
    let args : Array Value := #[yv] ++ us.toArray
    let a0 : Act := { tmps := args ++ Array.replicate (fn.ntmps - args.size) undef, defers := [] }
    have hasz : args.size = m + 1 := by simp only [args, Array.size_append, List.size_toArray, hul]; simp; omega
    have ha0 : ∀ t, a0.tmps.getD t undef = V t := by
     intro t
     have hargs : args = (yv :: us).toArray := by simp [args]
     show (args ++ Array.replicate (fn.ntmps - args.size) undef).getD t undef = (yv :: us).getD t undef
     rw [hargs, Array.getD_eq_getD_getElem?, List.getD_eq_getElem?_getD]
     rcases Nat.lt_or_ge t (yv :: us).length with ht | ht
     ·rw [Array.getElem?_append_left (by simpa using ht)]
      simp
     ·rw [Array.getElem?_append_right (by simpa using ht), List.getElem?_eq_none ht, Array.getElem?_replicate]
      split <;> rfl
    let n : z0N := z2L (iterSlots W.heap.size fn.ntmps) (z0u 0 (m + 1)) a0
    have hsz0 : a0.tmps.size = fn.ntmps := by
     simp only [a0, Array.size_append, Array.size_replicate]
     omega
    have hn0 : ∀ tm, n.G tm → tm.getD 0 undef = .func (.yield l) #[] #[] := fun tm hg => by
     rw [hg.2 0 (z1D.2 ⟨Nat.le_refl _, by omega⟩), ha0]
     rfl
    have hpin : ∀ tm, n.G tm → ∀ t ∈ z0u 1 m, tm.getD t undef = V t := fun tm hg t ht => by
     have := z1D.1 ht
     rw [hg.2 t (z1D.2 ⟨by omega, by omega⟩), ha0]
    have hcapt : ∀ {X' keep' w0' w' ι'' sh} {z : Shape.den sh} {a'}, SRel X' keep' w0' n ι'' (sh.put z) a' w' → rooted (z0u 1 m) sh.sl 0 sh.bl = true → nodupS sh.sl = true → ∀ b, owned ι'' (getB (sh.put z).bl) b → Cp b := by
     intro X' keep' w0' w' ι'' sh z a' S hr hn b hb
     obtain ⟨t, ht, o, hv⟩ := rooted_owned S hr hn hb
     exact hCp t ht b o ((hpin _ S.f.size t ht).symm.trans hv)
    have hCpw : ∀ b, Cp b → b < w.heap.size := by rintro b ⟨k, _, hb⟩; exact h.lt ⟨k, hb⟩
    have hCpO : ∀ b, Cp b → ¬ O b := hcO
    have hownCp : ∀ b, owned ι' C' b → Cp b := by
     rintro b ⟨j', hj⟩
     have hl : j' < psh.bl.length := by
      rcases Nat.lt_or_ge j' psh.bl.length with q | q
      ·exact q
      ·have : C' j' = .dead := z2E _ _ (by rw [z0C]; exact q)
       rw [z0S this] at hj
       cases hj
     obtain ⟨i, hi, hb⟩ := hbk j' b hj
     obtain ⟨⟨ee, cs', q4⟩, q5⟩ := z3F hT.rootp j' hl
     rw [Nat.zero_add] at q5
     obtain ⟨t, o, q6, q7⟩ := z3G q5
     have ht' := z1D.1 q7
     have hts : t ∈ slotsOf psh.sl := z2Y hT.slots ht'.1 (by omega)
     have q8 : getT (putS psh.sl x) t = .pt j' o := by
      obtain ⟨yy, hyy⟩ := z6T psh.sl x t _ hT.ndp q6
      exact hyy
     have q9 := (hrel (okb X0 w ι' C') hokc).2 t
     rw [q8] at q9
     simp only [RelV] at q9
     obtain ⟨g, g1, g2⟩ := q9
     have g3 : (ρ[j']?).bind ι = some (.pointer (some ⟨g, 0, none⟩)) := g1
     rw [hi] at g3
     have g3 : ι i = some (.pointer (some ⟨g, 0, none⟩)) := g3
     obtain ⟨_, vs, q10⟩ := z6q e2 j' i ee cs' q4 hi
     unfold bk at hb
     rw [q10, g3] at hb
     have hb : b = g := List.mem_singleton.1 hb
     subst hb
     exact hCp t q7 b o g2
    let keepV : World → Nat → Prop := fun V b => b < V.heap.size ∧ ¬ Cp b
    obtain ⟨HW, HWv⟩ := Hc.jump hwW (fun b hb _ => hsame b hb) (keepV W) (fun b hb => ⟨hb.1, fun ho => hb.2 (hownCp b ho)⟩)
    obtain ⟨XW, hXW⟩ : ∃ XW : Nat → Prop, XW = fun b => b < W.heap.size ∧ ¬ okb X0 w ι' C' b ∧ ¬ owned ι' C' b := ⟨_, rfl⟩
    rw [← hXW] at HW HWv
    have hjl : (psh.put (x, y)).bl.length = ρ.length := by rw [← hbl]; exact z0C _ _
    have SW : SRel XW (keepV W) W n ι' (psh.put (x, y)) a0 W := by
     refine ⟨⟨HW, fun t => ?_, ⟨hsz0, fun _ _ => rfl⟩, Nat.le_refl _, fun _ => rfl, trivial⟩, fun j' hj => ?_⟩
     ·rw [ha0 t]; exact HWv _ _ (hTt t)
     ·show (ρ[j']?).bind ι = none
      rw [List.getElem?_eq_none (by omega)]
      rfl
    have hXWO : ∀ b, b < W.heap.size → ¬ XW b → ¬ O b ∧ b ≠ l := by
     intro b hb hx
     have hcase : okb X0 w ι' C' b ∨ owned ι' C' b := Classical.byContradiction fun q => hx (by rw [hXW]; exact ⟨hb, fun q1 => q (.inl q1), fun q1 => q (.inr q1)⟩)
     rcases hcase with q | q
     ·have hbw := q.1
      have hq2 : okb X w ι C b ∨ owned ι' C' b := Classical.byContradiction fun q1 => q.2.2 ⟨hbw, fun q2 => q1 (.inl q2), fun q2 => q1 (.inr q2)⟩
      refine ⟨?_, by omega⟩
      rcases hq2 with q1 | q1
      ·exact hokO b q1
      ·exact hcO b (hownCp b q1)
     ·have := hownCp b q
      exact ⟨hcO b this, by have := hCpw b this; omega⟩
    let R : Ending → World → Prop := fun e W' => (∃ v, e = .returned v) ∧ ((∃ O', J xs O' W') ∨ Jx W')
    have fin : ∀ {X' keep' w0' w' ι'' s' a'}, SRel X' keep' w0' n ι'' s' a' w' → ((∃ O', J xs O' w') ∨ Jx w') → a'.defers = [] ∧ ∃ v, (results fn a'.tmps).run P w' = .ok v w' ∧ R (.returned v) w' := by
     intro X' keep' w0' w' ι'' s' a' S hR
     obtain ⟨_, v, r1, _⟩ := z2i (fn := fn) (vs := []) hP S (by rw [hT.res]; rfl)
     exact ⟨S.f.defers.2.1 rfl, v, r1, ⟨v, rfl⟩, hR⟩
    let step := stepY TT Δ (z0I (upTo fn.ntmps) (z0u 0 (m + 1))) Λ rid j mid head elOf id c
    let Inv : Nat → Act → World → Prop := fun k a w => ∃ pre rest x ι X V O, SRel X (keepV V) V n ι (head.put x) a w ∧ xs = pre ++ rest ∧ colY step k x = some rest ∧ J pre O V ∧ W.heap.size ≤ V.heap.size ∧ l < V.heap.size ∧ (∀ b, b < V.heap.size → ¬ X b → ¬ O b ∧ b ≠ l) ∧ ∀ b, Cp b → ¬ O b
    have turned : ∀ {X' keep' w0' w' ι'' s' a' V}, SRel X' keep' w0' n ι'' s' a' w' → z1x (keepV V) V keep' w0' → z2G Cp V w' := by
     intro X' keep' w0' w' ι'' s' a' V S hlat
     refine ⟨S.f.h.fr.os.trans hlat.kept.os, S.f.h.fr.tape.trans hlat.kept.tape, S.f.h.fr.output.trans hlat.kept.output, Nat.le_trans hlat.kept.size S.f.h.fr.size, fun b hb hc => ?_⟩
     exact (S.f.h.fr.block b (hlat.mono b ⟨hb, hc⟩) (Nat.lt_of_lt_of_le hb hlat.kept.size)).trans (hlat.kept.block b ⟨hb, hc⟩ hb)
    have back : ∀ {X' keep' w0' w' ι'' s' a' V}, SRel X' keep' w0' n ι'' s' a' w' → z1x (keepV V) V keep' w0' → (∀ b, X' b → b < V.heap.size) → W.heap.size ≤ V.heap.size → SRel X' (keepV V) V n ι'' s' a' w' := by
     intro X' keep' w0' w' ι'' s' a' V S hlat hXl hWV
     have hd := S.f.defers.2.1 rfl
     exact ⟨⟨S.f.h.weaken hlat.mono hlat.kept (fun b hb => hb.1) hXl, S.f.tm, S.f.size, hWV, fun _ => hd, by rw [hd]; trivial⟩, S.dom⟩
    obtain ⟨hLc, hLp⟩ := hL n rfl
    have loop : ∀ k a w', Inv k a w' → (Code.loop c).wpIn (WF none) 2 P (Exit.inBlock id (bodyPost P fn R)) a w' := by
     intro k a w' hI
     refine z7M Inv ?_ ?_ hI
     ·rintro a w ⟨pre, rest, x, ι, X, V, O, _, _, hc, _⟩
      cases hc
     ·rintro k a w ⟨pre, rest, x, ι1, X1, V1, O1, S1, hxs, hc, hJ1, hWV, hlV, hX1, hC1⟩
      simp only [colY] at hc
      have hXl : ∀ b, X1 b → b < V1.heap.size := fun b hb => S1.f.h.xl b hb
      have hJl1 : ∀ b, O1 b → b < V1.heap.size := hJl _ _ _ hJ1
      cases hsx : step x with
      | none => rw [hsx] at hc; cases hc
      | some r =>
       rw [hsx] at hc
       have hst' := hsx
       refine z2R (n := n) (rid := rid) (j := j) (mid := mid) (l := l) hm hP hΔ hn0 c hLc _ _ _ _ _ a w ι1 (keepV V1) V1 S1 hst' (fun e s' a' w' ι2 k2 v2 hlat hk S2 => ?_) fun args vals res z a' w' ι2 k2 v2 hlat S2 hargs hY => ?_
       ·
        have ht := turned S2 hlat
        cases e with
        | nm =>
         simp only at hk
         split at hk
         ·rename_i y hy
          injection hk with hk
          subst hk
          obtain ⟨ι3, S3⟩ := Shape.z0A S2 hy
          exact ⟨pre, rest, y, ι3, X1, V1, O1, back S3 hlat hXl hWV, hxs, hc, hJ1, hWV, hlV, hX1, hC1⟩
         ·cases hk
        | ex i =>
         simp only at hk
         split at hk
         ·rename_i hi
          injection hk with hk
          subst hk
          injection hc with hc
          subst hc
          rw [List.append_nil] at hxs
          show (Exit.inBlock id (bodyPost P fn R)) (.exit i) a' w'
          simp only [Exit.inBlock]
          rw [if_pos (Nat.eq_of_beq_eq_true hi)]
          exact fin S2 (.inl ⟨O1, by rw [hxs]; exact hJm _ _ _ _ hJ1 ht⟩)
         ·cases hk
        | rt =>
         simp only at hk
         injection hk with hk
         subst hk
         injection hc with hc
         subst hc
         rw [List.append_nil] at hxs
         exact fin S2 (.inl ⟨O1, by rw [hxs]; exact hJm _ _ _ _ hJ1 ht⟩)
       ·
        split at hY
        ·rename_i e he
         split at hY
         ·rename_i y hrt hrf
          injection hY with hY
          subst hY
          simp only at hc
          split at hc
          ·rename_i rest' hrest
           injection hc with hc
           subst hc
           have ht := turned S2 hlat
           have hJ2 := hJm _ _ _ _ hJ1 ht
           obtain ⟨ok3, ι3, hr3⟩ := hargs
           rw [hel args e w' ok3 ι3 vals he hr3]
           obtain ⟨fy, tmps, assign, body, q1, q2⟩ := hyield pre e ⟨rest', by rw [hxs]; simp⟩ O1 w' hJ2
           refine ⟨fy, tmps, assign, body, q1, q2.mono ?_⟩
           have hcm : ∀ b, owned ι2 (getB (mid.put z).bl) b → Cp b := hcapt S2 hT.rootm hT.ndm
           have hV1w : V1.heap.size ≤ w'.heap.size := ht.size
           have hokm : ∀ b, b < w'.heap.size → okb X1 w' ι2 (getB (mid.put z).bl) b ∨ owned ι2 (getB (mid.put z).bl) b → ¬ O1 b ∧ b ≠ l := by
            intro b hb hor
            rcases hor with q | q
            ·rcases Nat.lt_or_ge b V1.heap.size with q3 | q3
             ·exact hX1 b q3 q.2.2
             ·exact ⟨fun ho => absurd (hJl1 b ho) (by omega), by omega⟩
            ·have := hcm b q
             exact ⟨hC1 b this, by have := hCpw b this; omega⟩
           have hW2 : W.heap.size ≤ w'.heap.size := Nat.le_trans hWV hV1w
           have hd2 := S2.f.defers.2.1 rfl
           have after : ∀ W'', w'.heap.size ≤ W''.heap.size → (∀ b, b < w'.heap.size → okb X1 w' ι2 (getB (mid.put z).bl) b ∨ owned ι2 (getB (mid.put z).bl) b → W''.heap[b]? = w'.heap[b]?) →
             ∃ X2 : Nat → Prop, SRel X2 (keepV W'') W'' n ι2 (mid.put z) a' W'' ∧ ∀ b, b < W''.heap.size → ¬ X2 b → okb X1 w' ι2 (getB (mid.put z).bl) b ∨ owned ι2 (getB (mid.put z).bl) b := by
            intro W'' hs hsm
            obtain ⟨H3, H3v⟩ := S2.f.h.jump hs hsm (keepV W'') (fun b hb => ⟨hb.1, fun ho => hb.2 (hcm b ho)⟩)
            refine ⟨_, ⟨⟨H3, fun t => H3v _ _ (S2.f.tm t), S2.f.size, Nat.le_trans hW2 hs, fun _ => hd2, by rw [hd2]; trivial⟩, S2.dom⟩, fun b hb hx => ?_⟩
            exact Classical.byContradiction fun q => hx ⟨hb, fun q1 => q (.inl q1), fun q1 => q (.inr q1)⟩
           rintro e' W'' (⟨rfl, O2, hJ3, hys⟩ | ⟨rfl, hJx3, hys⟩)
           ·obtain ⟨X2, S3, hX2⟩ := after W'' hys.size (fun b hb hor => by
             obtain ⟨q3, q4⟩ := hokm b hb hor
             exact hys.block b hb q3 q4)
            refine ⟨true, rfl, X2, keepV W'', W'', .go y, hrt, S3, fun e3 s3 a3 w3 ι3 k3 v3 hl3 hk3 S4 => ?_⟩
            cases e3 with
            | nm =>
             simp only at hk3
             split at hk3
             ·rename_i y' hy'
              injection hk3 with hk3
              injection hk3 with hk3
              subst hk3
              obtain ⟨ι4, S5⟩ := Shape.z0A S4 hy'
              have hlW2 : l < W''.heap.size := Nat.lt_of_lt_of_le (Nat.lt_of_lt_of_le hlV hV1w) hys.size
              refine ⟨pre ++ [e], rest', y', ι4, X2, W'', O2, back S5 hl3 (fun b hb => S3.f.h.xl b hb) (Nat.le_trans hW2 hys.size), by rw [hxs]; simp, hrest, hJ3, Nat.le_trans hW2 hys.size, hlW2, fun b hb hx => ?_, fun b hb ho => ?_⟩
              ·have q3 := hX2 b hb hx
               have hbw : b < w'.heap.size := by
                rcases q3 with q3 | q3
                ·exact q3.1
                ·exact Nat.lt_of_lt_of_le (hCpw b (hcm b q3)) (Nat.le_trans hwW hW2)
               obtain ⟨q4, q5⟩ := hokm b hbw q3
               exact ⟨fun ho => q4 (hys.own b hbw ho), q5⟩
              ·exact hC1 b hb (hys.own b (Nat.lt_of_lt_of_le (hCpw b hb) (Nat.le_trans hwW hW2)) ho)
             ·cases hk3
            | ex i =>
             simp only at hk3
             split at hk3
             ·cases hk3
             ·cases hk3
            | rt => cases hk3
           ·obtain ⟨X2, S3, hX2⟩ := after W'' hys.size (fun b hb hor => by
             obtain ⟨q3, q4⟩ := hokm b hb hor
             exact hys.block b hb q3 q4)
            refine ⟨false, rfl, X2, keepV W'', W'', .done, hrf, S3, fun e3 s3 a3 w3 ι3 k3 v3 hl3 hk3 S4 => ?_⟩
            have hJx4 : Jx w3 := hJxm _ _ hJx3 (turned S4 hl3)
            cases e3 with
            | nm =>
             simp only at hk3
             split at hk3
             ·cases hk3
             ·cases hk3
            | ex i =>
             simp only at hk3
             split at hk3
             ·rename_i hi
              show (Exit.inBlock id (bodyPost P fn R)) (.exit i) a3 w3
              simp only [Exit.inBlock]
              rw [if_pos (Nat.eq_of_beq_eq_true hi)]
              exact fin S4 (.inr hJx4)
             ·cases hk3
            | rt => exact fin S4 (.inr hJx4)
          ·cases hc
         ·cases hY
        ·cases hY
    have start : ∀ {X' keep' w0' w' ι'' a'}, SRel X' keep' w0' n ι'' (head.put x0) a' w' → z1x (keepV W) W keep' w0' → (∀ b, X' b → XW b) → (∀ b, XW b → X' b) → (Code.loop c).wpIn (WF none) 2 P (Exit.inBlock id (bodyPost P fn R)) a' w' := by
     intro X' keep' w0' w' ι'' a' S hlat hX1 hX2
     refine loop k0 a' w' ⟨[], xs, x0, ι'', X', W, O, back S hlat (fun b hb => by have := hX1 b hb; rw [hXW] at this; exact this.1) (Nat.le_refl _), rfl, hcol, hJ, Nat.le_refl _, hlW, fun b hb hx => hXWO b hb (fun q => hx (hX2 b q)), hCpO⟩
    refine callsIn_of_wp (F := WF none) (n := 2) hT.at_ hT.body trivial ?_ rfl
    cases hpre : pre with
    | none =>
     rw [hpre] at hst
     simp only [startY] at hst
     obtain ⟨ι3, S3⟩ := Shape.z0A SW hst
     exact wpIn_block (start S3 (z1x.refl _ _) (fun _ q => q) (fun _ q => q))
    | some p =>
     rw [hpre] at hst
     simp only [startY] at hst
     refine wpIn_seq (z0L (n := n) hm hP hΔ p (hLp p hpre) _ _ _ a0 W ι' (keepV W) W SW hst fun e s' a' w1 ι1 k1 v1 hlat hk S1 => ?_)
     cases e with
     | nm =>
      obtain ⟨ι3, S3⟩ := Shape.z0A S1 hk
      exact wpIn_block (start S3 hlat (fun _ q => q) (fun _ q => q))
     | ex i => cases hk
     | rt => cases hk
   ·cases hcap
  ·cases hcap
 ·cases hcap
end
end Go.Proofs.Rf
namespace Go.Proofs.Rf
open Go Go.RowKit
def Coll {A B El : Type} (start : A → Option B) (f : B → Option (RY B El)) (D : A → Option (List El)) : Prop := ∀ x xs, D x = some xs → ∃ x0 k, start x = some x0 ∧ colY f k x0 = some xs
def colK {A B El : Type} (start : A → Option B) (f : B → Option (RY B El)) (k : Nat) (x : A) : Option (List El) := (start x).bind (colY f k)
theorem coll_colK {A B El : Type} (start : A → Option B) (f : B → Option (RY B El)) (k : Nat) : Coll start f (colK start f k) := by
 intro x xs h
 obtain ⟨x0, h1, h2⟩ := z0H h
 exact ⟨x0, k, h1, h2⟩
def preOf (f : Func) : Code := match z1N f with
 | .seq p _ => p
 | _ => .skip
theorem iterOK_at {P : Program} {TT : Tab} {El : Type} (hm : P.follows .mixedOrders = true) (hP : z0q P TT) {Δ : List (Nat × z0K)} (hΔ : z2H P Δ) {Λ : List (Nat × z0Y)} {f : Nat} {fn : Func} {m : Nat} {pre : Option Code} {id : Nat} {c : Code} {psh head mid : Shape} {encs : El → List Value} {elOf : List AV → Option El} {rid j : Nat}
  (hT : IterText P f fn m pre id c psh head mid) (hel : ∀ args e w ok ι vals, elOf args = some e → RelL w ok ι args vals → vals = encs e)
  (hL : z3D P (z0I (upTo fn.ntmps) (z0u 0 (m + 1))) true Λ c) (hLp : ∀ p, pre = some p → z3D P (z0I (upTo fn.ntmps) (z0u 0 (m + 1))) true Λ p) {D : psh.den → Option (List El)}
  (hD : Coll (startY TT (lookL Δ) (z0I (upTo fn.ntmps) (z0u 0 (m + 1))) (lookL Λ) pre head psh) (stepY TT (lookL Δ) (z0I (upTo fn.ntmps) (z0u 0 (m + 1))) (lookL Λ) rid j mid head elOf id c) D) : z5f P f encs (capG psh D) :=
 iterOK_of hm hP (z2p hΔ) hT hel (fun n hn => ⟨hL n hn none (.inl rfl), fun p hp => hLp p hp n hn none (.inl rfl)⟩) hD
end Go.Proofs.Rf
namespace Go.Proofs.Rf
open Go Go.RowKit
end Go.Proofs.Rf
namespace Go.Proofs.Rf
open Go Go.RowKit
end Go.Proofs.Rf
