/- Printed by mp.py: functions of the program as plain Lean, each by the kernel. -/
import Derived.Test.YtdjbhonncjcbjaaTG
import Derived.Test.YtdjbhonncjcbjaaProg
import Derived.KernelRfl
set_option linter.unusedVariables false
set_option linter.unusedSimpArgs false
namespace Go.Proofs.Ytdjbhonncjcbjaa.T
open Go Go.RowKit Go.Proofs
set_option maxRecDepth 100000

def keepT : Nat → Keep := keepOf [(3, [(0, false, [0, 1, 2, 3]), (1, false, [0, 1, 2, 3]), (2, false, [2, 3, 9]), (3, false, [3, 9, 11]), (4, false, [9, 11, 12]), (5, false, [9, 11, 12, 13, 14, 15]), (6, false, [9, 11, 12, 13, 14, 15, 16, 17, 18]), (7, false, [9, 11, 12, 13, 14, 15, 16, 17, 18, 19, 21])]),
  (4, [(0, false, [0, 1, 2]), (1, false, [0, 1, 2]), (2, false, [2, 7, 8]), (3, false, [7, 8, 9]), (4, false, [7, 8, 9, 10, 11]), (5, false, [7, 8, 9, 10, 11, 12, 13]), (6, false, [8, 9, 10, 11, 12, 13, 14, 15])]),
  (5, [(0, false, [0, 1]), (1, false, [0, 1]), (2, false, [1, 5]), (3, false, [5, 6]), (4, false, [5, 6, 7, 8]), (5, false, [5, 6, 7, 8, 9, 10]), (6, false, []), (7, true, [5, 6, 7]), (8, false, [7]), (9, true, [5, 6, 7]), (10, false, [5, 6, 7, 11, 12]), (11, false, [7, 11, 12, 13, 14])]),
  (6, [(0, false, [0, 1, 2]), (1, false, [0, 1, 2]), (2, false, [1, 2, 7]), (3, false, []), (4, false, [1, 2, 7]), (5, false, [1, 2, 7, 8]), (6, false, [2, 7, 8, 9]), (7, false, [2, 7, 8, 9, 10]), (8, false, [2, 7, 8, 9, 10]), (9, true, [2, 7, 8, 9, 10]), (10, true, [7, 8]), (11, false, [7, 8, 11, 12]), (12, false, [7, 8, 11, 12, 13, 14])]),
  (7, [(0, false, [0, 1]), (1, false, [0, 1]), (2, false, [1, 5]), (3, false, []), (4, false, [1, 5]), (5, false, [5, 6]), (6, false, [5, 6, 7]), (7, false, [5, 7]), (8, false, [5, 7, 8, 9]), (9, false, [5, 7, 8, 9, 10, 11])]),
  (8, [(0, false, [0, 1, 2, 3]), (1, false, [0, 1, 2, 3]), (2, false, [2, 3, 9, 10]), (3, false, [3, 9, 10, 11]), (4, false, [9, 10, 11, 12]), (5, false, [9, 10, 12, 13, 14]), (6, false, []), (7, true, [9, 10, 12, 13]), (8, false, [9, 10, 12, 13, 15]), (9, false, [9, 10, 12, 13, 15, 16]), (10, false, [9, 10, 12, 13, 15, 16]), (11, false, [9, 10, 12, 13, 15, 16]), (12, false, []), (13, true, [9, 10, 12, 13, 15, 16]), (14, false, [9, 10, 12, 13, 15, 16, 17]), (15, false, [9, 10, 12, 13, 15, 16, 17]), (16, false, [9, 10, 12, 13, 15, 16, 17]), (17, false, []), (18, false, [9, 10, 12, 13, 15, 16]), (19, false, [9, 10, 12, 13, 15, 16]), (20, false, [12, 15])]),
  (9, [(0, false, [0, 1]), (1, false, [0, 1]), (2, false, [1, 5]), (3, false, [5, 6]), (4, false, [5, 6, 7, 8]), (5, false, [5, 6, 7, 8, 9, 10]), (6, false, [6, 7, 8, 9, 10, 11, 12]), (7, false, [6, 7, 8, 9, 10, 11, 12, 13, 14]), (8, false, [8, 10, 11, 12, 13, 14, 15, 16])]),
  (10, [(0, false, [0, 1]), (1, false, [0, 1]), (2, false, [1, 5]), (3, false, [5, 6]), (4, false, [5, 6, 7, 8]), (5, false, [6, 7, 8, 9, 10]), (6, false, [6, 7, 8, 9, 10, 11, 12]), (7, false, [7, 8, 9, 10, 11, 12, 13, 14])]),
  (11, [(0, false, [0, 1]), (1, false, [0, 1]), (2, false, [1, 5]), (3, false, [5, 6]), (4, false, [5, 6, 7, 8]), (5, false, [5, 6, 7, 8, 9, 10]), (6, false, [5, 6, 7, 8, 9, 10, 11, 12]), (7, false, [6, 7, 8, 9, 10, 11, 12, 14])]),
  (12, [(0, false, [0, 1, 2, 3]), (1, false, [0, 1, 2, 3]), (2, false, [2, 3, 9, 10]), (3, false, [3, 9, 10, 11]), (4, false, [9, 10, 11, 12]), (5, false, [9, 10, 11, 12, 13, 14]), (6, false, [9, 10, 11, 13, 14, 15, 16]), (7, false, []), (8, true, [9, 10, 11, 13, 15]), (9, false, [9, 10, 11, 13, 15, 17]), (10, false, [9, 10, 11, 13, 15, 17, 18]), (11, false, [9, 10, 11, 13, 15, 17, 18]), (12, false, [9, 10, 11, 13, 15, 17, 18]), (13, false, []), (14, true, [9, 10, 11, 13, 15, 17, 18]), (15, false, [9, 10, 11, 13, 15, 17]), (16, false, []), (17, true, [9, 11, 13, 17]), (18, false, [9, 11, 13, 17, 19]), (19, false, [9, 11, 13, 17, 19]), (20, false, [9, 11, 13, 17, 19]), (21, false, [9, 11, 13, 17, 19, 20, 21, 22]), (22, false, [9, 11, 13, 17, 19, 20, 21, 22, 23]), (23, false, [9, 11, 13, 17, 19, 20, 21, 22, 23, 24]), (24, false, [9, 11, 13, 17, 19, 20, 21, 22, 23, 24]), (25, false, [9, 11, 13, 17, 19, 20, 21, 22, 23, 24]), (26, false, [9, 11, 13, 17, 19, 20, 21, 22, 23, 24]), (27, false, [9, 11, 13, 17, 19, 22, 23]), (28, false, []), (29, false, [])]),
  (13, [(0, false, [0, 1]), (1, false, [0, 1]), (2, false, [1, 5]), (3, false, [5, 6]), (4, false, [5, 6, 7, 8]), (5, false, [5, 6, 7, 8, 9, 10]), (6, false, []), (7, true, [5, 6, 7]), (8, false, [5, 6, 7, 11]), (9, false, [5, 6, 7, 11]), (10, false, [5, 6, 7, 11]), (11, false, []), (12, false, [5, 6, 7, 11]), (13, false, [5, 6, 7, 11, 12]), (14, false, [5, 6, 7, 11, 12]), (15, false, [5, 6, 7, 11, 12]), (16, false, []), (17, false, [5, 6, 7, 11]), (18, false, []), (19, true, [5, 6, 7, 11]), (20, false, [5, 6, 7, 11, 13, 14]), (21, false, [5, 6, 7, 11, 13, 14, 15, 16]), (22, false, []), (23, false, [])]),
  (14, [(0, false, [0, 1]), (1, false, [0, 1]), (2, false, [1, 6])]),
  (15, [(0, false, [0, 1]), (1, false, [0, 1]), (2, false, [0, 1]), (3, false, [0, 1]), (4, false, [0])]),
  (16, [(0, false, [0, 1]), (1, false, [0, 1]), (2, false, []), (3, true, [0, 1])]),
  (17, [(0, false, [0, 1, 2]), (1, false, [0, 1, 2]), (2, false, [0, 1, 2, 8]), (3, false, []), (4, true, [0, 1, 2]), (5, false, [1, 2, 9])]),
  (18, [(0, false, [0, 1]), (1, false, [0, 1]), (2, false, []), (3, false, [0, 1])]),
  (19, [(0, false, [0, 1]), (1, false, [0, 1]), (2, false, [0, 5])]),
  (20, [(0, false, []), (1, false, []), (2, false, [1, 2])]),
  (21, [(0, false, [0]), (1, false, [0, 2])]),
  (22, [(0, false, [0, 1]), (1, false, [0, 1]), (2, false, []), (3, false, [0, 1]), (4, false, [0, 1, 5]), (5, false, [0, 1, 5]), (6, false, [0, 1, 5]), (7, false, []), (8, false, [])]),
  (23, [(0, false, [0, 1, 2, 3]), (1, false, [0, 1, 2, 3]), (2, false, [0, 1, 2, 3, 10]), (3, false, []), (4, true, [0, 1, 2, 3]), (5, false, [0, 1, 2, 11, 12]), (6, false, [0, 1, 2, 11, 12, 13]), (7, false, [0, 1, 2, 11, 12]), (8, true, [0, 1, 2, 11, 13]), (9, false, [0, 1, 2, 11, 13, 14]), (10, false, [0, 1, 2, 11, 13]), (11, true, [0, 1, 2, 11, 13, 14]), (12, false, [0, 1, 2, 11, 13, 14, 15]), (13, false, [0, 1, 2, 11, 13, 15, 53, 54]), (14, false, [0, 1, 2, 11, 13, 15, 53, 54]), (15, false, [0, 1, 2, 11, 13, 15, 16, 53, 54]), (16, false, [0, 1, 2, 11, 13, 15, 16, 17, 53, 54]), (17, false, [0, 1, 2, 11, 13, 15, 17, 53, 54]), (18, true, [0, 1, 2, 11, 13, 15, 17, 53, 54]), (19, false, [0, 1, 2, 11, 13, 15, 53, 54]), (20, false, [15])]),
  (24, [(0, false, [0, 1]), (1, false, [1, 2, 4]), (2, false, [4]), (3, false, [1, 2, 4]), (4, false, [1, 4, 6]), (5, false, [1, 4, 6]), (6, false, [1, 4, 6]), (7, false, [4, 6])]),
  (25, [(0, false, [0, 1, 2]), (1, false, [2, 3, 4, 6]), (2, false, [6]), (3, true, [2, 3, 4, 6]), (4, false, [2, 6, 8, 9]), (5, false, [6, 8, 9, 10]), (6, false, [6, 8, 9, 10, 40]), (7, false, [6, 8, 9, 10, 40]), (8, false, [6, 8, 9, 10, 11, 40]), (9, false, [6, 8, 9, 10, 11, 12, 40]), (10, false, [6, 8, 9, 10, 11, 12, 40]), (11, false, [6, 8, 9, 10, 11, 12, 40]), (12, false, [6, 8, 9, 10, 40]), (13, false, [6, 9])]),
  (26, [(0, false, [0, 1, 2]), (1, false, [0, 1, 2]), (2, false, [0, 1, 2, 7]), (3, false, [0, 1, 2, 7, 8]), (4, false, [0, 1, 2, 7, 8, 9]), (5, false, [0, 1, 2, 7, 8, 9]), (6, true, [0, 1, 2, 7, 8, 9]), (7, false, [0, 1, 2, 7, 8, 9, 10]), (8, false, [0, 1, 2, 7, 8, 9, 10]), (9, false, [0, 1, 2, 7, 8, 9]), (10, true, [2, 7]), (11, false, [2, 7, 11]), (12, false, [2, 7, 11, 12]), (13, false, [2, 7, 11, 12]), (14, false, [2, 7, 11, 12]), (15, false, [2, 7, 11, 12]), (16, false, [11])]),
  (27, [(0, false, [0, 1]), (1, false, [0, 1]), (2, false, []), (3, true, [0, 1]), (4, false, [0, 1, 6, 7]), (5, false, [0, 1, 6, 7, 17, 18, 19]), (6, false, [0, 1, 6, 7, 17, 18, 19]), (7, false, [0, 1, 6, 7, 8, 9, 17, 18, 19]), (8, false, []), (9, true, [0, 1, 6, 7, 8, 9, 17, 18, 19]), (10, false, [0, 1, 6, 8, 9, 10, 17, 18, 19]), (11, false, [0, 1, 6, 8, 9, 10, 17, 18, 19]), (12, true, [0, 1, 6, 8, 9, 10, 17, 18, 19]), (13, false, [0, 1, 6, 9, 17, 18, 19]), (14, false, [0, 1, 6, 7, 17, 18, 19]), (15, false, [6])]),
  (28, [(0, false, [0, 1, 2]), (1, false, [0, 1, 2]), (2, false, []), (3, true, [0, 1, 2]), (4, false, [0, 1, 2, 8]), (5, false, [0, 1, 2, 8, 9]), (6, false, [0, 1, 2, 8, 9]), (7, false, [0, 1, 2, 8, 9]), (8, false, [0, 1, 2, 8, 9, 10]), (9, false, [0, 1, 2, 8, 9, 10]), (10, false, [0, 1, 2, 8, 9]), (11, false, [8])]),
  (29, [(0, false, [0, 1]), (1, false, [0, 1]), (2, false, []), (3, false, [0, 1]), (4, false, [0, 1, 5]), (5, false, [0, 1, 5]), (6, false, [0, 1, 5]), (7, false, []), (8, false, [])]),
  (30, [(0, false, [0, 1]), (1, false, [0, 1]), (2, false, []), (3, false, [0, 1])]),
  (31, [(0, false, [0, 1]), (1, false, [0, 1]), (2, false, [0, 1, 5]), (3, false, [0, 1, 5]), (4, true, [0, 1, 5]), (5, false, [0, 1, 5]), (6, false, [])]),
  (32, [(0, false, [0]), (1, false, [0])]),
  (33, [(0, false, [0]), (1, false, [1])]),
  (34, [(0, false, [0]), (1, false, [0])]),
  (35, [(0, false, [0, 1]), (1, false, [0, 1])]),
  (36, [(0, false, [0, 1]), (1, false, [0, 1])]),
  (37, [(0, false, [0, 1]), (1, false, [0, 1]), (2, false, [0, 1, 5]), (3, false, [0, 5, 7, 8]), (4, false, [0, 5, 7, 8]), (5, false, [0, 5, 6, 7, 8]), (6, false, [0, 5, 7, 8]), (7, false, [5])]),
  (38, [(0, false, [0]), (1, false, [1, 2])]),
  (39, [(0, false, [0, 1]), (1, false, [1, 2, 4]), (2, false, [1, 2, 4, 6]), (3, false, [1, 2, 4, 6]), (4, false, [1, 2, 4, 5, 6]), (5, false, [2, 4, 5, 6]), (6, false, [1, 2, 4, 6]), (7, false, [2, 4])]),
  (40, [(0, false, [0]), (1, false, [1, 2])]),
  (41, [(0, false, [0]), (1, false, [0])]),
  (42, [(0, false, [0, 1]), (1, false, [2, 3])]),
  (43, [(0, false, [0, 1]), (1, false, [1, 2]), (2, false, [2, 7]), (3, false, [2, 5]), (4, false, [2]), (1000007, false, [51]), (2000007, false, [2])]),
  (44, [(0, false, [0, 1, 2]), (1, false, [1, 2, 3]), (2, false, [1, 2, 3, 4]), (3, false, [1, 2, 3, 4, 5]), (4, false, [5])]),
  (45, [(0, false, [0, 1, 2, 3, 4, 5]), (1, false, [0, 1, 2, 3, 4, 5]), (2, false, [1, 3]), (3, false, [0, 1, 2, 4, 5]), (4, false, [1, 2, 4, 5, 8]), (5, false, [1, 2, 4, 5, 8]), (6, false, [1, 2, 4, 5, 8]), (7, false, [1, 2, 4, 5, 8]), (8, false, []), (9, false, [1, 2, 4, 5, 8]), (10, false, [])]),
  (46, [(0, false, [0]), (1, false, [0]), (2, false, []), (3, false, [0])])]

noncomputable def c3 : Code := (Try.f3.body).getD .skip

noncomputable def r3 : List ResultVar := Try.f3.results.toList

theorem F3_eq' (J : StepF (AV × AHeap × Nat) → StepF (AV × AHeap × Nat)) (n : Nat) (Y : YldF) (x0 : Int) (x1 : Int) (x2 : Int) (x3 : Int) (h : AHeap) (nx : Nat) : rootJ J Try.prog keepT (callP Try.prog keepT n) Y n 3 [(.int .i64 x0), (.int .i64 x1), (.int .i64 x2), (.int .i64 x3)] h nx =
    ((callP Try.prog keepT n) Y 14 [(.int .i64 x0), (.int .i64 x1)] h (nx + 9)).bind fun r1 =>
    (asTup 2 r1.1).bind fun d2 =>
    (asI .i64 (d2.getD 0 .bad)).bind fun n3 =>
    (asI .i64 (d2.getD 1 .bad)).bind fun n4 =>
    ((callP Try.prog keepT n) Y 15 [(.int .i64 x2), (.int .i64 65536)] r1.2.1 (r1.2.2 + 3)).bind fun r5 =>
    (asI .i64 r5.1).bind fun n6 =>
    ((callP Try.prog keepT n) Y 15 [(.int .i64 x3), (.int .i64 65536)] r5.2.1 (r5.2.2 + 3)).bind fun r7 =>
    (asI .i64 r7.1).bind fun n8 =>
    ((callP Try.prog keepT n) Y 16 [(.int .i64 n3), (.int .i64 n6)] r7.2.1 (r7.2.2 + 10)).bind fun r9 =>
    (asTup 3 r9.1).bind fun d10 =>
    (asI .i64 (d10.getD 0 .bad)).bind fun n11 =>
    (asI .i64 (d10.getD 1 .bad)).bind fun n12 =>
    (asI .i64 (d10.getD 2 .bad)).bind fun n13 =>
    ((callP Try.prog keepT n) Y 16 [(.int .i64 n3), (.int .i64 n8)] r9.2.1 (r9.2.2 + 10)).bind fun r14 =>
    (asTup 3 r14.1).bind fun d15 =>
    (asI .i64 (d15.getD 0 .bad)).bind fun n16 =>
    (asI .i64 (d15.getD 1 .bad)).bind fun n17 =>
    (asI .i64 (d15.getD 2 .bad)).bind fun n18 =>
    ((callP Try.prog keepT n) Y 16 [(.int .i64 n3), (.int .i64 (wrapA .i64 (n6 + 1)))] r14.2.1 (r14.2.2 + 11)).bind fun r19 =>
    (asTup 3 r19.1).bind fun d20 =>
    (asI .i64 (d20.getD 0 .bad)).bind fun n21 =>
    (asI .i64 (d20.getD 1 .bad)).bind fun n22 =>
    (asI .i64 (d20.getD 2 .bad)).bind fun n23 =>
    if ((n13 : Int) == 0) = true then
    (if ((n18 : Int) == 0) = true then
    (if ((n23 : Int) == 0) = true then
    (if (decide ((n11 : Int) ≥ 0)) = true then
    (if (decide ((n11 : Int) < n3)) = true then
    (if ((n21 : Int) != n11) = true then
    (if ((n11 : Int) == n16) = true then
    (some ((.bool (((n6 : Int) == n8) == ((n12 : Int) == n17))), r19.2.1, (r19.2.2 + 39)))
    else
    (some ((.bool (((n6 : Int) == n8) == false)), r19.2.1, (r19.2.2 + 39))))
    else
    (some ((.bool false), r19.2.1, (r19.2.2 + 39))))
    else
    (some ((.bool false), r19.2.1, (r19.2.2 + 39))))
    else
    (some ((.bool false), r19.2.1, (r19.2.2 + 39))))
    else
    (some ((.bool false), r19.2.1, (r19.2.2 + 39))))
    else
    (some ((.bool false), r19.2.1, (r19.2.2 + 39))))
    else
    (some ((.bool false), r19.2.1, (r19.2.2 + 39))) := by kernel_rfl

/-- quickset/quicksetkeep.SpotApart -/
theorem F3_eq (n : Nat) (Y : YldF) (x0 : Int) (x1 : Int) (x2 : Int) (x3 : Int) (h : AHeap) (nx : Nat) : callP Try.prog keepT (n + 1) Y 3 [(.int .i64 x0), (.int .i64 x1), (.int .i64 x2), (.int .i64 x3)] h nx =
    ((callP Try.prog keepT n) Y 14 [(.int .i64 x0), (.int .i64 x1)] h (nx + 9)).bind fun r1 =>
    (asTup 2 r1.1).bind fun d2 =>
    (asI .i64 (d2.getD 0 .bad)).bind fun n3 =>
    (asI .i64 (d2.getD 1 .bad)).bind fun n4 =>
    ((callP Try.prog keepT n) Y 15 [(.int .i64 x2), (.int .i64 65536)] r1.2.1 (r1.2.2 + 3)).bind fun r5 =>
    (asI .i64 r5.1).bind fun n6 =>
    ((callP Try.prog keepT n) Y 15 [(.int .i64 x3), (.int .i64 65536)] r5.2.1 (r5.2.2 + 3)).bind fun r7 =>
    (asI .i64 r7.1).bind fun n8 =>
    ((callP Try.prog keepT n) Y 16 [(.int .i64 n3), (.int .i64 n6)] r7.2.1 (r7.2.2 + 10)).bind fun r9 =>
    (asTup 3 r9.1).bind fun d10 =>
    (asI .i64 (d10.getD 0 .bad)).bind fun n11 =>
    (asI .i64 (d10.getD 1 .bad)).bind fun n12 =>
    (asI .i64 (d10.getD 2 .bad)).bind fun n13 =>
    ((callP Try.prog keepT n) Y 16 [(.int .i64 n3), (.int .i64 n8)] r9.2.1 (r9.2.2 + 10)).bind fun r14 =>
    (asTup 3 r14.1).bind fun d15 =>
    (asI .i64 (d15.getD 0 .bad)).bind fun n16 =>
    (asI .i64 (d15.getD 1 .bad)).bind fun n17 =>
    (asI .i64 (d15.getD 2 .bad)).bind fun n18 =>
    ((callP Try.prog keepT n) Y 16 [(.int .i64 n3), (.int .i64 (wrapA .i64 (n6 + 1)))] r14.2.1 (r14.2.2 + 11)).bind fun r19 =>
    (asTup 3 r19.1).bind fun d20 =>
    (asI .i64 (d20.getD 0 .bad)).bind fun n21 =>
    (asI .i64 (d20.getD 1 .bad)).bind fun n22 =>
    (asI .i64 (d20.getD 2 .bad)).bind fun n23 =>
    if ((n13 : Int) == 0) = true then
    (if ((n18 : Int) == 0) = true then
    (if ((n23 : Int) == 0) = true then
    (if (decide ((n11 : Int) ≥ 0)) = true then
    (if (decide ((n11 : Int) < n3)) = true then
    (if ((n21 : Int) != n11) = true then
    (if ((n11 : Int) == n16) = true then
    (some ((.bool (((n6 : Int) == n8) == ((n12 : Int) == n17))), r19.2.1, (r19.2.2 + 39)))
    else
    (some ((.bool (((n6 : Int) == n8) == false)), r19.2.1, (r19.2.2 + 39))))
    else
    (some ((.bool false), r19.2.1, (r19.2.2 + 39))))
    else
    (some ((.bool false), r19.2.1, (r19.2.2 + 39))))
    else
    (some ((.bool false), r19.2.1, (r19.2.2 + 39))))
    else
    (some ((.bool false), r19.2.1, (r19.2.2 + 39))))
    else
    (some ((.bool false), r19.2.1, (r19.2.2 + 39))))
    else
    (some ((.bool false), r19.2.1, (r19.2.2 + 39))) := F3_eq' go1 n Y x0 x1 x2 x3 h nx

noncomputable def c4 : Code := (Try.f4.body).getD .skip

noncomputable def r4 : List ResultVar := Try.f4.results.toList

theorem F4_eq' (J : StepF (AV × AHeap × Nat) → StepF (AV × AHeap × Nat)) (n : Nat) (Y : YldF) (x0 : Int) (x1 : Int) (x2 : Int) (h : AHeap) (nx : Nat) : rootJ J Try.prog keepT (callP Try.prog keepT n) Y n 4 [(.int .i64 x0), (.int .i64 x1), (.int .i64 x2)] h nx =
    ((callP Try.prog keepT n) Y 14 [(.int .i64 x0), (.int .i64 x1)] h (nx + 9)).bind fun r1 =>
    (asTup 2 r1.1).bind fun d2 =>
    (asI .i64 (d2.getD 0 .bad)).bind fun n3 =>
    (asI .i64 (d2.getD 1 .bad)).bind fun n4 =>
    ((callP Try.prog keepT n) Y 15 [(.int .i64 x2), (.int .i64 31)] r1.2.1 (r1.2.2 + 4)).bind fun r5 =>
    (asI .i64 r5.1).bind fun n6 =>
    ((callP Try.prog keepT n) Y 17 [(.int .i64 n3), (.int .i64 n4), (.int .i64 (wrapA .i64 (1 + n6)))] r5.2.1 (r5.2.2 + 9)).bind fun r7 =>
    (asTup 2 r7.1).bind fun d8 =>
    (asI .i64 (d8.getD 0 .bad)).bind fun n9 =>
    (asI .i64 (d8.getD 1 .bad)).bind fun n10 =>
    ((callP Try.prog keepT n) Y 17 [(.int .i64 n3), (.int .i64 n4), (.int .i64 (wrapA .i64 ((wrapA .i64 (1 + n6)) + 1)))] r7.2.1 (r7.2.2 + 10)).bind fun r11 =>
    (asTup 2 r11.1).bind fun d12 =>
    (asI .i64 (d12.getD 0 .bad)).bind fun n13 =>
    (asI .i64 (d12.getD 1 .bad)).bind fun n14 =>
    ((callP Try.prog keepT n) Y 17 [(.int .i64 n3), (.int .i64 n4), (.int .i64 1)] r11.2.1 (r11.2.2 + 8)).bind fun r15 =>
    (asTup 2 r15.1).bind fun d16 =>
    (asI .i64 (d16.getD 0 .bad)).bind fun n17 =>
    (asI .i64 (d16.getD 1 .bad)).bind fun n18 =>
    if ((n10 : Int) == 0) = true then
    (if ((n14 : Int) == 0) = true then
    (if ((n18 : Int) == 0) = true then
    (if ((n17 : Int) == (wrapA .i64 (n4 + 1))) = true then
    (if ((wrapA .i64 (n4 + 1)) : Int) = 0 then none else
    (if (((Int.tmod n9 (wrapA .i64 (n4 + 1))) : Int) == 0) = true then
    (if (decide ((n9 : Int) ≥ (wrapA .i64 ((wrapA .i64 (1 + n6)) + n4)))) = true then
    (some ((.bool (decide ((n13 : Int) ≥ n9))), r15.2.1, (r15.2.2 + 36)))
    else
    (some ((.bool false), r15.2.1, (r15.2.2 + 36))))
    else
    (some ((.bool false), r15.2.1, (r15.2.2 + 36)))))
    else
    (some ((.bool false), r15.2.1, (r15.2.2 + 36))))
    else
    (some ((.bool false), r15.2.1, (r15.2.2 + 36))))
    else
    (some ((.bool false), r15.2.1, (r15.2.2 + 36))))
    else
    (some ((.bool false), r15.2.1, (r15.2.2 + 36))) := by kernel_rfl

/-- quickset/quicksetkeep.CostRight -/
theorem F4_eq (n : Nat) (Y : YldF) (x0 : Int) (x1 : Int) (x2 : Int) (h : AHeap) (nx : Nat) : callP Try.prog keepT (n + 1) Y 4 [(.int .i64 x0), (.int .i64 x1), (.int .i64 x2)] h nx =
    ((callP Try.prog keepT n) Y 14 [(.int .i64 x0), (.int .i64 x1)] h (nx + 9)).bind fun r1 =>
    (asTup 2 r1.1).bind fun d2 =>
    (asI .i64 (d2.getD 0 .bad)).bind fun n3 =>
    (asI .i64 (d2.getD 1 .bad)).bind fun n4 =>
    ((callP Try.prog keepT n) Y 15 [(.int .i64 x2), (.int .i64 31)] r1.2.1 (r1.2.2 + 4)).bind fun r5 =>
    (asI .i64 r5.1).bind fun n6 =>
    ((callP Try.prog keepT n) Y 17 [(.int .i64 n3), (.int .i64 n4), (.int .i64 (wrapA .i64 (1 + n6)))] r5.2.1 (r5.2.2 + 9)).bind fun r7 =>
    (asTup 2 r7.1).bind fun d8 =>
    (asI .i64 (d8.getD 0 .bad)).bind fun n9 =>
    (asI .i64 (d8.getD 1 .bad)).bind fun n10 =>
    ((callP Try.prog keepT n) Y 17 [(.int .i64 n3), (.int .i64 n4), (.int .i64 (wrapA .i64 ((wrapA .i64 (1 + n6)) + 1)))] r7.2.1 (r7.2.2 + 10)).bind fun r11 =>
    (asTup 2 r11.1).bind fun d12 =>
    (asI .i64 (d12.getD 0 .bad)).bind fun n13 =>
    (asI .i64 (d12.getD 1 .bad)).bind fun n14 =>
    ((callP Try.prog keepT n) Y 17 [(.int .i64 n3), (.int .i64 n4), (.int .i64 1)] r11.2.1 (r11.2.2 + 8)).bind fun r15 =>
    (asTup 2 r15.1).bind fun d16 =>
    (asI .i64 (d16.getD 0 .bad)).bind fun n17 =>
    (asI .i64 (d16.getD 1 .bad)).bind fun n18 =>
    if ((n10 : Int) == 0) = true then
    (if ((n14 : Int) == 0) = true then
    (if ((n18 : Int) == 0) = true then
    (if ((n17 : Int) == (wrapA .i64 (n4 + 1))) = true then
    (if ((wrapA .i64 (n4 + 1)) : Int) = 0 then none else
    (if (((Int.tmod n9 (wrapA .i64 (n4 + 1))) : Int) == 0) = true then
    (if (decide ((n9 : Int) ≥ (wrapA .i64 ((wrapA .i64 (1 + n6)) + n4)))) = true then
    (some ((.bool (decide ((n13 : Int) ≥ n9))), r15.2.1, (r15.2.2 + 36)))
    else
    (some ((.bool false), r15.2.1, (r15.2.2 + 36))))
    else
    (some ((.bool false), r15.2.1, (r15.2.2 + 36)))))
    else
    (some ((.bool false), r15.2.1, (r15.2.2 + 36))))
    else
    (some ((.bool false), r15.2.1, (r15.2.2 + 36))))
    else
    (some ((.bool false), r15.2.1, (r15.2.2 + 36))))
    else
    (some ((.bool false), r15.2.1, (r15.2.2 + 36))) := F4_eq' go1 n Y x0 x1 x2 h nx

noncomputable def c5 : Code := (Try.f5.body).getD .skip

noncomputable def r5 : List ResultVar := Try.f5.results.toList

noncomputable def F5_J1' (W J : StepF (AV × AHeap × Nat) → StepF (AV × AHeap × Nat)) (call : YldF → CallF) (Y : YldF) (lf : Nat) (x5 : Int) (x6 : Int) (x7 : Int) (h : AHeap) (nx : Nat) : Option (AV × AHeap × Nat) :=
  goK W J drawK (machOf Try.prog) call Y (keepT 5) lf c5 [1, 1, 1, 1, 1, 1] [] (retK (machOf Try.prog) ⟨c5, 104, r5, keepT 5⟩) ⟨104, mkL [(5, (.int .i64 x5)), (6, (.int .i64 x6)), (7, (.int .i64 x7))]⟩ h nx

noncomputable def F5_J1 (call : YldF → CallF) (Y : YldF) (lf : Nat) (x5 : Int) (x6 : Int) (x7 : Int) (h : AHeap) (nx : Nat) : Option (AV × AHeap × Nat) := F5_J1' go1 go1 call Y lf x5 x6 x7 h nx

noncomputable def F5_J2' (W J : StepF (AV × AHeap × Nat) → StepF (AV × AHeap × Nat)) (call : YldF → CallF) (Y : YldF) (lf : Nat) (x5 : Int) (x6 : Int) (x7 : Int) (h : AHeap) (nx : Nat) : Option (AV × AHeap × Nat) :=
  goK W J drawK (machOf Try.prog) call Y (keepT 5) lf c5 [1, 1, 1, 1, 1, 1, 1] [] (retK (machOf Try.prog) ⟨c5, 104, r5, keepT 5⟩) ⟨104, mkL [(5, (.int .i64 x5)), (6, (.int .i64 x6)), (7, (.int .i64 x7))]⟩ h nx

noncomputable def F5_J2 (call : YldF → CallF) (Y : YldF) (lf : Nat) (x5 : Int) (x6 : Int) (x7 : Int) (h : AHeap) (nx : Nat) : Option (AV × AHeap × Nat) := F5_J2' go1 go1 call Y lf x5 x6 x7 h nx

theorem F5_J1_eq' (J : StepF (AV × AHeap × Nat) → StepF (AV × AHeap × Nat)) (call : YldF → CallF) (Y : YldF) (lf : Nat) (x5 : Int) (x6 : Int) (x7 : Int) (h : AHeap) (nx : Nat) : F5_J1' go1 J call Y lf x5 x6 x7 h nx =
    if ((x6 : Int) == 0) = true then
    (some ((.bool ((x7 : Int) == 1)), h, (nx + 10)))
    else
    (if ((x6 : Int) == x5) = true then
    (some ((.bool ((x7 : Int) == 1)), h, (nx + 10)))
    else
    (F5_J2' J J call Y lf x5 x6 x7 h (nx + 7))) := by kernel_rfl

theorem F5_J1_eq (call : YldF → CallF) (Y : YldF) (lf : Nat) (x5 : Int) (x6 : Int) (x7 : Int) (h : AHeap) (nx : Nat) : F5_J1 call Y lf x5 x6 x7 h nx =
    if ((x6 : Int) == 0) = true then
    (some ((.bool ((x7 : Int) == 1)), h, (nx + 10)))
    else
    (if ((x6 : Int) == x5) = true then
    (some ((.bool ((x7 : Int) == 1)), h, (nx + 10)))
    else
    (F5_J2 call Y lf x5 x6 x7 h (nx + 7))) := F5_J1_eq' go1 call Y lf x5 x6 x7 h nx

theorem F5_J2_eq' (J : StepF (AV × AHeap × Nat) → StepF (AV × AHeap × Nat)) (call : YldF → CallF) (Y : YldF) (lf : Nat) (x5 : Int) (x6 : Int) (x7 : Int) (h : AHeap) (nx : Nat) : F5_J2' go1 J call Y lf x5 x6 x7 h nx =
    (call Y 18 [(.int .i64 (wrapA .i64 (x5 - 1))), (.int .i64 (wrapA .i64 (x6 - 1)))] h (nx + 10)).bind fun r1 =>
    (asTup 2 r1.1).bind fun d2 =>
    (asI .i64 (d2.getD 0 .bad)).bind fun n3 =>
    (asI .i64 (d2.getD 1 .bad)).bind fun n4 =>
    (call Y 18 [(.int .i64 (wrapA .i64 (x5 - 1))), (.int .i64 x6)] r1.2.1 (r1.2.2 + 9)).bind fun r5 =>
    (asTup 2 r5.1).bind fun d6 =>
    (asI .i64 (d6.getD 0 .bad)).bind fun n7 =>
    (asI .i64 (d6.getD 1 .bad)).bind fun n8 =>
    if ((n4 : Int) == 0) = true then
    (if ((n8 : Int) == 0) = true then
    (if (decide ((n3 : Int) > 0)) = true then
    (if (decide ((n7 : Int) > 0)) = true then
    (if (decide ((n3 : Int) < 1048576)) = true then
    (if (decide ((n7 : Int) < 1048576)) = true then
    (some ((.bool ((x7 : Int) == (wrapA .i64 (n3 + n7)))), r5.2.1, (r5.2.2 + 30)))
    else
    (some ((.bool false), r5.2.1, (r5.2.2 + 30))))
    else
    (some ((.bool false), r5.2.1, (r5.2.2 + 30))))
    else
    (some ((.bool false), r5.2.1, (r5.2.2 + 30))))
    else
    (some ((.bool false), r5.2.1, (r5.2.2 + 30))))
    else
    (some ((.bool false), r5.2.1, (r5.2.2 + 30))))
    else
    (some ((.bool false), r5.2.1, (r5.2.2 + 30))) := by kernel_rfl

theorem F5_J2_eq (call : YldF → CallF) (Y : YldF) (lf : Nat) (x5 : Int) (x6 : Int) (x7 : Int) (h : AHeap) (nx : Nat) : F5_J2 call Y lf x5 x6 x7 h nx =
    (call Y 18 [(.int .i64 (wrapA .i64 (x5 - 1))), (.int .i64 (wrapA .i64 (x6 - 1)))] h (nx + 10)).bind fun r1 =>
    (asTup 2 r1.1).bind fun d2 =>
    (asI .i64 (d2.getD 0 .bad)).bind fun n3 =>
    (asI .i64 (d2.getD 1 .bad)).bind fun n4 =>
    (call Y 18 [(.int .i64 (wrapA .i64 (x5 - 1))), (.int .i64 x6)] r1.2.1 (r1.2.2 + 9)).bind fun r5 =>
    (asTup 2 r5.1).bind fun d6 =>
    (asI .i64 (d6.getD 0 .bad)).bind fun n7 =>
    (asI .i64 (d6.getD 1 .bad)).bind fun n8 =>
    if ((n4 : Int) == 0) = true then
    (if ((n8 : Int) == 0) = true then
    (if (decide ((n3 : Int) > 0)) = true then
    (if (decide ((n7 : Int) > 0)) = true then
    (if (decide ((n3 : Int) < 1048576)) = true then
    (if (decide ((n7 : Int) < 1048576)) = true then
    (some ((.bool ((x7 : Int) == (wrapA .i64 (n3 + n7)))), r5.2.1, (r5.2.2 + 30)))
    else
    (some ((.bool false), r5.2.1, (r5.2.2 + 30))))
    else
    (some ((.bool false), r5.2.1, (r5.2.2 + 30))))
    else
    (some ((.bool false), r5.2.1, (r5.2.2 + 30))))
    else
    (some ((.bool false), r5.2.1, (r5.2.2 + 30))))
    else
    (some ((.bool false), r5.2.1, (r5.2.2 + 30))))
    else
    (some ((.bool false), r5.2.1, (r5.2.2 + 30))) := F5_J2_eq' go1 call Y lf x5 x6 x7 h nx

theorem F5_eq' (J : StepF (AV × AHeap × Nat) → StepF (AV × AHeap × Nat)) (n : Nat) (Y : YldF) (x0 : Int) (x1 : Int) (h : AHeap) (nx : Nat) : rootJ J Try.prog keepT (callP Try.prog keepT n) Y n 5 [(.int .i64 x0), (.int .i64 x1)] h nx =
    ((callP Try.prog keepT n) Y 15 [(.int .i64 x0), (.int .i64 12)] h (nx + 5)).bind fun r1 =>
    (asI .i64 r1.1).bind fun n2 =>
    ((callP Try.prog keepT n) Y 15 [(.int .i64 x1), (.int .i64 (wrapA .i64 ((wrapA .i64 (1 + n2)) + 1)))] r1.2.1 (r1.2.2 + 5)).bind fun r3 =>
    (asI .i64 r3.1).bind fun n4 =>
    ((callP Try.prog keepT n) Y 18 [(.int .i64 (wrapA .i64 (1 + n2))), (.int .i64 n4)] r3.2.1 (r3.2.2 + 8)).bind fun r5 =>
    (asTup 2 r5.1).bind fun d6 =>
    (asI .i64 (d6.getD 0 .bad)).bind fun n7 =>
    (asI .i64 (d6.getD 1 .bad)).bind fun n8 =>
    ((callP Try.prog keepT n) Y 18 [(.int .i64 (wrapA .i64 (1 + n2))), (.int .i64 (wrapA .i64 ((wrapA .i64 (1 + n2)) - n4)))] r5.2.1 (r5.2.2 + 10)).bind fun r9 =>
    (asTup 2 r9.1).bind fun d10 =>
    (asI .i64 (d10.getD 0 .bad)).bind fun n11 =>
    (asI .i64 (d10.getD 1 .bad)).bind fun n12 =>
    if ((n8 : Int) != 0) = true then
    (some ((.bool false), r9.2.1, (r9.2.2 + 16)))
    else
    (if ((n12 : Int) != 0) = true then
    (some ((.bool false), r9.2.1, (r9.2.2 + 16)))
    else
    (if ((n7 : Int) != n11) = true then
    (some ((.bool false), r9.2.1, (r9.2.2 + 16)))
    else
    (if (decide ((n7 : Int) < 1)) = true then
    (some ((.bool false), r9.2.1, (r9.2.2 + 16)))
    else
    (F5_J1' J J (callP Try.prog keepT n) Y n (wrapA .i64 (1 + n2)) n4 n7 r9.2.1 (r9.2.2 + 15))))) := by kernel_rfl

/-- quickset/quicksetkeep.CombPascal -/
theorem F5_eq (n : Nat) (Y : YldF) (x0 : Int) (x1 : Int) (h : AHeap) (nx : Nat) : callP Try.prog keepT (n + 1) Y 5 [(.int .i64 x0), (.int .i64 x1)] h nx =
    ((callP Try.prog keepT n) Y 15 [(.int .i64 x0), (.int .i64 12)] h (nx + 5)).bind fun r1 =>
    (asI .i64 r1.1).bind fun n2 =>
    ((callP Try.prog keepT n) Y 15 [(.int .i64 x1), (.int .i64 (wrapA .i64 ((wrapA .i64 (1 + n2)) + 1)))] r1.2.1 (r1.2.2 + 5)).bind fun r3 =>
    (asI .i64 r3.1).bind fun n4 =>
    ((callP Try.prog keepT n) Y 18 [(.int .i64 (wrapA .i64 (1 + n2))), (.int .i64 n4)] r3.2.1 (r3.2.2 + 8)).bind fun r5 =>
    (asTup 2 r5.1).bind fun d6 =>
    (asI .i64 (d6.getD 0 .bad)).bind fun n7 =>
    (asI .i64 (d6.getD 1 .bad)).bind fun n8 =>
    ((callP Try.prog keepT n) Y 18 [(.int .i64 (wrapA .i64 (1 + n2))), (.int .i64 (wrapA .i64 ((wrapA .i64 (1 + n2)) - n4)))] r5.2.1 (r5.2.2 + 10)).bind fun r9 =>
    (asTup 2 r9.1).bind fun d10 =>
    (asI .i64 (d10.getD 0 .bad)).bind fun n11 =>
    (asI .i64 (d10.getD 1 .bad)).bind fun n12 =>
    if ((n8 : Int) != 0) = true then
    (some ((.bool false), r9.2.1, (r9.2.2 + 16)))
    else
    (if ((n12 : Int) != 0) = true then
    (some ((.bool false), r9.2.1, (r9.2.2 + 16)))
    else
    (if ((n7 : Int) != n11) = true then
    (some ((.bool false), r9.2.1, (r9.2.2 + 16)))
    else
    (if (decide ((n7 : Int) < 1)) = true then
    (some ((.bool false), r9.2.1, (r9.2.2 + 16)))
    else
    (F5_J1 (callP Try.prog keepT n) Y n (wrapA .i64 (1 + n2)) n4 n7 r9.2.1 (r9.2.2 + 15))))) := F5_eq' go1 n Y x0 x1 h nx

noncomputable def c6 : Code := (Try.f6.body).getD .skip

noncomputable def r6 : List ResultVar := Try.f6.results.toList

noncomputable def F6_L1' (W J : StepF (AV × AHeap × Nat) → StepF (AV × AHeap × Nat)) (call : YldF → CallF) (Y : YldF) (lf : Nat) (n0 : Nat) (x2a : Option (Nat × Nat)) (x2n : Nat) (x2c : Bool) (x7a : Option (Nat × Nat)) (x7n : Nat) (x7c : Bool) (x8a : Option (Nat × Nat)) (x8n : Nat) (x8c : Bool) (x9 : Int) (x10 : Int) (h : AHeap) (nx : Nat) : Option (AV × AHeap × Nat) :=
  goK W J drawK (machOf Try.prog) call Y (keepT 6) lf c6 [1, 1, 1, 1, 1, 0, 1, 0, 9] [n0] (retK (machOf Try.prog) ⟨c6, 79, r6, keepT 6⟩) ⟨79, mkL [(2, (.slice x2a x2n x2c)), (7, (.slice x7a x7n x7c)), (8, (.slice x8a x8n x8c)), (9, (.int .i64 x9)), (10, (.int .i64 x10))]⟩ h nx

noncomputable def F6_L1 (call : YldF → CallF) (Y : YldF) (lf : Nat) (n0 : Nat) (x2a : Option (Nat × Nat)) (x2n : Nat) (x2c : Bool) (x7a : Option (Nat × Nat)) (x7n : Nat) (x7c : Bool) (x8a : Option (Nat × Nat)) (x8n : Nat) (x8c : Bool) (x9 : Int) (x10 : Int) (h : AHeap) (nx : Nat) : Option (AV × AHeap × Nat) := F6_L1' go1 go1 call Y lf n0 x2a x2n x2c x7a x7n x7c x8a x8n x8c x9 x10 h nx

noncomputable def F6_J2' (W J : StepF (AV × AHeap × Nat) → StepF (AV × AHeap × Nat)) (call : YldF → CallF) (Y : YldF) (lf : Nat) (n0 : Nat) (x2a : Option (Nat × Nat)) (x2n : Nat) (x2c : Bool) (x7a : Option (Nat × Nat)) (x7n : Nat) (x7c : Bool) (x8a : Option (Nat × Nat)) (x8n : Nat) (x8c : Bool) (x9 : Int) (x10 : Int) (h : AHeap) (nx : Nat) : Option (AV × AHeap × Nat) :=
  goK W J drawK (machOf Try.prog) call Y (keepT 6) lf c6 [1, 1, 1, 1, 1, 0, 1, 0, 0, 1] [n0] (retK (machOf Try.prog) ⟨c6, 79, r6, keepT 6⟩) ⟨79, mkL [(2, (.slice x2a x2n x2c)), (7, (.slice x7a x7n x7c)), (8, (.slice x8a x8n x8c)), (9, (.int .i64 x9)), (10, (.int .i64 x10))]⟩ h nx

noncomputable def F6_J2 (call : YldF → CallF) (Y : YldF) (lf : Nat) (n0 : Nat) (x2a : Option (Nat × Nat)) (x2n : Nat) (x2c : Bool) (x7a : Option (Nat × Nat)) (x7n : Nat) (x7c : Bool) (x8a : Option (Nat × Nat)) (x8n : Nat) (x8c : Bool) (x9 : Int) (x10 : Int) (h : AHeap) (nx : Nat) : Option (AV × AHeap × Nat) := F6_J2' go1 go1 call Y lf n0 x2a x2n x2c x7a x7n x7c x8a x8n x8c x9 x10 h nx

noncomputable def F6_J3' (W J : StepF (AV × AHeap × Nat) → StepF (AV × AHeap × Nat)) (call : YldF → CallF) (Y : YldF) (lf : Nat) (x7a : Option (Nat × Nat)) (x7n : Nat) (x7c : Bool) (x8a : Option (Nat × Nat)) (x8n : Nat) (x8c : Bool) (h : AHeap) (nx : Nat) : Option (AV × AHeap × Nat) :=
  goK W J drawK (machOf Try.prog) call Y (keepT 6) lf c6 [1, 1, 1, 1, 1, 1] [] (retK (machOf Try.prog) ⟨c6, 79, r6, keepT 6⟩) ⟨79, mkL [(7, (.slice x7a x7n x7c)), (8, (.slice x8a x8n x8c))]⟩ h nx

noncomputable def F6_J3 (call : YldF → CallF) (Y : YldF) (lf : Nat) (x7a : Option (Nat × Nat)) (x7n : Nat) (x7c : Bool) (x8a : Option (Nat × Nat)) (x8n : Nat) (x8c : Bool) (h : AHeap) (nx : Nat) : Option (AV × AHeap × Nat) := F6_J3' go1 go1 call Y lf x7a x7n x7c x8a x8n x8c h nx

theorem F6_L1_eq' (J : StepF (AV × AHeap × Nat) → StepF (AV × AHeap × Nat)) (call : YldF → CallF) (Y : YldF) (lf : Nat) (n0 : Nat) (x2a : Option (Nat × Nat)) (x2n : Nat) (x2c : Bool) (x7a : Option (Nat × Nat)) (x7n : Nat) (x7c : Bool) (x8a : Option (Nat × Nat)) (x8n : Nat) (x8c : Bool) (x9 : Int) (x10 : Int) (h : AHeap) (nx : Nat) : F6_L1' go1 J call Y lf (n0 + 1) x2a x2n x2c x7a x7n x7c x8a x8n x8c x9 x10 h nx =
    if (decide ((x10 : Int) < 4)) = true then
    (if (decide ((x10 : Int) < ((x2n : Nat) : Int))) = true then
    (F6_J2' J J call Y lf n0 x2a x2n x2c x7a x7n x7c x8a x8n x8c x9 x10 h (nx + 8))
    else
    (F6_J3' J J call Y lf x7a x7n x7c x8a x8n x8c h (nx + 8)))
    else
    (F6_J3' J J call Y lf x7a x7n x7c x8a x8n x8c h (nx + 8)) := by kernel_rfl

theorem F6_L1_eq (call : YldF → CallF) (Y : YldF) (lf : Nat) (n0 : Nat) (x2a : Option (Nat × Nat)) (x2n : Nat) (x2c : Bool) (x7a : Option (Nat × Nat)) (x7n : Nat) (x7c : Bool) (x8a : Option (Nat × Nat)) (x8n : Nat) (x8c : Bool) (x9 : Int) (x10 : Int) (h : AHeap) (nx : Nat) : F6_L1 call Y lf (n0 + 1) x2a x2n x2c x7a x7n x7c x8a x8n x8c x9 x10 h nx =
    if (decide ((x10 : Int) < 4)) = true then
    (if (decide ((x10 : Int) < ((x2n : Nat) : Int))) = true then
    (F6_J2 call Y lf n0 x2a x2n x2c x7a x7n x7c x8a x8n x8c x9 x10 h (nx + 8))
    else
    (F6_J3 call Y lf x7a x7n x7c x8a x8n x8c h (nx + 8)))
    else
    (F6_J3 call Y lf x7a x7n x7c x8a x8n x8c h (nx + 8)) := F6_L1_eq' go1 call Y lf n0 x2a x2n x2c x7a x7n x7c x8a x8n x8c x9 x10 h nx

theorem F6_L1_zero (call : YldF → CallF) (Y : YldF) (lf : Nat) (x2a : Option (Nat × Nat)) (x2n : Nat) (x2c : Bool) (x7a : Option (Nat × Nat)) (x7n : Nat) (x7c : Bool) (x8a : Option (Nat × Nat)) (x8n : Nat) (x8c : Bool) (x9 : Int) (x10 : Int) (h : AHeap) (nx : Nat) : F6_L1 call Y lf 0 x2a x2n x2c x7a x7n x7c x8a x8n x8c x9 x10 h nx = none := by kernel_rfl

theorem F6_J2_eq' (J : StepF (AV × AHeap × Nat) → StepF (AV × AHeap × Nat)) (call : YldF → CallF) (Y : YldF) (lf : Nat) (n0 : Nat) (x2a : Option (Nat × Nat)) (x2n : Nat) (x2c : Bool) (x7a : Option (Nat × Nat)) (x7n : Nat) (x7c : Bool) (x8a : Option (Nat × Nat)) (x8n : Nat) (x8c : Bool) (x9 : Int) (x10 : Int) (h : AHeap) (nx : Nat) : F6_J2' go1 J call Y lf n0 x2a x2n x2c x7a x7n x7c x8a x8n x8c x9 x10 h nx =
    (x8a).bind fun p1 =>
    if 0 ≤ ((wrapA .i64 (x9 + x10)) : Int) ∧ (wrapA .i64 (x9 + x10)) < ((x8n : Nat) : Int) then
    ((ldA h p1.1 (p1.2 + Int.toNat (wrapA .i64 (x9 + x10)) * 1)).bind fun v2 =>
    (asI .u8 v2).bind fun n3 =>
    (x2a).bind fun p4 =>
    if 0 ≤ (x10 : Int) ∧ x10 < ((x2n : Nat) : Int) then
    ((ldA h p4.1 (p4.2 + Int.toNat x10 * 1)).bind fun v5 =>
    (asI .u8 v5).bind fun n6 =>
    (x8a).bind fun p7 =>
    if 0 ≤ ((wrapA .i64 (x9 + x10)) : Int) ∧ (wrapA .i64 (x9 + x10)) < ((x8n : Nat) : Int) then
    ((stA h p7.1 (p7.2 + Int.toNat (wrapA .i64 (x9 + x10)) * 1) (.int .u8 (bits .xor .u8 n3 n6)) 1).bind fun b8 =>
    let h9 := AHeap.put h p7.1 (some b8)
    F6_L1' J J call Y lf n0 x2a x2n x2c x7a x7n x7c x8a x8n x8c x9 (wrapA .i64 (x10 + 1)) h9 (nx + 16))
    else none)
    else none)
    else none := by kernel_rfl

theorem F6_J2_eq (call : YldF → CallF) (Y : YldF) (lf : Nat) (n0 : Nat) (x2a : Option (Nat × Nat)) (x2n : Nat) (x2c : Bool) (x7a : Option (Nat × Nat)) (x7n : Nat) (x7c : Bool) (x8a : Option (Nat × Nat)) (x8n : Nat) (x8c : Bool) (x9 : Int) (x10 : Int) (h : AHeap) (nx : Nat) : F6_J2 call Y lf n0 x2a x2n x2c x7a x7n x7c x8a x8n x8c x9 x10 h nx =
    (x8a).bind fun p1 =>
    if 0 ≤ ((wrapA .i64 (x9 + x10)) : Int) ∧ (wrapA .i64 (x9 + x10)) < ((x8n : Nat) : Int) then
    ((ldA h p1.1 (p1.2 + Int.toNat (wrapA .i64 (x9 + x10)) * 1)).bind fun v2 =>
    (asI .u8 v2).bind fun n3 =>
    (x2a).bind fun p4 =>
    if 0 ≤ (x10 : Int) ∧ x10 < ((x2n : Nat) : Int) then
    ((ldA h p4.1 (p4.2 + Int.toNat x10 * 1)).bind fun v5 =>
    (asI .u8 v5).bind fun n6 =>
    (x8a).bind fun p7 =>
    if 0 ≤ ((wrapA .i64 (x9 + x10)) : Int) ∧ (wrapA .i64 (x9 + x10)) < ((x8n : Nat) : Int) then
    ((stA h p7.1 (p7.2 + Int.toNat (wrapA .i64 (x9 + x10)) * 1) (.int .u8 (bits .xor .u8 n3 n6)) 1).bind fun b8 =>
    let h9 := AHeap.put h p7.1 (some b8)
    F6_L1 call Y lf n0 x2a x2n x2c x7a x7n x7c x8a x8n x8c x9 (wrapA .i64 (x10 + 1)) h9 (nx + 16))
    else none)
    else none)
    else none := F6_J2_eq' go1 call Y lf n0 x2a x2n x2c x7a x7n x7c x8a x8n x8c x9 x10 h nx

theorem F6_J3_eq' (J : StepF (AV × AHeap × Nat) → StepF (AV × AHeap × Nat)) (call : YldF → CallF) (Y : YldF) (lf : Nat) (x7a : Option (Nat × Nat)) (x7n : Nat) (x7c : Bool) (x8a : Option (Nat × Nat)) (x8n : Nat) (x8c : Bool) (h : AHeap) (nx : Nat) : F6_J3' go1 J call Y lf x7a x7n x7c x8a x8n x8c h nx =
    (call Y 21 [(.slice x7a x7n x7c)] h (nx + 8)).bind fun r1 =>
    (asTup 2 r1.1).bind fun d2 =>
    (asAgg 4 (d2.getD 0 .bad)).bind fun d3 =>
    (asI .i64 (d3.getD 0 .bad)).bind fun n4 =>
    (asI .i64 (d3.getD 1 .bad)).bind fun n5 =>
    (asI .i64 (d3.getD 2 .bad)).bind fun n6 =>
    (asI .i64 (d3.getD 3 .bad)).bind fun n7 =>
    (asI .i64 (d2.getD 1 .bad)).bind fun n8 =>
    let h9 := AHeap.put r1.2.1 (nx + 5) (some ⟨[(.int .i64 0), (.int .i64 0), (.int .i64 0), (.int .i64 0)], 4, true⟩)
    (stA h9 (nx + 5) 0 (.agg [(.int .i64 n4), (.int .i64 n5), (.int .i64 n6), (.int .i64 n7)]) 4).bind fun b10 =>
    let h11 := AHeap.put h9 (nx + 5) (some b10)
    (call Y 21 [(.slice x8a x8n x8c)] h11 (r1.2.2 + 8)).bind fun r12 =>
    (asTup 2 r12.1).bind fun d13 =>
    (asAgg 4 (d13.getD 0 .bad)).bind fun d14 =>
    (asI .i64 (d14.getD 0 .bad)).bind fun n15 =>
    (asI .i64 (d14.getD 1 .bad)).bind fun n16 =>
    (asI .i64 (d14.getD 2 .bad)).bind fun n17 =>
    (asI .i64 (d14.getD 3 .bad)).bind fun n18 =>
    (asI .i64 (d13.getD 1 .bad)).bind fun n19 =>
    let h20 := AHeap.put r12.2.1 (r1.2.2 + 5) (some ⟨[(.int .i64 0), (.int .i64 0), (.int .i64 0), (.int .i64 0)], 4, true⟩)
    (stA h20 (r1.2.2 + 5) 0 (.agg [(.int .i64 n15), (.int .i64 n16), (.int .i64 n17), (.int .i64 n18)]) 4).bind fun b21 =>
    let h22 := AHeap.put h20 (r1.2.2 + 5) (some b21)
    (call Y 20 [] h22 (r12.2.2 + 19)).bind fun r23 =>
    (asB r23.1).bind fun t24 =>
    if t24 = true then
    (if ((n8 : Int) == 0) = true then
    (if ((n19 : Int) == 0) = true then
    ((ldR r23.2.1 (nx + 5) 0 4).bind fun l25 =>
    (asAgg 4 (AV.agg l25)).bind fun d26 =>
    (asI .i64 (d26.getD 0 .bad)).bind fun n27 =>
    (asI .i64 (d26.getD 1 .bad)).bind fun n28 =>
    (asI .i64 (d26.getD 2 .bad)).bind fun n29 =>
    (asI .i64 (d26.getD 3 .bad)).bind fun n30 =>
    (ldR r23.2.1 (r1.2.2 + 5) 0 4).bind fun l31 =>
    (asAgg 4 (AV.agg l31)).bind fun d32 =>
    (asI .i64 (d32.getD 0 .bad)).bind fun n33 =>
    (asI .i64 (d32.getD 1 .bad)).bind fun n34 =>
    (asI .i64 (d32.getD 2 .bad)).bind fun n35 =>
    (asI .i64 (d32.getD 3 .bad)).bind fun n36 =>
    (call Y 22 [(.slice x7a x7n x7c), (.slice x8a x8n x8c)] r23.2.1 r23.2.2).bind fun r37 =>
    (asB r37.1).bind fun t38 =>
    ifKept [(r23.2.1, r37.2.1, [(nx + 5)]), (r23.2.1, r37.2.1, [(r1.2.2 + 5)])]
    (some ((.bool ((eqCells [(.int .i64 n27), (.int .i64 n28), (.int .i64 n29), (.int .i64 n30)] [(.int .i64 n33), (.int .i64 n34), (.int .i64 n35), (.int .i64 n36)]) == t38)), r37.2.1, r37.2.2)))
    else
    (some ((.bool false), r23.2.1, r23.2.2)))
    else
    (some ((.bool false), r23.2.1, r23.2.2)))
    else
    (some ((.bool false), r23.2.1, r23.2.2)) := by kernel_rfl

theorem F6_J3_eq (call : YldF → CallF) (Y : YldF) (lf : Nat) (x7a : Option (Nat × Nat)) (x7n : Nat) (x7c : Bool) (x8a : Option (Nat × Nat)) (x8n : Nat) (x8c : Bool) (h : AHeap) (nx : Nat) : F6_J3 call Y lf x7a x7n x7c x8a x8n x8c h nx =
    (call Y 21 [(.slice x7a x7n x7c)] h (nx + 8)).bind fun r1 =>
    (asTup 2 r1.1).bind fun d2 =>
    (asAgg 4 (d2.getD 0 .bad)).bind fun d3 =>
    (asI .i64 (d3.getD 0 .bad)).bind fun n4 =>
    (asI .i64 (d3.getD 1 .bad)).bind fun n5 =>
    (asI .i64 (d3.getD 2 .bad)).bind fun n6 =>
    (asI .i64 (d3.getD 3 .bad)).bind fun n7 =>
    (asI .i64 (d2.getD 1 .bad)).bind fun n8 =>
    let h9 := AHeap.put r1.2.1 (nx + 5) (some ⟨[(.int .i64 0), (.int .i64 0), (.int .i64 0), (.int .i64 0)], 4, true⟩)
    (stA h9 (nx + 5) 0 (.agg [(.int .i64 n4), (.int .i64 n5), (.int .i64 n6), (.int .i64 n7)]) 4).bind fun b10 =>
    let h11 := AHeap.put h9 (nx + 5) (some b10)
    (call Y 21 [(.slice x8a x8n x8c)] h11 (r1.2.2 + 8)).bind fun r12 =>
    (asTup 2 r12.1).bind fun d13 =>
    (asAgg 4 (d13.getD 0 .bad)).bind fun d14 =>
    (asI .i64 (d14.getD 0 .bad)).bind fun n15 =>
    (asI .i64 (d14.getD 1 .bad)).bind fun n16 =>
    (asI .i64 (d14.getD 2 .bad)).bind fun n17 =>
    (asI .i64 (d14.getD 3 .bad)).bind fun n18 =>
    (asI .i64 (d13.getD 1 .bad)).bind fun n19 =>
    let h20 := AHeap.put r12.2.1 (r1.2.2 + 5) (some ⟨[(.int .i64 0), (.int .i64 0), (.int .i64 0), (.int .i64 0)], 4, true⟩)
    (stA h20 (r1.2.2 + 5) 0 (.agg [(.int .i64 n15), (.int .i64 n16), (.int .i64 n17), (.int .i64 n18)]) 4).bind fun b21 =>
    let h22 := AHeap.put h20 (r1.2.2 + 5) (some b21)
    (call Y 20 [] h22 (r12.2.2 + 19)).bind fun r23 =>
    (asB r23.1).bind fun t24 =>
    if t24 = true then
    (if ((n8 : Int) == 0) = true then
    (if ((n19 : Int) == 0) = true then
    ((ldR r23.2.1 (nx + 5) 0 4).bind fun l25 =>
    (asAgg 4 (AV.agg l25)).bind fun d26 =>
    (asI .i64 (d26.getD 0 .bad)).bind fun n27 =>
    (asI .i64 (d26.getD 1 .bad)).bind fun n28 =>
    (asI .i64 (d26.getD 2 .bad)).bind fun n29 =>
    (asI .i64 (d26.getD 3 .bad)).bind fun n30 =>
    (ldR r23.2.1 (r1.2.2 + 5) 0 4).bind fun l31 =>
    (asAgg 4 (AV.agg l31)).bind fun d32 =>
    (asI .i64 (d32.getD 0 .bad)).bind fun n33 =>
    (asI .i64 (d32.getD 1 .bad)).bind fun n34 =>
    (asI .i64 (d32.getD 2 .bad)).bind fun n35 =>
    (asI .i64 (d32.getD 3 .bad)).bind fun n36 =>
    (call Y 22 [(.slice x7a x7n x7c), (.slice x8a x8n x8c)] r23.2.1 r23.2.2).bind fun r37 =>
    (asB r37.1).bind fun t38 =>
    ifKept [(r23.2.1, r37.2.1, [(nx + 5)]), (r23.2.1, r37.2.1, [(r1.2.2 + 5)])]
    (some ((.bool ((eqCells [(.int .i64 n27), (.int .i64 n28), (.int .i64 n29), (.int .i64 n30)] [(.int .i64 n33), (.int .i64 n34), (.int .i64 n35), (.int .i64 n36)]) == t38)), r37.2.1, r37.2.2)))
    else
    (some ((.bool false), r23.2.1, r23.2.2)))
    else
    (some ((.bool false), r23.2.1, r23.2.2)))
    else
    (some ((.bool false), r23.2.1, r23.2.2)) := F6_J3_eq' go1 call Y lf x7a x7n x7c x8a x8n x8c h nx

theorem F6_eq' (J : StepF (AV × AHeap × Nat) → StepF (AV × AHeap × Nat)) (n : Nat) (Y : YldF) (x0a : Option (Nat × Nat)) (x0n : Nat) (x0c : Bool) (x1 : Int) (x2a : Option (Nat × Nat)) (x2n : Nat) (x2c : Bool) (h : AHeap) (nx : Nat) : rootJ J Try.prog keepT (callP Try.prog keepT n) Y n 6 [(.slice x0a x0n x0c), (.int .i64 x1), (.slice x2a x2n x2c)] h nx =
    ((callP Try.prog keepT n) Y 19 [(.slice x0a x0n x0c), (.int .i64 400)] h (nx + 4)).bind fun r1 =>
    (asSl r1.1).bind fun s2 =>
    if ((((s2.2.1 : Nat) : Int) : Int) == 0) = true then
    (((callP Try.prog keepT n) Y 20 [] r1.2.1 (r1.2.2 + 5)).bind fun r3 =>
    (asB r3.1).bind fun t4 =>
    some ((.bool t4), r3.2.1, r3.2.2))
    else
    ((srcS r1.2.1 s2.1 s2.2.1 1).bind fun q5 =>
    (appD r1.2.1 none 0 false 1 1 (r1.2.2 + 4) q5).bind fun e6 =>
    let h7 := AHeap.puts r1.2.1 e6.sets
    ((callP Try.prog keepT n) Y 15 [(.int .i64 x1), (.int .i64 (wrapA .i64 (Int.tdiv ((s2.2.1 : Nat) : Int) 4)))] h7 (r1.2.2 + 13)).bind fun r8 =>
    (asI .i64 r8.1).bind fun n9 =>
    F6_L1' J J (callP Try.prog keepT n) Y n n x2a x2n x2c s2.1 s2.2.1 s2.2.2 e6.a e6.n e6.c (wrapA .i64 (4 * n9)) 0 r8.2.1 (r8.2.2 + 1)) := by kernel_rfl

/-- quickset/quicksetkeep.FletChanged -/
theorem F6_eq (n : Nat) (Y : YldF) (x0a : Option (Nat × Nat)) (x0n : Nat) (x0c : Bool) (x1 : Int) (x2a : Option (Nat × Nat)) (x2n : Nat) (x2c : Bool) (h : AHeap) (nx : Nat) : callP Try.prog keepT (n + 1) Y 6 [(.slice x0a x0n x0c), (.int .i64 x1), (.slice x2a x2n x2c)] h nx =
    ((callP Try.prog keepT n) Y 19 [(.slice x0a x0n x0c), (.int .i64 400)] h (nx + 4)).bind fun r1 =>
    (asSl r1.1).bind fun s2 =>
    if ((((s2.2.1 : Nat) : Int) : Int) == 0) = true then
    (((callP Try.prog keepT n) Y 20 [] r1.2.1 (r1.2.2 + 5)).bind fun r3 =>
    (asB r3.1).bind fun t4 =>
    some ((.bool t4), r3.2.1, r3.2.2))
    else
    ((srcS r1.2.1 s2.1 s2.2.1 1).bind fun q5 =>
    (appD r1.2.1 none 0 false 1 1 (r1.2.2 + 4) q5).bind fun e6 =>
    let h7 := AHeap.puts r1.2.1 e6.sets
    ((callP Try.prog keepT n) Y 15 [(.int .i64 x1), (.int .i64 (wrapA .i64 (Int.tdiv ((s2.2.1 : Nat) : Int) 4)))] h7 (r1.2.2 + 13)).bind fun r8 =>
    (asI .i64 r8.1).bind fun n9 =>
    F6_L1 (callP Try.prog keepT n) Y n n x2a x2n x2c s2.1 s2.2.1 s2.2.2 e6.a e6.n e6.c (wrapA .i64 (4 * n9)) 0 r8.2.1 (r8.2.2 + 1)) := F6_eq' go1 n Y x0a x0n x0c x1 x2a x2n x2c h nx

noncomputable def c7 : Code := (Try.f7.body).getD .skip

noncomputable def r7 : List ResultVar := Try.f7.results.toList

theorem F7_eq' (J : StepF (AV × AHeap × Nat) → StepF (AV × AHeap × Nat)) (n : Nat) (Y : YldF) (x0a : Option (Nat × Nat)) (x0n : Nat) (x0c : Bool) (x1 : Int) (h : AHeap) (nx : Nat) : rootJ J Try.prog keepT (callP Try.prog keepT n) Y n 7 [(.slice x0a x0n x0c), (.int .i64 x1)] h nx =
    ((callP Try.prog keepT n) Y 19 [(.slice x0a x0n x0c), (.int .i64 400)] h (nx + 4)).bind fun r1 =>
    (asSl r1.1).bind fun s2 =>
    if (decide ((((s2.2.1 : Nat) : Int) : Int) < 8)) = true then
    (((callP Try.prog keepT n) Y 20 [] r1.2.1 (r1.2.2 + 5)).bind fun r3 =>
    (asB r3.1).bind fun t4 =>
    some ((.bool t4), r3.2.1, r3.2.2))
    else
    (((callP Try.prog keepT n) Y 15 [(.int .i64 x1), (.int .i64 (wrapA .i64 ((wrapA .i64 (Int.tdiv ((s2.2.1 : Nat) : Int) 4)) - 1)))] r1.2.1 (r1.2.2 + 11)).bind fun r5 =>
    (asI .i64 r5.1).bind fun n6 =>
    (cutA r5.2.1 s2.1 s2.2.1 s2.2.2 1 none (some (.int .i64 (wrapA .i64 (4 * n6)))) none).bind fun s7 =>
    (srcS r5.2.1 s7.1 s7.2.1 1).bind fun q8 =>
    (appD r5.2.1 none 0 false 1 1 (r5.2.2 + 3) q8).bind fun e9 =>
    let h10 := AHeap.puts r5.2.1 e9.sets
    (cutA h10 s2.1 s2.2.1 s2.2.2 1 (some (.int .i64 (wrapA .i64 ((wrapA .i64 (4 * n6)) + 4)))) (some (.int .i64 (wrapA .i64 ((wrapA .i64 (4 * n6)) + 8)))) none).bind fun s11 =>
    (srcS h10 s11.1 s11.2.1 1).bind fun q12 =>
    (appD h10 e9.a e9.n e9.c 1 1 (r5.2.2 + 12) q12).bind fun e13 =>
    let h14 := AHeap.puts h10 e13.sets
    (cutA h14 s2.1 s2.2.1 s2.2.2 1 (some (.int .i64 (wrapA .i64 (4 * n6)))) (some (.int .i64 (wrapA .i64 ((wrapA .i64 (4 * n6)) + 4)))) none).bind fun s15 =>
    (srcS h14 s15.1 s15.2.1 1).bind fun q16 =>
    (appD h14 e13.a e13.n e13.c 1 1 (r5.2.2 + 18) q16).bind fun e17 =>
    let h18 := AHeap.puts h14 e17.sets
    (cutA h18 s2.1 s2.2.1 s2.2.2 1 (some (.int .i64 (wrapA .i64 ((wrapA .i64 (4 * n6)) + 8)))) none none).bind fun s19 =>
    (srcS h18 s19.1 s19.2.1 1).bind fun q20 =>
    (appD h18 e17.a e17.n e17.c 1 1 (r5.2.2 + 23) q20).bind fun e21 =>
    let h22 := AHeap.puts h18 e21.sets
    ifApart [((idsOf e13.sets), (rdOf s2.1)), ((idsOf e13.sets), (rdOf s2.1)), ((idsOf e17.sets), (rdOf s2.1))]
    (((callP Try.prog keepT n) Y 21 [(.slice s2.1 s2.2.1 s2.2.2)] h22 (r5.2.2 + 33)).bind fun r23 =>
    (asTup 2 r23.1).bind fun d24 =>
    (asAgg 4 (d24.getD 0 .bad)).bind fun d25 =>
    (asI .i64 (d25.getD 0 .bad)).bind fun n26 =>
    (asI .i64 (d25.getD 1 .bad)).bind fun n27 =>
    (asI .i64 (d25.getD 2 .bad)).bind fun n28 =>
    (asI .i64 (d25.getD 3 .bad)).bind fun n29 =>
    (asI .i64 (d24.getD 1 .bad)).bind fun n30 =>
    let h31 := AHeap.put r23.2.1 (r5.2.2 + 30) (some ⟨[(.int .i64 0), (.int .i64 0), (.int .i64 0), (.int .i64 0)], 4, true⟩)
    (stA h31 (r5.2.2 + 30) 0 (.agg [(.int .i64 n26), (.int .i64 n27), (.int .i64 n28), (.int .i64 n29)]) 4).bind fun b32 =>
    let h33 := AHeap.put h31 (r5.2.2 + 30) (some b32)
    ((callP Try.prog keepT n) Y 21 [(.slice e21.a e21.n e21.c)] h33 (r23.2.2 + 8)).bind fun r34 =>
    (asTup 2 r34.1).bind fun d35 =>
    (asAgg 4 (d35.getD 0 .bad)).bind fun d36 =>
    (asI .i64 (d36.getD 0 .bad)).bind fun n37 =>
    (asI .i64 (d36.getD 1 .bad)).bind fun n38 =>
    (asI .i64 (d36.getD 2 .bad)).bind fun n39 =>
    (asI .i64 (d36.getD 3 .bad)).bind fun n40 =>
    (asI .i64 (d35.getD 1 .bad)).bind fun n41 =>
    let h42 := AHeap.put r34.2.1 (r23.2.2 + 5) (some ⟨[(.int .i64 0), (.int .i64 0), (.int .i64 0), (.int .i64 0)], 4, true⟩)
    (stA h42 (r23.2.2 + 5) 0 (.agg [(.int .i64 n37), (.int .i64 n38), (.int .i64 n39), (.int .i64 n40)]) 4).bind fun b43 =>
    let h44 := AHeap.put h42 (r23.2.2 + 5) (some b43)
    ((callP Try.prog keepT n) Y 20 [] h44 (r34.2.2 + 26)).bind fun r45 =>
    (asB r45.1).bind fun t46 =>
    if t46 = true then
    (if ((n30 : Int) == 0) = true then
    (if ((n41 : Int) == 0) = true then
    ((ldA r45.2.1 (r5.2.2 + 30) 0).bind fun v47 =>
    (asI .i64 v47).bind fun n48 =>
    (ldA r45.2.1 (r23.2.2 + 5) 0).bind fun v49 =>
    (asI .i64 v49).bind fun n50 =>
    if ((n48 : Int) == n50) = true then
    ((ldR r45.2.1 (r5.2.2 + 30) 0 4).bind fun l51 =>
    (asAgg 4 (AV.agg l51)).bind fun d52 =>
    (asI .i64 (d52.getD 0 .bad)).bind fun n53 =>
    (asI .i64 (d52.getD 1 .bad)).bind fun n54 =>
    (asI .i64 (d52.getD 2 .bad)).bind fun n55 =>
    (asI .i64 (d52.getD 3 .bad)).bind fun n56 =>
    (ldR r45.2.1 (r23.2.2 + 5) 0 4).bind fun l57 =>
    (asAgg 4 (AV.agg l57)).bind fun d58 =>
    (asI .i64 (d58.getD 0 .bad)).bind fun n59 =>
    (asI .i64 (d58.getD 1 .bad)).bind fun n60 =>
    (asI .i64 (d58.getD 2 .bad)).bind fun n61 =>
    (asI .i64 (d58.getD 3 .bad)).bind fun n62 =>
    ((callP Try.prog keepT n) Y 22 [(.slice s2.1 s2.2.1 s2.2.2), (.slice e21.a e21.n e21.c)] r45.2.1 r45.2.2).bind fun r63 =>
    (asB r63.1).bind fun t64 =>
    ifKept [(r45.2.1, r63.2.1, [(r5.2.2 + 30)]), (r45.2.1, r63.2.1, [(r23.2.2 + 5)])]
    (some ((.bool ((eqCells [(.int .i64 n53), (.int .i64 n54), (.int .i64 n55), (.int .i64 n56)] [(.int .i64 n59), (.int .i64 n60), (.int .i64 n61), (.int .i64 n62)]) == t64)), r63.2.1, r63.2.2)))
    else
    (some ((.bool false), r45.2.1, r45.2.2)))
    else
    (some ((.bool false), r45.2.1, r45.2.2)))
    else
    (some ((.bool false), r45.2.1, r45.2.2)))
    else
    (some ((.bool false), r45.2.1, r45.2.2)))) := by kernel_rfl

/-- quickset/quicksetkeep.FletSwapped -/
theorem F7_eq (n : Nat) (Y : YldF) (x0a : Option (Nat × Nat)) (x0n : Nat) (x0c : Bool) (x1 : Int) (h : AHeap) (nx : Nat) : callP Try.prog keepT (n + 1) Y 7 [(.slice x0a x0n x0c), (.int .i64 x1)] h nx =
    ((callP Try.prog keepT n) Y 19 [(.slice x0a x0n x0c), (.int .i64 400)] h (nx + 4)).bind fun r1 =>
    (asSl r1.1).bind fun s2 =>
    if (decide ((((s2.2.1 : Nat) : Int) : Int) < 8)) = true then
    (((callP Try.prog keepT n) Y 20 [] r1.2.1 (r1.2.2 + 5)).bind fun r3 =>
    (asB r3.1).bind fun t4 =>
    some ((.bool t4), r3.2.1, r3.2.2))
    else
    (((callP Try.prog keepT n) Y 15 [(.int .i64 x1), (.int .i64 (wrapA .i64 ((wrapA .i64 (Int.tdiv ((s2.2.1 : Nat) : Int) 4)) - 1)))] r1.2.1 (r1.2.2 + 11)).bind fun r5 =>
    (asI .i64 r5.1).bind fun n6 =>
    (cutA r5.2.1 s2.1 s2.2.1 s2.2.2 1 none (some (.int .i64 (wrapA .i64 (4 * n6)))) none).bind fun s7 =>
    (srcS r5.2.1 s7.1 s7.2.1 1).bind fun q8 =>
    (appD r5.2.1 none 0 false 1 1 (r5.2.2 + 3) q8).bind fun e9 =>
    let h10 := AHeap.puts r5.2.1 e9.sets
    (cutA h10 s2.1 s2.2.1 s2.2.2 1 (some (.int .i64 (wrapA .i64 ((wrapA .i64 (4 * n6)) + 4)))) (some (.int .i64 (wrapA .i64 ((wrapA .i64 (4 * n6)) + 8)))) none).bind fun s11 =>
    (srcS h10 s11.1 s11.2.1 1).bind fun q12 =>
    (appD h10 e9.a e9.n e9.c 1 1 (r5.2.2 + 12) q12).bind fun e13 =>
    let h14 := AHeap.puts h10 e13.sets
    (cutA h14 s2.1 s2.2.1 s2.2.2 1 (some (.int .i64 (wrapA .i64 (4 * n6)))) (some (.int .i64 (wrapA .i64 ((wrapA .i64 (4 * n6)) + 4)))) none).bind fun s15 =>
    (srcS h14 s15.1 s15.2.1 1).bind fun q16 =>
    (appD h14 e13.a e13.n e13.c 1 1 (r5.2.2 + 18) q16).bind fun e17 =>
    let h18 := AHeap.puts h14 e17.sets
    (cutA h18 s2.1 s2.2.1 s2.2.2 1 (some (.int .i64 (wrapA .i64 ((wrapA .i64 (4 * n6)) + 8)))) none none).bind fun s19 =>
    (srcS h18 s19.1 s19.2.1 1).bind fun q20 =>
    (appD h18 e17.a e17.n e17.c 1 1 (r5.2.2 + 23) q20).bind fun e21 =>
    let h22 := AHeap.puts h18 e21.sets
    ifApart [((idsOf e13.sets), (rdOf s2.1)), ((idsOf e13.sets), (rdOf s2.1)), ((idsOf e17.sets), (rdOf s2.1))]
    (((callP Try.prog keepT n) Y 21 [(.slice s2.1 s2.2.1 s2.2.2)] h22 (r5.2.2 + 33)).bind fun r23 =>
    (asTup 2 r23.1).bind fun d24 =>
    (asAgg 4 (d24.getD 0 .bad)).bind fun d25 =>
    (asI .i64 (d25.getD 0 .bad)).bind fun n26 =>
    (asI .i64 (d25.getD 1 .bad)).bind fun n27 =>
    (asI .i64 (d25.getD 2 .bad)).bind fun n28 =>
    (asI .i64 (d25.getD 3 .bad)).bind fun n29 =>
    (asI .i64 (d24.getD 1 .bad)).bind fun n30 =>
    let h31 := AHeap.put r23.2.1 (r5.2.2 + 30) (some ⟨[(.int .i64 0), (.int .i64 0), (.int .i64 0), (.int .i64 0)], 4, true⟩)
    (stA h31 (r5.2.2 + 30) 0 (.agg [(.int .i64 n26), (.int .i64 n27), (.int .i64 n28), (.int .i64 n29)]) 4).bind fun b32 =>
    let h33 := AHeap.put h31 (r5.2.2 + 30) (some b32)
    ((callP Try.prog keepT n) Y 21 [(.slice e21.a e21.n e21.c)] h33 (r23.2.2 + 8)).bind fun r34 =>
    (asTup 2 r34.1).bind fun d35 =>
    (asAgg 4 (d35.getD 0 .bad)).bind fun d36 =>
    (asI .i64 (d36.getD 0 .bad)).bind fun n37 =>
    (asI .i64 (d36.getD 1 .bad)).bind fun n38 =>
    (asI .i64 (d36.getD 2 .bad)).bind fun n39 =>
    (asI .i64 (d36.getD 3 .bad)).bind fun n40 =>
    (asI .i64 (d35.getD 1 .bad)).bind fun n41 =>
    let h42 := AHeap.put r34.2.1 (r23.2.2 + 5) (some ⟨[(.int .i64 0), (.int .i64 0), (.int .i64 0), (.int .i64 0)], 4, true⟩)
    (stA h42 (r23.2.2 + 5) 0 (.agg [(.int .i64 n37), (.int .i64 n38), (.int .i64 n39), (.int .i64 n40)]) 4).bind fun b43 =>
    let h44 := AHeap.put h42 (r23.2.2 + 5) (some b43)
    ((callP Try.prog keepT n) Y 20 [] h44 (r34.2.2 + 26)).bind fun r45 =>
    (asB r45.1).bind fun t46 =>
    if t46 = true then
    (if ((n30 : Int) == 0) = true then
    (if ((n41 : Int) == 0) = true then
    ((ldA r45.2.1 (r5.2.2 + 30) 0).bind fun v47 =>
    (asI .i64 v47).bind fun n48 =>
    (ldA r45.2.1 (r23.2.2 + 5) 0).bind fun v49 =>
    (asI .i64 v49).bind fun n50 =>
    if ((n48 : Int) == n50) = true then
    ((ldR r45.2.1 (r5.2.2 + 30) 0 4).bind fun l51 =>
    (asAgg 4 (AV.agg l51)).bind fun d52 =>
    (asI .i64 (d52.getD 0 .bad)).bind fun n53 =>
    (asI .i64 (d52.getD 1 .bad)).bind fun n54 =>
    (asI .i64 (d52.getD 2 .bad)).bind fun n55 =>
    (asI .i64 (d52.getD 3 .bad)).bind fun n56 =>
    (ldR r45.2.1 (r23.2.2 + 5) 0 4).bind fun l57 =>
    (asAgg 4 (AV.agg l57)).bind fun d58 =>
    (asI .i64 (d58.getD 0 .bad)).bind fun n59 =>
    (asI .i64 (d58.getD 1 .bad)).bind fun n60 =>
    (asI .i64 (d58.getD 2 .bad)).bind fun n61 =>
    (asI .i64 (d58.getD 3 .bad)).bind fun n62 =>
    ((callP Try.prog keepT n) Y 22 [(.slice s2.1 s2.2.1 s2.2.2), (.slice e21.a e21.n e21.c)] r45.2.1 r45.2.2).bind fun r63 =>
    (asB r63.1).bind fun t64 =>
    ifKept [(r45.2.1, r63.2.1, [(r5.2.2 + 30)]), (r45.2.1, r63.2.1, [(r23.2.2 + 5)])]
    (some ((.bool ((eqCells [(.int .i64 n53), (.int .i64 n54), (.int .i64 n55), (.int .i64 n56)] [(.int .i64 n59), (.int .i64 n60), (.int .i64 n61), (.int .i64 n62)]) == t64)), r63.2.1, r63.2.2)))
    else
    (some ((.bool false), r45.2.1, r45.2.2)))
    else
    (some ((.bool false), r45.2.1, r45.2.2)))
    else
    (some ((.bool false), r45.2.1, r45.2.2)))
    else
    (some ((.bool false), r45.2.1, r45.2.2)))) := F7_eq' go1 n Y x0a x0n x0c x1 h nx

noncomputable def c8 : Code := (Try.f8.body).getD .skip

noncomputable def r8 : List ResultVar := Try.f8.results.toList

noncomputable def F8_J1' (W J : StepF (AV × AHeap × Nat) → StepF (AV × AHeap × Nat)) (call : YldF → CallF) (Y : YldF) (lf : Nat) (x9 : Int) (x10 : Int) (x12 : Int) (x13a : Option (Nat × Nat)) (x13n : Nat) (x13c : Bool) (h : AHeap) (nx : Nat) : Option (AV × AHeap × Nat) :=
  goK W J drawK (machOf Try.prog) call Y (keepT 8) lf c8 [1, 1, 1, 1, 1, 1] [] (retK (machOf Try.prog) ⟨c8, 167, r8, keepT 8⟩) ⟨167, mkL [(9, (.int .i64 x9)), (10, (.int .i64 x10)), (12, (.int .i64 x12)), (13, (.slice x13a x13n x13c))]⟩ h nx

noncomputable def F8_J1 (call : YldF → CallF) (Y : YldF) (lf : Nat) (x9 : Int) (x10 : Int) (x12 : Int) (x13a : Option (Nat × Nat)) (x13n : Nat) (x13c : Bool) (h : AHeap) (nx : Nat) : Option (AV × AHeap × Nat) := F8_J1' go1 go1 call Y lf x9 x10 x12 x13a x13n x13c h nx

noncomputable def F8_L2' (W J : StepF (AV × AHeap × Nat) → StepF (AV × AHeap × Nat)) (call : YldF → CallF) (Y : YldF) (lf : Nat) (n0 : Nat) (x9 : Int) (x10 : Int) (x12 : Int) (x13a : Option (Nat × Nat)) (x13n : Nat) (x13c : Bool) (x15 : Int) (x16 : Int) (h : AHeap) (nx : Nat) : Option (AV × AHeap × Nat) :=
  goK W J drawK (machOf Try.prog) call Y (keepT 8) lf c8 [1, 1, 1, 1, 1, 1, 1, 0, 1, 0, 9] [n0] (retK (machOf Try.prog) ⟨c8, 167, r8, keepT 8⟩) ⟨167, mkL [(9, (.int .i64 x9)), (10, (.int .i64 x10)), (12, (.int .i64 x12)), (13, (.slice x13a x13n x13c)), (15, (.int .i64 x15)), (16, (.int .i64 x16))]⟩ h nx

noncomputable def F8_L2 (call : YldF → CallF) (Y : YldF) (lf : Nat) (n0 : Nat) (x9 : Int) (x10 : Int) (x12 : Int) (x13a : Option (Nat × Nat)) (x13n : Nat) (x13c : Bool) (x15 : Int) (x16 : Int) (h : AHeap) (nx : Nat) : Option (AV × AHeap × Nat) := F8_L2' go1 go1 call Y lf n0 x9 x10 x12 x13a x13n x13c x15 x16 h nx

noncomputable def F8_J3' (W J : StepF (AV × AHeap × Nat) → StepF (AV × AHeap × Nat)) (call : YldF → CallF) (Y : YldF) (lf : Nat) (n0 : Nat) (x9 : Int) (x10 : Int) (x12 : Int) (x13a : Option (Nat × Nat)) (x13n : Nat) (x13c : Bool) (x15 : Int) (x16 : Int) (h : AHeap) (nx : Nat) : Option (AV × AHeap × Nat) :=
  goK W J drawK (machOf Try.prog) call Y (keepT 8) lf c8 [1, 1, 1, 1, 1, 1, 1, 0, 1, 0, 0, 1, 0, 0, 1] [n0] (retK (machOf Try.prog) ⟨c8, 167, r8, keepT 8⟩) ⟨167, mkL [(9, (.int .i64 x9)), (10, (.int .i64 x10)), (12, (.int .i64 x12)), (13, (.slice x13a x13n x13c)), (15, (.int .i64 x15)), (16, (.int .i64 x16))]⟩ h nx

noncomputable def F8_J3 (call : YldF → CallF) (Y : YldF) (lf : Nat) (n0 : Nat) (x9 : Int) (x10 : Int) (x12 : Int) (x13a : Option (Nat × Nat)) (x13n : Nat) (x13c : Bool) (x15 : Int) (x16 : Int) (h : AHeap) (nx : Nat) : Option (AV × AHeap × Nat) := F8_J3' go1 go1 call Y lf n0 x9 x10 x12 x13a x13n x13c x15 x16 h nx

noncomputable def F8_L4' (W J : StepF (AV × AHeap × Nat) → StepF (AV × AHeap × Nat)) (call : YldF → CallF) (Y : YldF) (lf : Nat) (n0 : Nat) (n1 : Nat) (x9 : Int) (x10 : Int) (x12 : Int) (x13a : Option (Nat × Nat)) (x13n : Nat) (x13c : Bool) (x15 : Int) (x16 : Int) (x17 : Int) (h : AHeap) (nx : Nat) : Option (AV × AHeap × Nat) :=
  goK W J drawK (machOf Try.prog) call Y (keepT 8) lf c8 [1, 1, 1, 1, 1, 1, 1, 0, 1, 0, 0, 1, 0, 0, 1, 0, 1, 0, 9] [n0, n1] (retK (machOf Try.prog) ⟨c8, 167, r8, keepT 8⟩) ⟨167, mkL [(9, (.int .i64 x9)), (10, (.int .i64 x10)), (12, (.int .i64 x12)), (13, (.slice x13a x13n x13c)), (15, (.int .i64 x15)), (16, (.int .i64 x16)), (17, (.int .i64 x17))]⟩ h nx

noncomputable def F8_L4 (call : YldF → CallF) (Y : YldF) (lf : Nat) (n0 : Nat) (n1 : Nat) (x9 : Int) (x10 : Int) (x12 : Int) (x13a : Option (Nat × Nat)) (x13n : Nat) (x13c : Bool) (x15 : Int) (x16 : Int) (x17 : Int) (h : AHeap) (nx : Nat) : Option (AV × AHeap × Nat) := F8_L4' go1 go1 call Y lf n0 n1 x9 x10 x12 x13a x13n x13c x15 x16 x17 h nx

theorem F8_J1_eq' (J : StepF (AV × AHeap × Nat) → StepF (AV × AHeap × Nat)) (call : YldF → CallF) (Y : YldF) (lf : Nat) (x9 : Int) (x10 : Int) (x12 : Int) (x13a : Option (Nat × Nat)) (x13n : Nat) (x13c : Bool) (h : AHeap) (nx : Nat) : F8_J1' go1 J call Y lf x9 x10 x12 x13a x13n x13c h nx =
    F8_L2' J J call Y lf lf x9 x10 x12 x13a x13n x13c 0 0 h (nx + 2) := by kernel_rfl

theorem F8_J1_eq (call : YldF → CallF) (Y : YldF) (lf : Nat) (x9 : Int) (x10 : Int) (x12 : Int) (x13a : Option (Nat × Nat)) (x13n : Nat) (x13c : Bool) (h : AHeap) (nx : Nat) : F8_J1 call Y lf x9 x10 x12 x13a x13n x13c h nx =
    F8_L2 call Y lf lf x9 x10 x12 x13a x13n x13c 0 0 h (nx + 2) := F8_J1_eq' go1 call Y lf x9 x10 x12 x13a x13n x13c h nx

theorem F8_L2_eq' (J : StepF (AV × AHeap × Nat) → StepF (AV × AHeap × Nat)) (call : YldF → CallF) (Y : YldF) (lf : Nat) (n0 : Nat) (x9 : Int) (x10 : Int) (x12 : Int) (x13a : Option (Nat × Nat)) (x13n : Nat) (x13c : Bool) (x15 : Int) (x16 : Int) (h : AHeap) (nx : Nat) : F8_L2' go1 J call Y lf (n0 + 1) x9 x10 x12 x13a x13n x13c x15 x16 h nx =
    if (decide ((x16 : Int) < ((x13n : Nat) : Int))) = true then
    ((x13a).bind fun p1 =>
    if 0 ≤ (x16 : Int) ∧ x16 < ((x13n : Nat) : Int) then
    ((ldA h p1.1 (p1.2 + Int.toNat x16 * 4)).bind fun v2 =>
    (asI .i64 v2).bind fun n3 =>
    if (decide ((n3 : Int) < 0)) = true then
    (some ((.bool false), h, (nx + 83)))
    else
    ((x13a).bind fun p4 =>
    if 0 ≤ (x16 : Int) ∧ x16 < ((x13n : Nat) : Int) then
    ((ldA h p4.1 (p4.2 + Int.toNat x16 * 4)).bind fun v5 =>
    (asI .i64 v5).bind fun n6 =>
    if (decide ((n6 : Int) ≥ x9)) = true then
    (some ((.bool false), h, (nx + 83)))
    else
    ((x13a).bind fun p7 =>
    if 0 ≤ (x16 : Int) ∧ x16 < ((x13n : Nat) : Int) then
    ((ldA h p7.1 ((p7.2 + Int.toNat x16 * 4) + 3)).bind fun v8 =>
    (asB v8).bind fun t9 =>
    if (!(t9 == (decide ((x16 : Int) < x10)))) = true then
    (some ((.bool false), h, (nx + 83)))
    else
    ((x13a).bind fun p10 =>
    if 0 ≤ (x16 : Int) ∧ x16 < ((x13n : Nat) : Int) then
    ((ldA h p10.1 ((p10.2 + Int.toNat x16 * 4) + 2)).bind fun v11 =>
    (asI .i64 v11).bind fun n12 =>
    if (decide ((n12 : Int) < 1)) = true then
    (some ((.bool false), h, (nx + 83)))
    else
    ((x13a).bind fun p13 =>
    if 0 ≤ (x16 : Int) ∧ x16 < ((x13n : Nat) : Int) then
    ((ldA h p13.1 ((p13.2 + Int.toNat x16 * 4) + 2)).bind fun v14 =>
    (asI .i64 v14).bind fun n15 =>
    (x13a).bind fun p16 =>
    if 0 ≤ (0 : Int) ∧ 0 < ((x13n : Nat) : Int) then
    ((ldA h p16.1 ((p16.2 + Int.toNat 0 * 4) + 2)).bind fun v17 =>
    (asI .i64 v17).bind fun n18 =>
    if (decide ((n15 : Int) > n18)) = true then
    (some ((.bool false), h, (nx + 83)))
    else
    ((x13a).bind fun p19 =>
    if 0 ≤ (x16 : Int) ∧ x16 < ((x13n : Nat) : Int) then
    ((ldA h p19.1 ((p19.2 + Int.toNat x16 * 4) + 3)).bind fun v20 =>
    (asB v20).bind fun t21 =>
    if t21 = true then
    ((x13a).bind fun p22 =>
    if 0 ≤ (x16 : Int) ∧ x16 < ((x13n : Nat) : Int) then
    ((ldA h p22.1 ((p22.2 + Int.toNat x16 * 4) + 2)).bind fun v23 =>
    (asI .i64 v23).bind fun n24 =>
    (x13a).bind fun p25 =>
    if 0 ≤ (0 : Int) ∧ 0 < ((x13n : Nat) : Int) then
    ((ldA h p25.1 ((p25.2 + Int.toNat 0 * 4) + 2)).bind fun v26 =>
    (asI .i64 v26).bind fun n27 =>
    if ((n24 : Int) != n27) = true then
    (some ((.bool false), h, (nx + 83)))
    else
    ((x13a).bind fun p28 =>
    if 0 ≤ (0 : Int) ∧ 0 < ((x13n : Nat) : Int) then
    ((ldA h p28.1 ((p28.2 + Int.toNat 0 * 4) + 2)).bind fun v29 =>
    (asI .i64 v29).bind fun n30 =>
    (x13a).bind fun p31 =>
    if 0 ≤ (x16 : Int) ∧ x16 < ((x13n : Nat) : Int) then
    ((ldA h p31.1 ((p31.2 + Int.toNat x16 * 4) + 2)).bind fun v32 =>
    (asI .i64 v32).bind fun n33 =>
    if (decide (((wrapA .i64 (n30 - n33)) : Int) > 1)) = true then
    (some ((.bool false), h, (nx + 83)))
    else
    (F8_J3' J J call Y lf n0 x9 x10 x12 x13a x13n x13c x15 x16 h (nx + 82)))
    else none)
    else none))
    else none)
    else none)
    else
    ((x13a).bind fun p34 =>
    if 0 ≤ (0 : Int) ∧ 0 < ((x13n : Nat) : Int) then
    ((ldA h p34.1 ((p34.2 + Int.toNat 0 * 4) + 2)).bind fun v35 =>
    (asI .i64 v35).bind fun n36 =>
    (x13a).bind fun p37 =>
    if 0 ≤ (x16 : Int) ∧ x16 < ((x13n : Nat) : Int) then
    ((ldA h p37.1 ((p37.2 + Int.toNat x16 * 4) + 2)).bind fun v38 =>
    (asI .i64 v38).bind fun n39 =>
    if (decide (((wrapA .i64 (n36 - n39)) : Int) > 1)) = true then
    (some ((.bool false), h, (nx + 83)))
    else
    (F8_J3' J J call Y lf n0 x9 x10 x12 x13a x13n x13c x15 x16 h (nx + 82)))
    else none)
    else none))
    else none))
    else none)
    else none))
    else none))
    else none))
    else none))
    else none)
    else
    (some ((.bool ((x15 : Int) == x12)), h, (nx + 8))) := by kernel_rfl

theorem F8_L2_eq (call : YldF → CallF) (Y : YldF) (lf : Nat) (n0 : Nat) (x9 : Int) (x10 : Int) (x12 : Int) (x13a : Option (Nat × Nat)) (x13n : Nat) (x13c : Bool) (x15 : Int) (x16 : Int) (h : AHeap) (nx : Nat) : F8_L2 call Y lf (n0 + 1) x9 x10 x12 x13a x13n x13c x15 x16 h nx =
    if (decide ((x16 : Int) < ((x13n : Nat) : Int))) = true then
    ((x13a).bind fun p1 =>
    if 0 ≤ (x16 : Int) ∧ x16 < ((x13n : Nat) : Int) then
    ((ldA h p1.1 (p1.2 + Int.toNat x16 * 4)).bind fun v2 =>
    (asI .i64 v2).bind fun n3 =>
    if (decide ((n3 : Int) < 0)) = true then
    (some ((.bool false), h, (nx + 83)))
    else
    ((x13a).bind fun p4 =>
    if 0 ≤ (x16 : Int) ∧ x16 < ((x13n : Nat) : Int) then
    ((ldA h p4.1 (p4.2 + Int.toNat x16 * 4)).bind fun v5 =>
    (asI .i64 v5).bind fun n6 =>
    if (decide ((n6 : Int) ≥ x9)) = true then
    (some ((.bool false), h, (nx + 83)))
    else
    ((x13a).bind fun p7 =>
    if 0 ≤ (x16 : Int) ∧ x16 < ((x13n : Nat) : Int) then
    ((ldA h p7.1 ((p7.2 + Int.toNat x16 * 4) + 3)).bind fun v8 =>
    (asB v8).bind fun t9 =>
    if (!(t9 == (decide ((x16 : Int) < x10)))) = true then
    (some ((.bool false), h, (nx + 83)))
    else
    ((x13a).bind fun p10 =>
    if 0 ≤ (x16 : Int) ∧ x16 < ((x13n : Nat) : Int) then
    ((ldA h p10.1 ((p10.2 + Int.toNat x16 * 4) + 2)).bind fun v11 =>
    (asI .i64 v11).bind fun n12 =>
    if (decide ((n12 : Int) < 1)) = true then
    (some ((.bool false), h, (nx + 83)))
    else
    ((x13a).bind fun p13 =>
    if 0 ≤ (x16 : Int) ∧ x16 < ((x13n : Nat) : Int) then
    ((ldA h p13.1 ((p13.2 + Int.toNat x16 * 4) + 2)).bind fun v14 =>
    (asI .i64 v14).bind fun n15 =>
    (x13a).bind fun p16 =>
    if 0 ≤ (0 : Int) ∧ 0 < ((x13n : Nat) : Int) then
    ((ldA h p16.1 ((p16.2 + Int.toNat 0 * 4) + 2)).bind fun v17 =>
    (asI .i64 v17).bind fun n18 =>
    if (decide ((n15 : Int) > n18)) = true then
    (some ((.bool false), h, (nx + 83)))
    else
    ((x13a).bind fun p19 =>
    if 0 ≤ (x16 : Int) ∧ x16 < ((x13n : Nat) : Int) then
    ((ldA h p19.1 ((p19.2 + Int.toNat x16 * 4) + 3)).bind fun v20 =>
    (asB v20).bind fun t21 =>
    if t21 = true then
    ((x13a).bind fun p22 =>
    if 0 ≤ (x16 : Int) ∧ x16 < ((x13n : Nat) : Int) then
    ((ldA h p22.1 ((p22.2 + Int.toNat x16 * 4) + 2)).bind fun v23 =>
    (asI .i64 v23).bind fun n24 =>
    (x13a).bind fun p25 =>
    if 0 ≤ (0 : Int) ∧ 0 < ((x13n : Nat) : Int) then
    ((ldA h p25.1 ((p25.2 + Int.toNat 0 * 4) + 2)).bind fun v26 =>
    (asI .i64 v26).bind fun n27 =>
    if ((n24 : Int) != n27) = true then
    (some ((.bool false), h, (nx + 83)))
    else
    ((x13a).bind fun p28 =>
    if 0 ≤ (0 : Int) ∧ 0 < ((x13n : Nat) : Int) then
    ((ldA h p28.1 ((p28.2 + Int.toNat 0 * 4) + 2)).bind fun v29 =>
    (asI .i64 v29).bind fun n30 =>
    (x13a).bind fun p31 =>
    if 0 ≤ (x16 : Int) ∧ x16 < ((x13n : Nat) : Int) then
    ((ldA h p31.1 ((p31.2 + Int.toNat x16 * 4) + 2)).bind fun v32 =>
    (asI .i64 v32).bind fun n33 =>
    if (decide (((wrapA .i64 (n30 - n33)) : Int) > 1)) = true then
    (some ((.bool false), h, (nx + 83)))
    else
    (F8_J3 call Y lf n0 x9 x10 x12 x13a x13n x13c x15 x16 h (nx + 82)))
    else none)
    else none))
    else none)
    else none)
    else
    ((x13a).bind fun p34 =>
    if 0 ≤ (0 : Int) ∧ 0 < ((x13n : Nat) : Int) then
    ((ldA h p34.1 ((p34.2 + Int.toNat 0 * 4) + 2)).bind fun v35 =>
    (asI .i64 v35).bind fun n36 =>
    (x13a).bind fun p37 =>
    if 0 ≤ (x16 : Int) ∧ x16 < ((x13n : Nat) : Int) then
    ((ldA h p37.1 ((p37.2 + Int.toNat x16 * 4) + 2)).bind fun v38 =>
    (asI .i64 v38).bind fun n39 =>
    if (decide (((wrapA .i64 (n36 - n39)) : Int) > 1)) = true then
    (some ((.bool false), h, (nx + 83)))
    else
    (F8_J3 call Y lf n0 x9 x10 x12 x13a x13n x13c x15 x16 h (nx + 82)))
    else none)
    else none))
    else none))
    else none)
    else none))
    else none))
    else none))
    else none))
    else none)
    else
    (some ((.bool ((x15 : Int) == x12)), h, (nx + 8))) := F8_L2_eq' go1 call Y lf n0 x9 x10 x12 x13a x13n x13c x15 x16 h nx

theorem F8_L2_zero (call : YldF → CallF) (Y : YldF) (lf : Nat) (x9 : Int) (x10 : Int) (x12 : Int) (x13a : Option (Nat × Nat)) (x13n : Nat) (x13c : Bool) (x15 : Int) (x16 : Int) (h : AHeap) (nx : Nat) : F8_L2 call Y lf 0 x9 x10 x12 x13a x13n x13c x15 x16 h nx = none := by kernel_rfl

theorem F8_J3_eq' (J : StepF (AV × AHeap × Nat) → StepF (AV × AHeap × Nat)) (call : YldF → CallF) (Y : YldF) (lf : Nat) (n0 : Nat) (x9 : Int) (x10 : Int) (x12 : Int) (x13a : Option (Nat × Nat)) (x13n : Nat) (x13c : Bool) (x15 : Int) (x16 : Int) (h : AHeap) (nx : Nat) : F8_J3' go1 J call Y lf n0 x9 x10 x12 x13a x13n x13c x15 x16 h nx =
    F8_L4' J J call Y lf n0 lf x9 x10 x12 x13a x13n x13c x15 x16 0 h (nx + 1) := by kernel_rfl

theorem F8_J3_eq (call : YldF → CallF) (Y : YldF) (lf : Nat) (n0 : Nat) (x9 : Int) (x10 : Int) (x12 : Int) (x13a : Option (Nat × Nat)) (x13n : Nat) (x13c : Bool) (x15 : Int) (x16 : Int) (h : AHeap) (nx : Nat) : F8_J3 call Y lf n0 x9 x10 x12 x13a x13n x13c x15 x16 h nx =
    F8_L4 call Y lf n0 lf x9 x10 x12 x13a x13n x13c x15 x16 0 h (nx + 1) := F8_J3_eq' go1 call Y lf n0 x9 x10 x12 x13a x13n x13c x15 x16 h nx

theorem F8_L4_eq' (J : StepF (AV × AHeap × Nat) → StepF (AV × AHeap × Nat)) (call : YldF → CallF) (Y : YldF) (lf : Nat) (n0 : Nat) (n1 : Nat) (x9 : Int) (x10 : Int) (x12 : Int) (x13a : Option (Nat × Nat)) (x13n : Nat) (x13c : Bool) (x15 : Int) (x16 : Int) (x17 : Int) (h : AHeap) (nx : Nat) : F8_L4' go1 J call Y lf n0 (n1 + 1) x9 x10 x12 x13a x13n x13c x15 x16 x17 h nx =
    if (decide ((x17 : Int) < x16)) = true then
    ((x13a).bind fun p1 =>
    if 0 ≤ (x17 : Int) ∧ x17 < ((x13n : Nat) : Int) then
    ((ldA h p1.1 (p1.2 + Int.toNat x17 * 4)).bind fun v2 =>
    (asI .i64 v2).bind fun n3 =>
    (x13a).bind fun p4 =>
    if 0 ≤ (x16 : Int) ∧ x16 < ((x13n : Nat) : Int) then
    ((ldA h p4.1 (p4.2 + Int.toNat x16 * 4)).bind fun v5 =>
    (asI .i64 v5).bind fun n6 =>
    if ((n3 : Int) == n6) = true then
    (some ((.bool false), h, (nx + 15)))
    else
    (F8_L4' J J call Y lf n0 n1 x9 x10 x12 x13a x13n x13c x15 x16 (wrapA .i64 (x17 + 1)) h (nx + 17)))
    else none)
    else none)
    else
    ((x13a).bind fun p7 =>
    if 0 ≤ (x16 : Int) ∧ x16 < ((x13n : Nat) : Int) then
    ((ldA h p7.1 ((p7.2 + Int.toNat x16 * 4) + 3)).bind fun v8 =>
    (asB v8).bind fun t9 =>
    if (!t9) = true then
    ((x13a).bind fun p10 =>
    if 0 ≤ (x16 : Int) ∧ x16 < ((x13n : Nat) : Int) then
    ((ldA h p10.1 ((p10.2 + Int.toNat x16 * 4) + 2)).bind fun v11 =>
    (asI .i64 v11).bind fun n12 =>
    F8_L2' J J call Y lf n0 x9 x10 x12 x13a x13n x13c (wrapA .i64 (x15 + n12)) (wrapA .i64 (x16 + 1)) h (nx + 20))
    else none)
    else
    (F8_L2' J J call Y lf n0 x9 x10 x12 x13a x13n x13c x15 (wrapA .i64 (x16 + 1)) h (nx + 12)))
    else none) := by kernel_rfl

theorem F8_L4_eq (call : YldF → CallF) (Y : YldF) (lf : Nat) (n0 : Nat) (n1 : Nat) (x9 : Int) (x10 : Int) (x12 : Int) (x13a : Option (Nat × Nat)) (x13n : Nat) (x13c : Bool) (x15 : Int) (x16 : Int) (x17 : Int) (h : AHeap) (nx : Nat) : F8_L4 call Y lf n0 (n1 + 1) x9 x10 x12 x13a x13n x13c x15 x16 x17 h nx =
    if (decide ((x17 : Int) < x16)) = true then
    ((x13a).bind fun p1 =>
    if 0 ≤ (x17 : Int) ∧ x17 < ((x13n : Nat) : Int) then
    ((ldA h p1.1 (p1.2 + Int.toNat x17 * 4)).bind fun v2 =>
    (asI .i64 v2).bind fun n3 =>
    (x13a).bind fun p4 =>
    if 0 ≤ (x16 : Int) ∧ x16 < ((x13n : Nat) : Int) then
    ((ldA h p4.1 (p4.2 + Int.toNat x16 * 4)).bind fun v5 =>
    (asI .i64 v5).bind fun n6 =>
    if ((n3 : Int) == n6) = true then
    (some ((.bool false), h, (nx + 15)))
    else
    (F8_L4 call Y lf n0 n1 x9 x10 x12 x13a x13n x13c x15 x16 (wrapA .i64 (x17 + 1)) h (nx + 17)))
    else none)
    else none)
    else
    ((x13a).bind fun p7 =>
    if 0 ≤ (x16 : Int) ∧ x16 < ((x13n : Nat) : Int) then
    ((ldA h p7.1 ((p7.2 + Int.toNat x16 * 4) + 3)).bind fun v8 =>
    (asB v8).bind fun t9 =>
    if (!t9) = true then
    ((x13a).bind fun p10 =>
    if 0 ≤ (x16 : Int) ∧ x16 < ((x13n : Nat) : Int) then
    ((ldA h p10.1 ((p10.2 + Int.toNat x16 * 4) + 2)).bind fun v11 =>
    (asI .i64 v11).bind fun n12 =>
    F8_L2 call Y lf n0 x9 x10 x12 x13a x13n x13c (wrapA .i64 (x15 + n12)) (wrapA .i64 (x16 + 1)) h (nx + 20))
    else none)
    else
    (F8_L2 call Y lf n0 x9 x10 x12 x13a x13n x13c x15 (wrapA .i64 (x16 + 1)) h (nx + 12)))
    else none) := F8_L4_eq' go1 call Y lf n0 n1 x9 x10 x12 x13a x13n x13c x15 x16 x17 h nx

theorem F8_L4_zero (call : YldF → CallF) (Y : YldF) (lf : Nat) (n0 : Nat) (x9 : Int) (x10 : Int) (x12 : Int) (x13a : Option (Nat × Nat)) (x13n : Nat) (x13c : Bool) (x15 : Int) (x16 : Int) (x17 : Int) (h : AHeap) (nx : Nat) : F8_L4 call Y lf n0 0 x9 x10 x12 x13a x13n x13c x15 x16 x17 h nx = none := by kernel_rfl

theorem F8_eq' (J : StepF (AV × AHeap × Nat) → StepF (AV × AHeap × Nat)) (n : Nat) (Y : YldF) (x0 : Int) (x1 : Int) (x2 : Int) (x3 : Int) (h : AHeap) (nx : Nat) : rootJ J Try.prog keepT (callP Try.prog keepT n) Y n 8 [(.int .i64 x0), (.int .i64 x1), (.int .i64 x2), (.int .i64 x3)] h nx =
    ((callP Try.prog keepT n) Y 14 [(.int .i64 x0), (.int .i64 x1)] h (nx + 9)).bind fun r1 =>
    (asTup 2 r1.1).bind fun d2 =>
    (asI .i64 (d2.getD 0 .bad)).bind fun n3 =>
    (asI .i64 (d2.getD 1 .bad)).bind fun n4 =>
    ((callP Try.prog keepT n) Y 15 [(.int .i64 x2), (.int .i64 65537)] r1.2.1 (r1.2.2 + 3)).bind fun r5 =>
    (asI .i64 r5.1).bind fun n6 =>
    ((callP Try.prog keepT n) Y 15 [(.int .i64 x3), (.int .i64 32)] r5.2.1 (r5.2.2 + 4)).bind fun r7 =>
    (asI .i64 r7.1).bind fun n8 =>
    ((callP Try.prog keepT n) Y 23 [(.int .i64 n3), (.int .i64 n4), (.int .i64 n6), (.int .i64 (wrapA .i64 (1 + n8)))] r7.2.1 (r7.2.2 + 10)).bind fun r9 =>
    (asTup 2 r9.1).bind fun d10 =>
    (asSl (d10.getD 0 .bad)).bind fun s11 =>
    (asI .i64 (d10.getD 1 .bad)).bind fun n12 =>
    if ((n12 : Int) != 0) = true then
    (some ((.bool false), r9.2.1, (r9.2.2 + 15)))
    else
    (if (decide ((((s11.2.1 : Nat) : Int) : Int) ≤ n4)) = true then
    (some ((.bool false), r9.2.1, (r9.2.2 + 15)))
    else
    (if (decide ((((s11.2.1 : Nat) : Int) : Int) > n3)) = true then
    (some ((.bool false), r9.2.1, (r9.2.2 + 15)))
    else
    (F8_J1' J J (callP Try.prog keepT n) Y n n3 n4 (wrapA .i64 (1 + n8)) s11.1 s11.2.1 s11.2.2 r9.2.1 (r9.2.2 + 14)))) := by kernel_rfl

/-- quickset/quicksetkeep.ColumnsApart -/
theorem F8_eq (n : Nat) (Y : YldF) (x0 : Int) (x1 : Int) (x2 : Int) (x3 : Int) (h : AHeap) (nx : Nat) : callP Try.prog keepT (n + 1) Y 8 [(.int .i64 x0), (.int .i64 x1), (.int .i64 x2), (.int .i64 x3)] h nx =
    ((callP Try.prog keepT n) Y 14 [(.int .i64 x0), (.int .i64 x1)] h (nx + 9)).bind fun r1 =>
    (asTup 2 r1.1).bind fun d2 =>
    (asI .i64 (d2.getD 0 .bad)).bind fun n3 =>
    (asI .i64 (d2.getD 1 .bad)).bind fun n4 =>
    ((callP Try.prog keepT n) Y 15 [(.int .i64 x2), (.int .i64 65537)] r1.2.1 (r1.2.2 + 3)).bind fun r5 =>
    (asI .i64 r5.1).bind fun n6 =>
    ((callP Try.prog keepT n) Y 15 [(.int .i64 x3), (.int .i64 32)] r5.2.1 (r5.2.2 + 4)).bind fun r7 =>
    (asI .i64 r7.1).bind fun n8 =>
    ((callP Try.prog keepT n) Y 23 [(.int .i64 n3), (.int .i64 n4), (.int .i64 n6), (.int .i64 (wrapA .i64 (1 + n8)))] r7.2.1 (r7.2.2 + 10)).bind fun r9 =>
    (asTup 2 r9.1).bind fun d10 =>
    (asSl (d10.getD 0 .bad)).bind fun s11 =>
    (asI .i64 (d10.getD 1 .bad)).bind fun n12 =>
    if ((n12 : Int) != 0) = true then
    (some ((.bool false), r9.2.1, (r9.2.2 + 15)))
    else
    (if (decide ((((s11.2.1 : Nat) : Int) : Int) ≤ n4)) = true then
    (some ((.bool false), r9.2.1, (r9.2.2 + 15)))
    else
    (if (decide ((((s11.2.1 : Nat) : Int) : Int) > n3)) = true then
    (some ((.bool false), r9.2.1, (r9.2.2 + 15)))
    else
    (F8_J1 (callP Try.prog keepT n) Y n n3 n4 (wrapA .i64 (1 + n8)) s11.1 s11.2.1 s11.2.2 r9.2.1 (r9.2.2 + 14)))) := F8_eq' go1 n Y x0 x1 x2 x3 h nx

noncomputable def c9 : Code := (Try.f9.body).getD .skip

noncomputable def r9 : List ResultVar := Try.f9.results.toList

theorem F9_eq' (J : StepF (AV × AHeap × Nat) → StepF (AV × AHeap × Nat)) (n : Nat) (Y : YldF) (x0a : Option (Nat × Nat)) (x0n : Nat) (x0c : Bool) (x1a : Option (Nat × Nat)) (x1n : Nat) (x1c : Bool) (h : AHeap) (nx : Nat) : rootJ J Try.prog keepT (callP Try.prog keepT n) Y n 9 [(.slice x0a x0n x0c), (.slice x1a x1n x1c)] h nx =
    ((callP Try.prog keepT n) Y 19 [(.slice x0a x0n x0c), (.int .i64 400)] h (nx + 4)).bind fun r1 =>
    (asSl r1.1).bind fun s2 =>
    ((callP Try.prog keepT n) Y 19 [(.slice x1a x1n x1c), (.int .i64 400)] r1.2.1 (r1.2.2 + 3)).bind fun r3 =>
    (asSl r3.1).bind fun s4 =>
    ((callP Try.prog keepT n) Y 21 [(.slice s2.1 s2.2.1 s2.2.2)] r3.2.1 (r3.2.2 + 8)).bind fun r5 =>
    (asTup 2 r5.1).bind fun d6 =>
    (asAgg 4 (d6.getD 0 .bad)).bind fun d7 =>
    (asI .i64 (d7.getD 0 .bad)).bind fun n8 =>
    (asI .i64 (d7.getD 1 .bad)).bind fun n9 =>
    (asI .i64 (d7.getD 2 .bad)).bind fun n10 =>
    (asI .i64 (d7.getD 3 .bad)).bind fun n11 =>
    (asI .i64 (d6.getD 1 .bad)).bind fun n12 =>
    let h13 := AHeap.put r5.2.1 (r3.2.2 + 5) (some ⟨[(.int .i64 0), (.int .i64 0), (.int .i64 0), (.int .i64 0)], 4, true⟩)
    (stA h13 (r3.2.2 + 5) 0 (.agg [(.int .i64 n8), (.int .i64 n9), (.int .i64 n10), (.int .i64 n11)]) 4).bind fun b14 =>
    let h15 := AHeap.put h13 (r3.2.2 + 5) (some b14)
    ((callP Try.prog keepT n) Y 21 [(.slice s4.1 s4.2.1 s4.2.2)] h15 (r5.2.2 + 8)).bind fun r16 =>
    (asTup 2 r16.1).bind fun d17 =>
    (asAgg 4 (d17.getD 0 .bad)).bind fun d18 =>
    (asI .i64 (d18.getD 0 .bad)).bind fun n19 =>
    (asI .i64 (d18.getD 1 .bad)).bind fun n20 =>
    (asI .i64 (d18.getD 2 .bad)).bind fun n21 =>
    (asI .i64 (d18.getD 3 .bad)).bind fun n22 =>
    (asI .i64 (d17.getD 1 .bad)).bind fun n23 =>
    let h24 := AHeap.put r16.2.1 (r5.2.2 + 5) (some ⟨[(.int .i64 0), (.int .i64 0), (.int .i64 0), (.int .i64 0)], 4, true⟩)
    (stA h24 (r5.2.2 + 5) 0 (.agg [(.int .i64 n19), (.int .i64 n20), (.int .i64 n21), (.int .i64 n22)]) 4).bind fun b25 =>
    let h26 := AHeap.put h24 (r5.2.2 + 5) (some b25)
    (srcS h26 s2.1 s2.2.1 1).bind fun q27 =>
    (appD h26 none 0 false 1 1 (r16.2.2 + 1) q27).bind fun e28 =>
    let h29 := AHeap.puts h26 e28.sets
    (srcS h29 s4.1 s4.2.1 1).bind fun q30 =>
    (appD h29 e28.a e28.n e28.c 1 1 (r16.2.2 + 3) q30).bind fun e31 =>
    let h32 := AHeap.puts h29 e31.sets
    ((callP Try.prog keepT n) Y 21 [(.slice e31.a e31.n e31.c)] h32 (r16.2.2 + 11)).bind fun r33 =>
    (asTup 2 r33.1).bind fun d34 =>
    (asAgg 4 (d34.getD 0 .bad)).bind fun d35 =>
    (asI .i64 (d35.getD 0 .bad)).bind fun n36 =>
    (asI .i64 (d35.getD 1 .bad)).bind fun n37 =>
    (asI .i64 (d35.getD 2 .bad)).bind fun n38 =>
    (asI .i64 (d35.getD 3 .bad)).bind fun n39 =>
    (asI .i64 (d34.getD 1 .bad)).bind fun n40 =>
    let h41 := AHeap.put r33.2.1 (r16.2.2 + 8) (some ⟨[(.int .i64 0), (.int .i64 0), (.int .i64 0), (.int .i64 0)], 4, true⟩)
    (stA h41 (r16.2.2 + 8) 0 (.agg [(.int .i64 n36), (.int .i64 n37), (.int .i64 n38), (.int .i64 n39)]) 4).bind fun b42 =>
    let h43 := AHeap.put h41 (r16.2.2 + 8) (some b42)
    (ldR h43 (r3.2.2 + 5) 0 4).bind fun l44 =>
    (asAgg 4 (AV.agg l44)).bind fun d45 =>
    (asI .i64 (d45.getD 0 .bad)).bind fun n46 =>
    (asI .i64 (d45.getD 1 .bad)).bind fun n47 =>
    (asI .i64 (d45.getD 2 .bad)).bind fun n48 =>
    (asI .i64 (d45.getD 3 .bad)).bind fun n49 =>
    ((callP Try.prog keepT n) Y 24 [(.agg [(.int .i64 n46), (.int .i64 n47), (.int .i64 n48), (.int .i64 n49)]), (.slice s4.1 s4.2.1 s4.2.2)] h43 (r33.2.2 + 9)).bind fun r50 =>
    (asTup 2 r50.1).bind fun d51 =>
    (asAgg 4 (d51.getD 0 .bad)).bind fun d52 =>
    (asI .i64 (d52.getD 0 .bad)).bind fun n53 =>
    (asI .i64 (d52.getD 1 .bad)).bind fun n54 =>
    (asI .i64 (d52.getD 2 .bad)).bind fun n55 =>
    (asI .i64 (d52.getD 3 .bad)).bind fun n56 =>
    (asI .i64 (d51.getD 1 .bad)).bind fun n57 =>
    let h58 := AHeap.put r50.2.1 (r33.2.2 + 6) (some ⟨[(.int .i64 0), (.int .i64 0), (.int .i64 0), (.int .i64 0)], 4, true⟩)
    (stA h58 (r33.2.2 + 6) 0 (.agg [(.int .i64 n53), (.int .i64 n54), (.int .i64 n55), (.int .i64 n56)]) 4).bind fun b59 =>
    let h60 := AHeap.put h58 (r33.2.2 + 6) (some b59)
    (ldR h60 (r3.2.2 + 5) 0 4).bind fun l61 =>
    (asAgg 4 (AV.agg l61)).bind fun d62 =>
    (asI .i64 (d62.getD 0 .bad)).bind fun n63 =>
    (asI .i64 (d62.getD 1 .bad)).bind fun n64 =>
    (asI .i64 (d62.getD 2 .bad)).bind fun n65 =>
    (asI .i64 (d62.getD 3 .bad)).bind fun n66 =>
    (ldR h60 (r5.2.2 + 5) 0 4).bind fun l67 =>
    (asAgg 4 (AV.agg l67)).bind fun d68 =>
    (asI .i64 (d68.getD 0 .bad)).bind fun n69 =>
    (asI .i64 (d68.getD 1 .bad)).bind fun n70 =>
    (asI .i64 (d68.getD 2 .bad)).bind fun n71 =>
    (asI .i64 (d68.getD 3 .bad)).bind fun n72 =>
    ((callP Try.prog keepT n) Y 25 [(.agg [(.int .i64 n63), (.int .i64 n64), (.int .i64 n65), (.int .i64 n66)]), (.agg [(.int .i64 n69), (.int .i64 n70), (.int .i64 n71), (.int .i64 n72)]), (.int .i64 (wrapA .i64 (Int.tdiv ((s4.2.1 : Nat) : Int) 4)))] h60 (r50.2.2 + 12)).bind fun r73 =>
    (asTup 2 r73.1).bind fun d74 =>
    (asAgg 4 (d74.getD 0 .bad)).bind fun d75 =>
    (asI .i64 (d75.getD 0 .bad)).bind fun n76 =>
    (asI .i64 (d75.getD 1 .bad)).bind fun n77 =>
    (asI .i64 (d75.getD 2 .bad)).bind fun n78 =>
    (asI .i64 (d75.getD 3 .bad)).bind fun n79 =>
    (asI .i64 (d74.getD 1 .bad)).bind fun n80 =>
    let h81 := AHeap.put r73.2.1 (r50.2.2 + 9) (some ⟨[(.int .i64 0), (.int .i64 0), (.int .i64 0), (.int .i64 0)], 4, true⟩)
    (stA h81 (r50.2.2 + 9) 0 (.agg [(.int .i64 n76), (.int .i64 n77), (.int .i64 n78), (.int .i64 n79)]) 4).bind fun b82 =>
    let h83 := AHeap.put h81 (r50.2.2 + 9) (some b82)
    ((callP Try.prog keepT n) Y 20 [] h83 (r73.2.2 + 32)).bind fun r84 =>
    (asB r84.1).bind fun t85 =>
    if t85 = true then
    (if ((n12 : Int) == 0) = true then
    (if ((n23 : Int) == 0) = true then
    (if ((n40 : Int) == 0) = true then
    (if ((n57 : Int) == 0) = true then
    (if ((n80 : Int) == 0) = true then
    ((ldR r84.2.1 (r16.2.2 + 8) 0 4).bind fun l86 =>
    (asAgg 4 (AV.agg l86)).bind fun d87 =>
    (asI .i64 (d87.getD 0 .bad)).bind fun n88 =>
    (asI .i64 (d87.getD 1 .bad)).bind fun n89 =>
    (asI .i64 (d87.getD 2 .bad)).bind fun n90 =>
    (asI .i64 (d87.getD 3 .bad)).bind fun n91 =>
    (ldR r84.2.1 (r33.2.2 + 6) 0 4).bind fun l92 =>
    (asAgg 4 (AV.agg l92)).bind fun d93 =>
    (asI .i64 (d93.getD 0 .bad)).bind fun n94 =>
    (asI .i64 (d93.getD 1 .bad)).bind fun n95 =>
    (asI .i64 (d93.getD 2 .bad)).bind fun n96 =>
    (asI .i64 (d93.getD 3 .bad)).bind fun n97 =>
    if (eqCells [(.int .i64 n88), (.int .i64 n89), (.int .i64 n90), (.int .i64 n91)] [(.int .i64 n94), (.int .i64 n95), (.int .i64 n96), (.int .i64 n97)]) = true then
    ((ldR r84.2.1 (r16.2.2 + 8) 0 4).bind fun l98 =>
    (asAgg 4 (AV.agg l98)).bind fun d99 =>
    (asI .i64 (d99.getD 0 .bad)).bind fun n100 =>
    (asI .i64 (d99.getD 1 .bad)).bind fun n101 =>
    (asI .i64 (d99.getD 2 .bad)).bind fun n102 =>
    (asI .i64 (d99.getD 3 .bad)).bind fun n103 =>
    (ldR r84.2.1 (r50.2.2 + 9) 0 4).bind fun l104 =>
    (asAgg 4 (AV.agg l104)).bind fun d105 =>
    (asI .i64 (d105.getD 0 .bad)).bind fun n106 =>
    (asI .i64 (d105.getD 1 .bad)).bind fun n107 =>
    (asI .i64 (d105.getD 2 .bad)).bind fun n108 =>
    (asI .i64 (d105.getD 3 .bad)).bind fun n109 =>
    some ((.bool (eqCells [(.int .i64 n100), (.int .i64 n101), (.int .i64 n102), (.int .i64 n103)] [(.int .i64 n106), (.int .i64 n107), (.int .i64 n108), (.int .i64 n109)])), r84.2.1, r84.2.2))
    else
    (some ((.bool false), r84.2.1, r84.2.2)))
    else
    (some ((.bool false), r84.2.1, r84.2.2)))
    else
    (some ((.bool false), r84.2.1, r84.2.2)))
    else
    (some ((.bool false), r84.2.1, r84.2.2)))
    else
    (some ((.bool false), r84.2.1, r84.2.2)))
    else
    (some ((.bool false), r84.2.1, r84.2.2)))
    else
    (some ((.bool false), r84.2.1, r84.2.2)) := by kernel_rfl

/-- quickset/quicksetkeep.FletParts -/
theorem F9_eq (n : Nat) (Y : YldF) (x0a : Option (Nat × Nat)) (x0n : Nat) (x0c : Bool) (x1a : Option (Nat × Nat)) (x1n : Nat) (x1c : Bool) (h : AHeap) (nx : Nat) : callP Try.prog keepT (n + 1) Y 9 [(.slice x0a x0n x0c), (.slice x1a x1n x1c)] h nx =
    ((callP Try.prog keepT n) Y 19 [(.slice x0a x0n x0c), (.int .i64 400)] h (nx + 4)).bind fun r1 =>
    (asSl r1.1).bind fun s2 =>
    ((callP Try.prog keepT n) Y 19 [(.slice x1a x1n x1c), (.int .i64 400)] r1.2.1 (r1.2.2 + 3)).bind fun r3 =>
    (asSl r3.1).bind fun s4 =>
    ((callP Try.prog keepT n) Y 21 [(.slice s2.1 s2.2.1 s2.2.2)] r3.2.1 (r3.2.2 + 8)).bind fun r5 =>
    (asTup 2 r5.1).bind fun d6 =>
    (asAgg 4 (d6.getD 0 .bad)).bind fun d7 =>
    (asI .i64 (d7.getD 0 .bad)).bind fun n8 =>
    (asI .i64 (d7.getD 1 .bad)).bind fun n9 =>
    (asI .i64 (d7.getD 2 .bad)).bind fun n10 =>
    (asI .i64 (d7.getD 3 .bad)).bind fun n11 =>
    (asI .i64 (d6.getD 1 .bad)).bind fun n12 =>
    let h13 := AHeap.put r5.2.1 (r3.2.2 + 5) (some ⟨[(.int .i64 0), (.int .i64 0), (.int .i64 0), (.int .i64 0)], 4, true⟩)
    (stA h13 (r3.2.2 + 5) 0 (.agg [(.int .i64 n8), (.int .i64 n9), (.int .i64 n10), (.int .i64 n11)]) 4).bind fun b14 =>
    let h15 := AHeap.put h13 (r3.2.2 + 5) (some b14)
    ((callP Try.prog keepT n) Y 21 [(.slice s4.1 s4.2.1 s4.2.2)] h15 (r5.2.2 + 8)).bind fun r16 =>
    (asTup 2 r16.1).bind fun d17 =>
    (asAgg 4 (d17.getD 0 .bad)).bind fun d18 =>
    (asI .i64 (d18.getD 0 .bad)).bind fun n19 =>
    (asI .i64 (d18.getD 1 .bad)).bind fun n20 =>
    (asI .i64 (d18.getD 2 .bad)).bind fun n21 =>
    (asI .i64 (d18.getD 3 .bad)).bind fun n22 =>
    (asI .i64 (d17.getD 1 .bad)).bind fun n23 =>
    let h24 := AHeap.put r16.2.1 (r5.2.2 + 5) (some ⟨[(.int .i64 0), (.int .i64 0), (.int .i64 0), (.int .i64 0)], 4, true⟩)
    (stA h24 (r5.2.2 + 5) 0 (.agg [(.int .i64 n19), (.int .i64 n20), (.int .i64 n21), (.int .i64 n22)]) 4).bind fun b25 =>
    let h26 := AHeap.put h24 (r5.2.2 + 5) (some b25)
    (srcS h26 s2.1 s2.2.1 1).bind fun q27 =>
    (appD h26 none 0 false 1 1 (r16.2.2 + 1) q27).bind fun e28 =>
    let h29 := AHeap.puts h26 e28.sets
    (srcS h29 s4.1 s4.2.1 1).bind fun q30 =>
    (appD h29 e28.a e28.n e28.c 1 1 (r16.2.2 + 3) q30).bind fun e31 =>
    let h32 := AHeap.puts h29 e31.sets
    ((callP Try.prog keepT n) Y 21 [(.slice e31.a e31.n e31.c)] h32 (r16.2.2 + 11)).bind fun r33 =>
    (asTup 2 r33.1).bind fun d34 =>
    (asAgg 4 (d34.getD 0 .bad)).bind fun d35 =>
    (asI .i64 (d35.getD 0 .bad)).bind fun n36 =>
    (asI .i64 (d35.getD 1 .bad)).bind fun n37 =>
    (asI .i64 (d35.getD 2 .bad)).bind fun n38 =>
    (asI .i64 (d35.getD 3 .bad)).bind fun n39 =>
    (asI .i64 (d34.getD 1 .bad)).bind fun n40 =>
    let h41 := AHeap.put r33.2.1 (r16.2.2 + 8) (some ⟨[(.int .i64 0), (.int .i64 0), (.int .i64 0), (.int .i64 0)], 4, true⟩)
    (stA h41 (r16.2.2 + 8) 0 (.agg [(.int .i64 n36), (.int .i64 n37), (.int .i64 n38), (.int .i64 n39)]) 4).bind fun b42 =>
    let h43 := AHeap.put h41 (r16.2.2 + 8) (some b42)
    (ldR h43 (r3.2.2 + 5) 0 4).bind fun l44 =>
    (asAgg 4 (AV.agg l44)).bind fun d45 =>
    (asI .i64 (d45.getD 0 .bad)).bind fun n46 =>
    (asI .i64 (d45.getD 1 .bad)).bind fun n47 =>
    (asI .i64 (d45.getD 2 .bad)).bind fun n48 =>
    (asI .i64 (d45.getD 3 .bad)).bind fun n49 =>
    ((callP Try.prog keepT n) Y 24 [(.agg [(.int .i64 n46), (.int .i64 n47), (.int .i64 n48), (.int .i64 n49)]), (.slice s4.1 s4.2.1 s4.2.2)] h43 (r33.2.2 + 9)).bind fun r50 =>
    (asTup 2 r50.1).bind fun d51 =>
    (asAgg 4 (d51.getD 0 .bad)).bind fun d52 =>
    (asI .i64 (d52.getD 0 .bad)).bind fun n53 =>
    (asI .i64 (d52.getD 1 .bad)).bind fun n54 =>
    (asI .i64 (d52.getD 2 .bad)).bind fun n55 =>
    (asI .i64 (d52.getD 3 .bad)).bind fun n56 =>
    (asI .i64 (d51.getD 1 .bad)).bind fun n57 =>
    let h58 := AHeap.put r50.2.1 (r33.2.2 + 6) (some ⟨[(.int .i64 0), (.int .i64 0), (.int .i64 0), (.int .i64 0)], 4, true⟩)
    (stA h58 (r33.2.2 + 6) 0 (.agg [(.int .i64 n53), (.int .i64 n54), (.int .i64 n55), (.int .i64 n56)]) 4).bind fun b59 =>
    let h60 := AHeap.put h58 (r33.2.2 + 6) (some b59)
    (ldR h60 (r3.2.2 + 5) 0 4).bind fun l61 =>
    (asAgg 4 (AV.agg l61)).bind fun d62 =>
    (asI .i64 (d62.getD 0 .bad)).bind fun n63 =>
    (asI .i64 (d62.getD 1 .bad)).bind fun n64 =>
    (asI .i64 (d62.getD 2 .bad)).bind fun n65 =>
    (asI .i64 (d62.getD 3 .bad)).bind fun n66 =>
    (ldR h60 (r5.2.2 + 5) 0 4).bind fun l67 =>
    (asAgg 4 (AV.agg l67)).bind fun d68 =>
    (asI .i64 (d68.getD 0 .bad)).bind fun n69 =>
    (asI .i64 (d68.getD 1 .bad)).bind fun n70 =>
    (asI .i64 (d68.getD 2 .bad)).bind fun n71 =>
    (asI .i64 (d68.getD 3 .bad)).bind fun n72 =>
    ((callP Try.prog keepT n) Y 25 [(.agg [(.int .i64 n63), (.int .i64 n64), (.int .i64 n65), (.int .i64 n66)]), (.agg [(.int .i64 n69), (.int .i64 n70), (.int .i64 n71), (.int .i64 n72)]), (.int .i64 (wrapA .i64 (Int.tdiv ((s4.2.1 : Nat) : Int) 4)))] h60 (r50.2.2 + 12)).bind fun r73 =>
    (asTup 2 r73.1).bind fun d74 =>
    (asAgg 4 (d74.getD 0 .bad)).bind fun d75 =>
    (asI .i64 (d75.getD 0 .bad)).bind fun n76 =>
    (asI .i64 (d75.getD 1 .bad)).bind fun n77 =>
    (asI .i64 (d75.getD 2 .bad)).bind fun n78 =>
    (asI .i64 (d75.getD 3 .bad)).bind fun n79 =>
    (asI .i64 (d74.getD 1 .bad)).bind fun n80 =>
    let h81 := AHeap.put r73.2.1 (r50.2.2 + 9) (some ⟨[(.int .i64 0), (.int .i64 0), (.int .i64 0), (.int .i64 0)], 4, true⟩)
    (stA h81 (r50.2.2 + 9) 0 (.agg [(.int .i64 n76), (.int .i64 n77), (.int .i64 n78), (.int .i64 n79)]) 4).bind fun b82 =>
    let h83 := AHeap.put h81 (r50.2.2 + 9) (some b82)
    ((callP Try.prog keepT n) Y 20 [] h83 (r73.2.2 + 32)).bind fun r84 =>
    (asB r84.1).bind fun t85 =>
    if t85 = true then
    (if ((n12 : Int) == 0) = true then
    (if ((n23 : Int) == 0) = true then
    (if ((n40 : Int) == 0) = true then
    (if ((n57 : Int) == 0) = true then
    (if ((n80 : Int) == 0) = true then
    ((ldR r84.2.1 (r16.2.2 + 8) 0 4).bind fun l86 =>
    (asAgg 4 (AV.agg l86)).bind fun d87 =>
    (asI .i64 (d87.getD 0 .bad)).bind fun n88 =>
    (asI .i64 (d87.getD 1 .bad)).bind fun n89 =>
    (asI .i64 (d87.getD 2 .bad)).bind fun n90 =>
    (asI .i64 (d87.getD 3 .bad)).bind fun n91 =>
    (ldR r84.2.1 (r33.2.2 + 6) 0 4).bind fun l92 =>
    (asAgg 4 (AV.agg l92)).bind fun d93 =>
    (asI .i64 (d93.getD 0 .bad)).bind fun n94 =>
    (asI .i64 (d93.getD 1 .bad)).bind fun n95 =>
    (asI .i64 (d93.getD 2 .bad)).bind fun n96 =>
    (asI .i64 (d93.getD 3 .bad)).bind fun n97 =>
    if (eqCells [(.int .i64 n88), (.int .i64 n89), (.int .i64 n90), (.int .i64 n91)] [(.int .i64 n94), (.int .i64 n95), (.int .i64 n96), (.int .i64 n97)]) = true then
    ((ldR r84.2.1 (r16.2.2 + 8) 0 4).bind fun l98 =>
    (asAgg 4 (AV.agg l98)).bind fun d99 =>
    (asI .i64 (d99.getD 0 .bad)).bind fun n100 =>
    (asI .i64 (d99.getD 1 .bad)).bind fun n101 =>
    (asI .i64 (d99.getD 2 .bad)).bind fun n102 =>
    (asI .i64 (d99.getD 3 .bad)).bind fun n103 =>
    (ldR r84.2.1 (r50.2.2 + 9) 0 4).bind fun l104 =>
    (asAgg 4 (AV.agg l104)).bind fun d105 =>
    (asI .i64 (d105.getD 0 .bad)).bind fun n106 =>
    (asI .i64 (d105.getD 1 .bad)).bind fun n107 =>
    (asI .i64 (d105.getD 2 .bad)).bind fun n108 =>
    (asI .i64 (d105.getD 3 .bad)).bind fun n109 =>
    some ((.bool (eqCells [(.int .i64 n100), (.int .i64 n101), (.int .i64 n102), (.int .i64 n103)] [(.int .i64 n106), (.int .i64 n107), (.int .i64 n108), (.int .i64 n109)])), r84.2.1, r84.2.2))
    else
    (some ((.bool false), r84.2.1, r84.2.2)))
    else
    (some ((.bool false), r84.2.1, r84.2.2)))
    else
    (some ((.bool false), r84.2.1, r84.2.2)))
    else
    (some ((.bool false), r84.2.1, r84.2.2)))
    else
    (some ((.bool false), r84.2.1, r84.2.2)))
    else
    (some ((.bool false), r84.2.1, r84.2.2)))
    else
    (some ((.bool false), r84.2.1, r84.2.2)) := F9_eq' go1 n Y x0a x0n x0c x1a x1n x1c h nx

noncomputable def c10 : Code := (Try.f10.body).getD .skip

noncomputable def r10 : List ResultVar := Try.f10.results.toList

theorem F10_eq' (J : StepF (AV × AHeap × Nat) → StepF (AV × AHeap × Nat)) (n : Nat) (Y : YldF) (x0a : Option (Nat × Nat)) (x0n : Nat) (x0c : Bool) (x1 : Int) (h : AHeap) (nx : Nat) : rootJ J Try.prog keepT (callP Try.prog keepT n) Y n 10 [(.slice x0a x0n x0c), (.int .i64 x1)] h nx =
    ((callP Try.prog keepT n) Y 19 [(.slice x0a x0n x0c), (.int .i64 400)] h (nx + 4)).bind fun r1 =>
    (asSl r1.1).bind fun s2 =>
    ((callP Try.prog keepT n) Y 15 [(.int .i64 x1), (.int .i64 60)] r1.2.1 (r1.2.2 + 5)).bind fun r3 =>
    (asI .i64 r3.1).bind fun n4 =>
    if (decide (0 ≤ ((wrapA .i64 (4 * n4)) : Int)) && decide (((wrapA .i64 (4 * n4)) : Int) ≤ (wrapA .i64 (4 * n4))) && decide (((1 : Nat) : Int) * (wrapA .i64 (4 * n4)) ≤ 281474976710656) && decide (((wrapA .i64 (4 * n4)) : Int) ≤ 9223372036854775807) && 1 != 0) = true then
    (let h5 := AHeap.put r3.2.1 (r1.2.2 + 3) (some ⟨(madeA [(.int .u8 0)] (Int.toNat (wrapA .i64 (4 * n4)) * 1)), 1, true⟩)
    ((callP Try.prog keepT n) Y 21 [(.slice s2.1 s2.2.1 s2.2.2)] h5 (r3.2.2 + 8)).bind fun r6 =>
    (asTup 2 r6.1).bind fun d7 =>
    (asAgg 4 (d7.getD 0 .bad)).bind fun d8 =>
    (asI .i64 (d8.getD 0 .bad)).bind fun n9 =>
    (asI .i64 (d8.getD 1 .bad)).bind fun n10 =>
    (asI .i64 (d8.getD 2 .bad)).bind fun n11 =>
    (asI .i64 (d8.getD 3 .bad)).bind fun n12 =>
    (asI .i64 (d7.getD 1 .bad)).bind fun n13 =>
    let h14 := AHeap.put r6.2.1 (r3.2.2 + 5) (some ⟨[(.int .i64 0), (.int .i64 0), (.int .i64 0), (.int .i64 0)], 4, true⟩)
    (stA h14 (r3.2.2 + 5) 0 (.agg [(.int .i64 n9), (.int .i64 n10), (.int .i64 n11), (.int .i64 n12)]) 4).bind fun b15 =>
    let h16 := AHeap.put h14 (r3.2.2 + 5) (some b15)
    (srcS h16 (some ((r1.2.2 + 3), 0)) (Int.toNat (wrapA .i64 (4 * n4))) 1).bind fun q17 =>
    (appD h16 none 0 false 1 1 (r6.2.2 + 1) q17).bind fun e18 =>
    let h19 := AHeap.puts h16 e18.sets
    (srcS h19 s2.1 s2.2.1 1).bind fun q20 =>
    (appD h19 e18.a e18.n e18.c 1 1 (r6.2.2 + 3) q20).bind fun e21 =>
    let h22 := AHeap.puts h19 e21.sets
    ((callP Try.prog keepT n) Y 21 [(.slice e21.a e21.n e21.c)] h22 (r6.2.2 + 11)).bind fun r23 =>
    (asTup 2 r23.1).bind fun d24 =>
    (asAgg 4 (d24.getD 0 .bad)).bind fun d25 =>
    (asI .i64 (d25.getD 0 .bad)).bind fun n26 =>
    (asI .i64 (d25.getD 1 .bad)).bind fun n27 =>
    (asI .i64 (d25.getD 2 .bad)).bind fun n28 =>
    (asI .i64 (d25.getD 3 .bad)).bind fun n29 =>
    (asI .i64 (d24.getD 1 .bad)).bind fun n30 =>
    let h31 := AHeap.put r23.2.1 (r6.2.2 + 8) (some ⟨[(.int .i64 0), (.int .i64 0), (.int .i64 0), (.int .i64 0)], 4, true⟩)
    (stA h31 (r6.2.2 + 8) 0 (.agg [(.int .i64 n26), (.int .i64 n27), (.int .i64 n28), (.int .i64 n29)]) 4).bind fun b32 =>
    let h33 := AHeap.put h31 (r6.2.2 + 8) (some b32)
    (ldR h33 (r3.2.2 + 5) 0 4).bind fun l34 =>
    (asAgg 4 (AV.agg l34)).bind fun d35 =>
    (asI .i64 (d35.getD 0 .bad)).bind fun n36 =>
    (asI .i64 (d35.getD 1 .bad)).bind fun n37 =>
    (asI .i64 (d35.getD 2 .bad)).bind fun n38 =>
    (asI .i64 (d35.getD 3 .bad)).bind fun n39 =>
    ((callP Try.prog keepT n) Y 24 [(.agg [(.int .i64 n36), (.int .i64 n37), (.int .i64 n38), (.int .i64 n39)]), (.slice (some ((r1.2.2 + 3), 0)) (Int.toNat (wrapA .i64 (4 * n4))) ((wrapA .i64 (4 * n4)) == (wrapA .i64 (4 * n4))))] h33 (r23.2.2 + 9)).bind fun r40 =>
    (asTup 2 r40.1).bind fun d41 =>
    (asAgg 4 (d41.getD 0 .bad)).bind fun d42 =>
    (asI .i64 (d42.getD 0 .bad)).bind fun n43 =>
    (asI .i64 (d42.getD 1 .bad)).bind fun n44 =>
    (asI .i64 (d42.getD 2 .bad)).bind fun n45 =>
    (asI .i64 (d42.getD 3 .bad)).bind fun n46 =>
    (asI .i64 (d41.getD 1 .bad)).bind fun n47 =>
    let h48 := AHeap.put r40.2.1 (r23.2.2 + 6) (some ⟨[(.int .i64 0), (.int .i64 0), (.int .i64 0), (.int .i64 0)], 4, true⟩)
    (stA h48 (r23.2.2 + 6) 0 (.agg [(.int .i64 n43), (.int .i64 n44), (.int .i64 n45), (.int .i64 n46)]) 4).bind fun b49 =>
    let h50 := AHeap.put h48 (r23.2.2 + 6) (some b49)
    (ldR h50 (r3.2.2 + 5) 0 4).bind fun l51 =>
    (asAgg 4 (AV.agg l51)).bind fun d52 =>
    (asI .i64 (d52.getD 0 .bad)).bind fun n53 =>
    (asI .i64 (d52.getD 1 .bad)).bind fun n54 =>
    (asI .i64 (d52.getD 2 .bad)).bind fun n55 =>
    (asI .i64 (d52.getD 3 .bad)).bind fun n56 =>
    ((callP Try.prog keepT n) Y 25 [(.agg [(.int .i64 n53), (.int .i64 n54), (.int .i64 n55), (.int .i64 n56)]), (.agg [(.int .i64 0), (.int .i64 0), (.int .i64 0), (.int .i64 0)]), (.int .i64 (wrapA .i64 (Int.tdiv (((Int.toNat (wrapA .i64 (4 * n4))) : Nat) : Int) 4)))] h50 (r40.2.2 + 12)).bind fun r57 =>
    (asTup 2 r57.1).bind fun d58 =>
    (asAgg 4 (d58.getD 0 .bad)).bind fun d59 =>
    (asI .i64 (d59.getD 0 .bad)).bind fun n60 =>
    (asI .i64 (d59.getD 1 .bad)).bind fun n61 =>
    (asI .i64 (d59.getD 2 .bad)).bind fun n62 =>
    (asI .i64 (d59.getD 3 .bad)).bind fun n63 =>
    (asI .i64 (d58.getD 1 .bad)).bind fun n64 =>
    let h65 := AHeap.put r57.2.1 (r40.2.2 + 9) (some ⟨[(.int .i64 0), (.int .i64 0), (.int .i64 0), (.int .i64 0)], 4, true⟩)
    (stA h65 (r40.2.2 + 9) 0 (.agg [(.int .i64 n60), (.int .i64 n61), (.int .i64 n62), (.int .i64 n63)]) 4).bind fun b66 =>
    let h67 := AHeap.put h65 (r40.2.2 + 9) (some b66)
    ((callP Try.prog keepT n) Y 20 [] h67 (r57.2.2 + 35)).bind fun r68 =>
    (asB r68.1).bind fun t69 =>
    if t69 = true then
    (if ((n13 : Int) == 0) = true then
    (if ((n30 : Int) == 0) = true then
    (if ((n47 : Int) == 0) = true then
    (if ((n64 : Int) == 0) = true then
    ((ldR r68.2.1 (r3.2.2 + 5) 0 4).bind fun l70 =>
    (asAgg 4 (AV.agg l70)).bind fun d71 =>
    (asI .i64 (d71.getD 0 .bad)).bind fun n72 =>
    (asI .i64 (d71.getD 1 .bad)).bind fun n73 =>
    (asI .i64 (d71.getD 2 .bad)).bind fun n74 =>
    (asI .i64 (d71.getD 3 .bad)).bind fun n75 =>
    (ldR r68.2.1 (r6.2.2 + 8) 0 4).bind fun l76 =>
    (asAgg 4 (AV.agg l76)).bind fun d77 =>
    (asI .i64 (d77.getD 0 .bad)).bind fun n78 =>
    (asI .i64 (d77.getD 1 .bad)).bind fun n79 =>
    (asI .i64 (d77.getD 2 .bad)).bind fun n80 =>
    (asI .i64 (d77.getD 3 .bad)).bind fun n81 =>
    if (eqCells [(.int .i64 n72), (.int .i64 n73), (.int .i64 n74), (.int .i64 n75)] [(.int .i64 n78), (.int .i64 n79), (.int .i64 n80), (.int .i64 n81)]) = true then
    ((ldR r68.2.1 (r23.2.2 + 6) 0 4).bind fun l82 =>
    (asAgg 4 (AV.agg l82)).bind fun d83 =>
    (asI .i64 (d83.getD 0 .bad)).bind fun n84 =>
    (asI .i64 (d83.getD 1 .bad)).bind fun n85 =>
    (asI .i64 (d83.getD 2 .bad)).bind fun n86 =>
    (asI .i64 (d83.getD 3 .bad)).bind fun n87 =>
    (ldR r68.2.1 (r40.2.2 + 9) 0 4).bind fun l88 =>
    (asAgg 4 (AV.agg l88)).bind fun d89 =>
    (asI .i64 (d89.getD 0 .bad)).bind fun n90 =>
    (asI .i64 (d89.getD 1 .bad)).bind fun n91 =>
    (asI .i64 (d89.getD 2 .bad)).bind fun n92 =>
    (asI .i64 (d89.getD 3 .bad)).bind fun n93 =>
    if (eqCells [(.int .i64 n84), (.int .i64 n85), (.int .i64 n86), (.int .i64 n87)] [(.int .i64 n90), (.int .i64 n91), (.int .i64 n92), (.int .i64 n93)]) = true then
    ((ldA r68.2.1 (r23.2.2 + 6) 0).bind fun v94 =>
    (asI .i64 v94).bind fun n95 =>
    (ldA r68.2.1 (r3.2.2 + 5) 0).bind fun v96 =>
    (asI .i64 v96).bind fun n97 =>
    some ((.bool ((n95 : Int) == n97)), r68.2.1, r68.2.2))
    else
    (some ((.bool false), r68.2.1, r68.2.2)))
    else
    (some ((.bool false), r68.2.1, r68.2.2)))
    else
    (some ((.bool false), r68.2.1, r68.2.2)))
    else
    (some ((.bool false), r68.2.1, r68.2.2)))
    else
    (some ((.bool false), r68.2.1, r68.2.2)))
    else
    (some ((.bool false), r68.2.1, r68.2.2)))
    else
    (some ((.bool false), r68.2.1, r68.2.2)))
    else none := by kernel_rfl

/-- quickset/quicksetkeep.FletNoughts -/
theorem F10_eq (n : Nat) (Y : YldF) (x0a : Option (Nat × Nat)) (x0n : Nat) (x0c : Bool) (x1 : Int) (h : AHeap) (nx : Nat) : callP Try.prog keepT (n + 1) Y 10 [(.slice x0a x0n x0c), (.int .i64 x1)] h nx =
    ((callP Try.prog keepT n) Y 19 [(.slice x0a x0n x0c), (.int .i64 400)] h (nx + 4)).bind fun r1 =>
    (asSl r1.1).bind fun s2 =>
    ((callP Try.prog keepT n) Y 15 [(.int .i64 x1), (.int .i64 60)] r1.2.1 (r1.2.2 + 5)).bind fun r3 =>
    (asI .i64 r3.1).bind fun n4 =>
    if (decide (0 ≤ ((wrapA .i64 (4 * n4)) : Int)) && decide (((wrapA .i64 (4 * n4)) : Int) ≤ (wrapA .i64 (4 * n4))) && decide (((1 : Nat) : Int) * (wrapA .i64 (4 * n4)) ≤ 281474976710656) && decide (((wrapA .i64 (4 * n4)) : Int) ≤ 9223372036854775807) && 1 != 0) = true then
    (let h5 := AHeap.put r3.2.1 (r1.2.2 + 3) (some ⟨(madeA [(.int .u8 0)] (Int.toNat (wrapA .i64 (4 * n4)) * 1)), 1, true⟩)
    ((callP Try.prog keepT n) Y 21 [(.slice s2.1 s2.2.1 s2.2.2)] h5 (r3.2.2 + 8)).bind fun r6 =>
    (asTup 2 r6.1).bind fun d7 =>
    (asAgg 4 (d7.getD 0 .bad)).bind fun d8 =>
    (asI .i64 (d8.getD 0 .bad)).bind fun n9 =>
    (asI .i64 (d8.getD 1 .bad)).bind fun n10 =>
    (asI .i64 (d8.getD 2 .bad)).bind fun n11 =>
    (asI .i64 (d8.getD 3 .bad)).bind fun n12 =>
    (asI .i64 (d7.getD 1 .bad)).bind fun n13 =>
    let h14 := AHeap.put r6.2.1 (r3.2.2 + 5) (some ⟨[(.int .i64 0), (.int .i64 0), (.int .i64 0), (.int .i64 0)], 4, true⟩)
    (stA h14 (r3.2.2 + 5) 0 (.agg [(.int .i64 n9), (.int .i64 n10), (.int .i64 n11), (.int .i64 n12)]) 4).bind fun b15 =>
    let h16 := AHeap.put h14 (r3.2.2 + 5) (some b15)
    (srcS h16 (some ((r1.2.2 + 3), 0)) (Int.toNat (wrapA .i64 (4 * n4))) 1).bind fun q17 =>
    (appD h16 none 0 false 1 1 (r6.2.2 + 1) q17).bind fun e18 =>
    let h19 := AHeap.puts h16 e18.sets
    (srcS h19 s2.1 s2.2.1 1).bind fun q20 =>
    (appD h19 e18.a e18.n e18.c 1 1 (r6.2.2 + 3) q20).bind fun e21 =>
    let h22 := AHeap.puts h19 e21.sets
    ((callP Try.prog keepT n) Y 21 [(.slice e21.a e21.n e21.c)] h22 (r6.2.2 + 11)).bind fun r23 =>
    (asTup 2 r23.1).bind fun d24 =>
    (asAgg 4 (d24.getD 0 .bad)).bind fun d25 =>
    (asI .i64 (d25.getD 0 .bad)).bind fun n26 =>
    (asI .i64 (d25.getD 1 .bad)).bind fun n27 =>
    (asI .i64 (d25.getD 2 .bad)).bind fun n28 =>
    (asI .i64 (d25.getD 3 .bad)).bind fun n29 =>
    (asI .i64 (d24.getD 1 .bad)).bind fun n30 =>
    let h31 := AHeap.put r23.2.1 (r6.2.2 + 8) (some ⟨[(.int .i64 0), (.int .i64 0), (.int .i64 0), (.int .i64 0)], 4, true⟩)
    (stA h31 (r6.2.2 + 8) 0 (.agg [(.int .i64 n26), (.int .i64 n27), (.int .i64 n28), (.int .i64 n29)]) 4).bind fun b32 =>
    let h33 := AHeap.put h31 (r6.2.2 + 8) (some b32)
    (ldR h33 (r3.2.2 + 5) 0 4).bind fun l34 =>
    (asAgg 4 (AV.agg l34)).bind fun d35 =>
    (asI .i64 (d35.getD 0 .bad)).bind fun n36 =>
    (asI .i64 (d35.getD 1 .bad)).bind fun n37 =>
    (asI .i64 (d35.getD 2 .bad)).bind fun n38 =>
    (asI .i64 (d35.getD 3 .bad)).bind fun n39 =>
    ((callP Try.prog keepT n) Y 24 [(.agg [(.int .i64 n36), (.int .i64 n37), (.int .i64 n38), (.int .i64 n39)]), (.slice (some ((r1.2.2 + 3), 0)) (Int.toNat (wrapA .i64 (4 * n4))) ((wrapA .i64 (4 * n4)) == (wrapA .i64 (4 * n4))))] h33 (r23.2.2 + 9)).bind fun r40 =>
    (asTup 2 r40.1).bind fun d41 =>
    (asAgg 4 (d41.getD 0 .bad)).bind fun d42 =>
    (asI .i64 (d42.getD 0 .bad)).bind fun n43 =>
    (asI .i64 (d42.getD 1 .bad)).bind fun n44 =>
    (asI .i64 (d42.getD 2 .bad)).bind fun n45 =>
    (asI .i64 (d42.getD 3 .bad)).bind fun n46 =>
    (asI .i64 (d41.getD 1 .bad)).bind fun n47 =>
    let h48 := AHeap.put r40.2.1 (r23.2.2 + 6) (some ⟨[(.int .i64 0), (.int .i64 0), (.int .i64 0), (.int .i64 0)], 4, true⟩)
    (stA h48 (r23.2.2 + 6) 0 (.agg [(.int .i64 n43), (.int .i64 n44), (.int .i64 n45), (.int .i64 n46)]) 4).bind fun b49 =>
    let h50 := AHeap.put h48 (r23.2.2 + 6) (some b49)
    (ldR h50 (r3.2.2 + 5) 0 4).bind fun l51 =>
    (asAgg 4 (AV.agg l51)).bind fun d52 =>
    (asI .i64 (d52.getD 0 .bad)).bind fun n53 =>
    (asI .i64 (d52.getD 1 .bad)).bind fun n54 =>
    (asI .i64 (d52.getD 2 .bad)).bind fun n55 =>
    (asI .i64 (d52.getD 3 .bad)).bind fun n56 =>
    ((callP Try.prog keepT n) Y 25 [(.agg [(.int .i64 n53), (.int .i64 n54), (.int .i64 n55), (.int .i64 n56)]), (.agg [(.int .i64 0), (.int .i64 0), (.int .i64 0), (.int .i64 0)]), (.int .i64 (wrapA .i64 (Int.tdiv (((Int.toNat (wrapA .i64 (4 * n4))) : Nat) : Int) 4)))] h50 (r40.2.2 + 12)).bind fun r57 =>
    (asTup 2 r57.1).bind fun d58 =>
    (asAgg 4 (d58.getD 0 .bad)).bind fun d59 =>
    (asI .i64 (d59.getD 0 .bad)).bind fun n60 =>
    (asI .i64 (d59.getD 1 .bad)).bind fun n61 =>
    (asI .i64 (d59.getD 2 .bad)).bind fun n62 =>
    (asI .i64 (d59.getD 3 .bad)).bind fun n63 =>
    (asI .i64 (d58.getD 1 .bad)).bind fun n64 =>
    let h65 := AHeap.put r57.2.1 (r40.2.2 + 9) (some ⟨[(.int .i64 0), (.int .i64 0), (.int .i64 0), (.int .i64 0)], 4, true⟩)
    (stA h65 (r40.2.2 + 9) 0 (.agg [(.int .i64 n60), (.int .i64 n61), (.int .i64 n62), (.int .i64 n63)]) 4).bind fun b66 =>
    let h67 := AHeap.put h65 (r40.2.2 + 9) (some b66)
    ((callP Try.prog keepT n) Y 20 [] h67 (r57.2.2 + 35)).bind fun r68 =>
    (asB r68.1).bind fun t69 =>
    if t69 = true then
    (if ((n13 : Int) == 0) = true then
    (if ((n30 : Int) == 0) = true then
    (if ((n47 : Int) == 0) = true then
    (if ((n64 : Int) == 0) = true then
    ((ldR r68.2.1 (r3.2.2 + 5) 0 4).bind fun l70 =>
    (asAgg 4 (AV.agg l70)).bind fun d71 =>
    (asI .i64 (d71.getD 0 .bad)).bind fun n72 =>
    (asI .i64 (d71.getD 1 .bad)).bind fun n73 =>
    (asI .i64 (d71.getD 2 .bad)).bind fun n74 =>
    (asI .i64 (d71.getD 3 .bad)).bind fun n75 =>
    (ldR r68.2.1 (r6.2.2 + 8) 0 4).bind fun l76 =>
    (asAgg 4 (AV.agg l76)).bind fun d77 =>
    (asI .i64 (d77.getD 0 .bad)).bind fun n78 =>
    (asI .i64 (d77.getD 1 .bad)).bind fun n79 =>
    (asI .i64 (d77.getD 2 .bad)).bind fun n80 =>
    (asI .i64 (d77.getD 3 .bad)).bind fun n81 =>
    if (eqCells [(.int .i64 n72), (.int .i64 n73), (.int .i64 n74), (.int .i64 n75)] [(.int .i64 n78), (.int .i64 n79), (.int .i64 n80), (.int .i64 n81)]) = true then
    ((ldR r68.2.1 (r23.2.2 + 6) 0 4).bind fun l82 =>
    (asAgg 4 (AV.agg l82)).bind fun d83 =>
    (asI .i64 (d83.getD 0 .bad)).bind fun n84 =>
    (asI .i64 (d83.getD 1 .bad)).bind fun n85 =>
    (asI .i64 (d83.getD 2 .bad)).bind fun n86 =>
    (asI .i64 (d83.getD 3 .bad)).bind fun n87 =>
    (ldR r68.2.1 (r40.2.2 + 9) 0 4).bind fun l88 =>
    (asAgg 4 (AV.agg l88)).bind fun d89 =>
    (asI .i64 (d89.getD 0 .bad)).bind fun n90 =>
    (asI .i64 (d89.getD 1 .bad)).bind fun n91 =>
    (asI .i64 (d89.getD 2 .bad)).bind fun n92 =>
    (asI .i64 (d89.getD 3 .bad)).bind fun n93 =>
    if (eqCells [(.int .i64 n84), (.int .i64 n85), (.int .i64 n86), (.int .i64 n87)] [(.int .i64 n90), (.int .i64 n91), (.int .i64 n92), (.int .i64 n93)]) = true then
    ((ldA r68.2.1 (r23.2.2 + 6) 0).bind fun v94 =>
    (asI .i64 v94).bind fun n95 =>
    (ldA r68.2.1 (r3.2.2 + 5) 0).bind fun v96 =>
    (asI .i64 v96).bind fun n97 =>
    some ((.bool ((n95 : Int) == n97)), r68.2.1, r68.2.2))
    else
    (some ((.bool false), r68.2.1, r68.2.2)))
    else
    (some ((.bool false), r68.2.1, r68.2.2)))
    else
    (some ((.bool false), r68.2.1, r68.2.2)))
    else
    (some ((.bool false), r68.2.1, r68.2.2)))
    else
    (some ((.bool false), r68.2.1, r68.2.2)))
    else
    (some ((.bool false), r68.2.1, r68.2.2)))
    else
    (some ((.bool false), r68.2.1, r68.2.2)))
    else none := F10_eq' go1 n Y x0a x0n x0c x1 h nx

noncomputable def c11 : Code := (Try.f11.body).getD .skip

noncomputable def r11 : List ResultVar := Try.f11.results.toList

theorem F11_eq' (J : StepF (AV × AHeap × Nat) → StepF (AV × AHeap × Nat)) (n : Nat) (Y : YldF) (x0 : Int) (x1a : Option (Nat × Nat)) (x1n : Nat) (x1c : Bool) (h : AHeap) (nx : Nat) : rootJ J Try.prog keepT (callP Try.prog keepT n) Y n 11 [(.int .i64 x0), (.slice x1a x1n x1c)] h nx =
    ((callP Try.prog keepT n) Y 15 [(.int .i64 x0), (.int .i64 12)] h (nx + 5)).bind fun r1 =>
    (asI .i64 r1.1).bind fun n2 =>
    ((callP Try.prog keepT n) Y 26 [(.slice x1a x1n x1c), (.int .i64 (wrapA .i64 (1 + n2))), (.int .i64 (wrapA .i64 (1 + n2)))] r1.2.1 (r1.2.2 + 5)).bind fun r3 =>
    (asSl r3.1).bind fun s4 =>
    (srcS r3.2.1 s4.1 s4.2.1 1).bind fun q5 =>
    (appD r3.2.1 none 0 false 1 8 (r3.2.2 + 2) q5).bind fun e6 =>
    let h7 := AHeap.puts r3.2.1 e6.sets
    ((callP Try.prog keepT n) Y 27 [(.int .i64 (wrapA .i64 (1 + n2))), (.slice e6.a e6.n e6.c)] h7 (r3.2.2 + 9)).bind fun r8 =>
    (asTup 2 r8.1).bind fun d9 =>
    (asI .i64 (d9.getD 0 .bad)).bind fun n10 =>
    (asI .i64 (d9.getD 1 .bad)).bind fun n11 =>
    ((callP Try.prog keepT n) Y 18 [(.int .i64 (wrapA .i64 (1 + n2))), (.int .i64 ((s4.2.1 : Nat) : Int))] r8.2.1 (r8.2.2 + 9)).bind fun r12 =>
    (asTup 2 r12.1).bind fun d13 =>
    (asI .i64 (d13.getD 0 .bad)).bind fun n14 =>
    (asI .i64 (d13.getD 1 .bad)).bind fun n15 =>
    ((callP Try.prog keepT n) Y 28 [(.int .i64 (wrapA .i64 (1 + n2))), (.int .i64 ((s4.2.1 : Nat) : Int)), (.int .i64 n10)] r12.2.1 (r12.2.2 + 10)).bind fun r16 =>
    (asTup 2 r16.1).bind fun d17 =>
    (asSl (d17.getD 0 .bad)).bind fun s18 =>
    (asI .i64 (d17.getD 1 .bad)).bind fun n19 =>
    ((callP Try.prog keepT n) Y 28 [(.int .i64 (wrapA .i64 (1 + n2))), (.int .i64 ((s4.2.1 : Nat) : Int)), (.int .i64 n14)] r16.2.1 (r16.2.2 + 10)).bind fun r20 =>
    (asTup 2 r20.1).bind fun d21 =>
    (asSl (d21.getD 0 .bad)).bind fun s22 =>
    (asI .i64 (d21.getD 1 .bad)).bind fun n23 =>
    if ((n11 : Int) == 0) = true then
    (if ((n15 : Int) == 0) = true then
    (if ((n19 : Int) == 0) = true then
    (if ((n23 : Int) == 2) = true then
    (if (decide ((n10 : Int) ≥ 0)) = true then
    (if (decide ((n10 : Int) < n14)) = true then
    (((callP Try.prog keepT n) Y 29 [(.slice s4.1 s4.2.1 s4.2.2), (.slice s18.1 s18.2.1 s18.2.2)] r20.2.1 (r20.2.2 + 29)).bind fun r24 =>
    (asB r24.1).bind fun t25 =>
    some ((.bool t25), r24.2.1, r24.2.2))
    else
    (some ((.bool false), r20.2.1, (r20.2.2 + 29))))
    else
    (some ((.bool false), r20.2.1, (r20.2.2 + 29))))
    else
    (some ((.bool false), r20.2.1, (r20.2.2 + 29))))
    else
    (some ((.bool false), r20.2.1, (r20.2.2 + 29))))
    else
    (some ((.bool false), r20.2.1, (r20.2.2 + 29))))
    else
    (some ((.bool false), r20.2.1, (r20.2.2 + 29))) := by kernel_rfl

/-- quickset/quicksetkeep.CombBack -/
theorem F11_eq (n : Nat) (Y : YldF) (x0 : Int) (x1a : Option (Nat × Nat)) (x1n : Nat) (x1c : Bool) (h : AHeap) (nx : Nat) : callP Try.prog keepT (n + 1) Y 11 [(.int .i64 x0), (.slice x1a x1n x1c)] h nx =
    ((callP Try.prog keepT n) Y 15 [(.int .i64 x0), (.int .i64 12)] h (nx + 5)).bind fun r1 =>
    (asI .i64 r1.1).bind fun n2 =>
    ((callP Try.prog keepT n) Y 26 [(.slice x1a x1n x1c), (.int .i64 (wrapA .i64 (1 + n2))), (.int .i64 (wrapA .i64 (1 + n2)))] r1.2.1 (r1.2.2 + 5)).bind fun r3 =>
    (asSl r3.1).bind fun s4 =>
    (srcS r3.2.1 s4.1 s4.2.1 1).bind fun q5 =>
    (appD r3.2.1 none 0 false 1 8 (r3.2.2 + 2) q5).bind fun e6 =>
    let h7 := AHeap.puts r3.2.1 e6.sets
    ((callP Try.prog keepT n) Y 27 [(.int .i64 (wrapA .i64 (1 + n2))), (.slice e6.a e6.n e6.c)] h7 (r3.2.2 + 9)).bind fun r8 =>
    (asTup 2 r8.1).bind fun d9 =>
    (asI .i64 (d9.getD 0 .bad)).bind fun n10 =>
    (asI .i64 (d9.getD 1 .bad)).bind fun n11 =>
    ((callP Try.prog keepT n) Y 18 [(.int .i64 (wrapA .i64 (1 + n2))), (.int .i64 ((s4.2.1 : Nat) : Int))] r8.2.1 (r8.2.2 + 9)).bind fun r12 =>
    (asTup 2 r12.1).bind fun d13 =>
    (asI .i64 (d13.getD 0 .bad)).bind fun n14 =>
    (asI .i64 (d13.getD 1 .bad)).bind fun n15 =>
    ((callP Try.prog keepT n) Y 28 [(.int .i64 (wrapA .i64 (1 + n2))), (.int .i64 ((s4.2.1 : Nat) : Int)), (.int .i64 n10)] r12.2.1 (r12.2.2 + 10)).bind fun r16 =>
    (asTup 2 r16.1).bind fun d17 =>
    (asSl (d17.getD 0 .bad)).bind fun s18 =>
    (asI .i64 (d17.getD 1 .bad)).bind fun n19 =>
    ((callP Try.prog keepT n) Y 28 [(.int .i64 (wrapA .i64 (1 + n2))), (.int .i64 ((s4.2.1 : Nat) : Int)), (.int .i64 n14)] r16.2.1 (r16.2.2 + 10)).bind fun r20 =>
    (asTup 2 r20.1).bind fun d21 =>
    (asSl (d21.getD 0 .bad)).bind fun s22 =>
    (asI .i64 (d21.getD 1 .bad)).bind fun n23 =>
    if ((n11 : Int) == 0) = true then
    (if ((n15 : Int) == 0) = true then
    (if ((n19 : Int) == 0) = true then
    (if ((n23 : Int) == 2) = true then
    (if (decide ((n10 : Int) ≥ 0)) = true then
    (if (decide ((n10 : Int) < n14)) = true then
    (((callP Try.prog keepT n) Y 29 [(.slice s4.1 s4.2.1 s4.2.2), (.slice s18.1 s18.2.1 s18.2.2)] r20.2.1 (r20.2.2 + 29)).bind fun r24 =>
    (asB r24.1).bind fun t25 =>
    some ((.bool t25), r24.2.1, r24.2.2))
    else
    (some ((.bool false), r20.2.1, (r20.2.2 + 29))))
    else
    (some ((.bool false), r20.2.1, (r20.2.2 + 29))))
    else
    (some ((.bool false), r20.2.1, (r20.2.2 + 29))))
    else
    (some ((.bool false), r20.2.1, (r20.2.2 + 29))))
    else
    (some ((.bool false), r20.2.1, (r20.2.2 + 29))))
    else
    (some ((.bool false), r20.2.1, (r20.2.2 + 29))) := F11_eq' go1 n Y x0 x1a x1n x1c h nx

noncomputable def c12 : Code := (Try.f12.body).getD .skip

noncomputable def r12 : List ResultVar := Try.f12.results.toList

noncomputable def F12_J1' (W J : StepF (AV × AHeap × Nat) → StepF (AV × AHeap × Nat)) (call : YldF → CallF) (Y : YldF) (lf : Nat) (x9 : Int) (x10 : Int) (x11 : Int) (x13a : Option (Nat × Nat)) (x13n : Nat) (x13c : Bool) (x15 : Int) (h : AHeap) (nx : Nat) : Option (AV × AHeap × Nat) :=
  goK W J drawK (machOf Try.prog) call Y (keepT 12) lf c12 [1, 1, 1, 1, 1, 1, 1] [] (retK (machOf Try.prog) ⟨c12, 161, r12, keepT 12⟩) ⟨161, mkL [(9, (.int .i64 x9)), (10, (.int .i64 x10)), (11, (.int .i64 x11)), (13, (.slice x13a x13n x13c)), (15, (.int .i64 x15))]⟩ h nx

noncomputable def F12_J1 (call : YldF → CallF) (Y : YldF) (lf : Nat) (x9 : Int) (x10 : Int) (x11 : Int) (x13a : Option (Nat × Nat)) (x13n : Nat) (x13c : Bool) (x15 : Int) (h : AHeap) (nx : Nat) : Option (AV × AHeap × Nat) := F12_J1' go1 go1 call Y lf x9 x10 x11 x13a x13n x13c x15 h nx

noncomputable def F12_L2' (W J : StepF (AV × AHeap × Nat) → StepF (AV × AHeap × Nat)) (call : YldF → CallF) (Y : YldF) (lf : Nat) (n0 : Nat) (x9 : Int) (x10 : Int) (x11 : Int) (x13a : Option (Nat × Nat)) (x13n : Nat) (x13c : Bool) (x15 : Int) (x17 : Int) (x18 : Int) (h : AHeap) (nx : Nat) : Option (AV × AHeap × Nat) :=
  goK W J drawK (machOf Try.prog) call Y (keepT 12) lf c12 [1, 1, 1, 1, 1, 1, 1, 1, 0, 1, 0, 9] [n0] (retK (machOf Try.prog) ⟨c12, 161, r12, keepT 12⟩) ⟨161, mkL [(9, (.int .i64 x9)), (10, (.int .i64 x10)), (11, (.int .i64 x11)), (13, (.slice x13a x13n x13c)), (15, (.int .i64 x15)), (17, (.int .i64 x17)), (18, (.int .i64 x18))]⟩ h nx

noncomputable def F12_L2 (call : YldF → CallF) (Y : YldF) (lf : Nat) (n0 : Nat) (x9 : Int) (x10 : Int) (x11 : Int) (x13a : Option (Nat × Nat)) (x13n : Nat) (x13c : Bool) (x15 : Int) (x17 : Int) (x18 : Int) (h : AHeap) (nx : Nat) : Option (AV × AHeap × Nat) := F12_L2' go1 go1 call Y lf n0 x9 x10 x11 x13a x13n x13c x15 x17 x18 h nx

noncomputable def F12_J3' (W J : StepF (AV × AHeap × Nat) → StepF (AV × AHeap × Nat)) (call : YldF → CallF) (Y : YldF) (lf : Nat) (n0 : Nat) (x9 : Int) (x10 : Int) (x11 : Int) (x13a : Option (Nat × Nat)) (x13n : Nat) (x13c : Bool) (x15 : Int) (x17 : Int) (x18 : Int) (h : AHeap) (nx : Nat) : Option (AV × AHeap × Nat) :=
  goK W J drawK (machOf Try.prog) call Y (keepT 12) lf c12 [1, 1, 1, 1, 1, 1, 1, 1, 0, 1, 0, 0, 1, 0, 0, 1] [n0] (retK (machOf Try.prog) ⟨c12, 161, r12, keepT 12⟩) ⟨161, mkL [(9, (.int .i64 x9)), (10, (.int .i64 x10)), (11, (.int .i64 x11)), (13, (.slice x13a x13n x13c)), (15, (.int .i64 x15)), (17, (.int .i64 x17)), (18, (.int .i64 x18))]⟩ h nx

noncomputable def F12_J3 (call : YldF → CallF) (Y : YldF) (lf : Nat) (n0 : Nat) (x9 : Int) (x10 : Int) (x11 : Int) (x13a : Option (Nat × Nat)) (x13n : Nat) (x13c : Bool) (x15 : Int) (x17 : Int) (x18 : Int) (h : AHeap) (nx : Nat) : Option (AV × AHeap × Nat) := F12_J3' go1 go1 call Y lf n0 x9 x10 x11 x13a x13n x13c x15 x17 x18 h nx

noncomputable def F12_J4' (W J : StepF (AV × AHeap × Nat) → StepF (AV × AHeap × Nat)) (call : YldF → CallF) (Y : YldF) (lf : Nat) (x9 : Int) (x11 : Int) (x13a : Option (Nat × Nat)) (x13n : Nat) (x13c : Bool) (x17 : Int) (h : AHeap) (nx : Nat) : Option (AV × AHeap × Nat) :=
  goK W J drawK (machOf Try.prog) call Y (keepT 12) lf c12 [1, 1, 1, 1, 1, 1, 1, 1, 1, 1] [] (retK (machOf Try.prog) ⟨c12, 161, r12, keepT 12⟩) ⟨161, mkL [(9, (.int .i64 x9)), (11, (.int .i64 x11)), (13, (.slice x13a x13n x13c)), (17, (.int .i64 x17))]⟩ h nx

noncomputable def F12_J4 (call : YldF → CallF) (Y : YldF) (lf : Nat) (x9 : Int) (x11 : Int) (x13a : Option (Nat × Nat)) (x13n : Nat) (x13c : Bool) (x17 : Int) (h : AHeap) (nx : Nat) : Option (AV × AHeap × Nat) := F12_J4' go1 go1 call Y lf x9 x11 x13a x13n x13c x17 h nx

noncomputable def F12_L5' (W J : StepF (AV × AHeap × Nat) → StepF (AV × AHeap × Nat)) (call : YldF → CallF) (Y : YldF) (lf : Nat) (n0 : Nat) (x9 : Int) (x11 : Int) (x13a : Option (Nat × Nat)) (x13n : Nat) (x13c : Bool) (x17 : Int) (x19 : Int) (h : AHeap) (nx : Nat) : Option (AV × AHeap × Nat) :=
  goK W J drawK (machOf Try.prog) call Y (keepT 12) lf c12 [1, 1, 1, 1, 1, 1, 1, 1, 1, 1, 0, 1, 0, 9] [n0] (retK (machOf Try.prog) ⟨c12, 161, r12, keepT 12⟩) ⟨161, mkL [(9, (.int .i64 x9)), (11, (.int .i64 x11)), (13, (.slice x13a x13n x13c)), (17, (.int .i64 x17)), (19, (.int .i64 x19))]⟩ h nx

noncomputable def F12_L5 (call : YldF → CallF) (Y : YldF) (lf : Nat) (n0 : Nat) (x9 : Int) (x11 : Int) (x13a : Option (Nat × Nat)) (x13n : Nat) (x13c : Bool) (x17 : Int) (x19 : Int) (h : AHeap) (nx : Nat) : Option (AV × AHeap × Nat) := F12_L5' go1 go1 call Y lf n0 x9 x11 x13a x13n x13c x17 x19 h nx

noncomputable def F12_L6' (W J : StepF (AV × AHeap × Nat) → StepF (AV × AHeap × Nat)) (call : YldF → CallF) (Y : YldF) (lf : Nat) (n0 : Nat) (n1 : Nat) (x9 : Int) (x11 : Int) (x13a : Option (Nat × Nat)) (x13n : Nat) (x13c : Bool) (x17 : Int) (x19 : Int) (x20 : Int) (x21 : Int) (x22 : Int) (x23 : Int) (x24 : Int) (h : AHeap) (nx : Nat) : Option (AV × AHeap × Nat) :=
  goK W J drawK (machOf Try.prog) call Y (keepT 12) lf c12 [1, 1, 1, 1, 1, 1, 1, 1, 1, 1, 0, 1, 0, 0, 1, 0, 0, 1, 1, 0, 1, 0, 9] [n0, n1] (retK (machOf Try.prog) ⟨c12, 161, r12, keepT 12⟩) ⟨161, mkL [(9, (.int .i64 x9)), (11, (.int .i64 x11)), (13, (.slice x13a x13n x13c)), (17, (.int .i64 x17)), (19, (.int .i64 x19)), (20, (.int .i64 x20)), (21, (.int .i64 x21)), (22, (.int .i64 x22)), (23, (.int .i64 x23)), (24, (.int .i64 x24))]⟩ h nx

noncomputable def F12_L6 (call : YldF → CallF) (Y : YldF) (lf : Nat) (n0 : Nat) (n1 : Nat) (x9 : Int) (x11 : Int) (x13a : Option (Nat × Nat)) (x13n : Nat) (x13c : Bool) (x17 : Int) (x19 : Int) (x20 : Int) (x21 : Int) (x22 : Int) (x23 : Int) (x24 : Int) (h : AHeap) (nx : Nat) : Option (AV × AHeap × Nat) := F12_L6' go1 go1 call Y lf n0 n1 x9 x11 x13a x13n x13c x17 x19 x20 x21 x22 x23 x24 h nx

theorem F12_J1_eq' (J : StepF (AV × AHeap × Nat) → StepF (AV × AHeap × Nat)) (call : YldF → CallF) (Y : YldF) (lf : Nat) (x9 : Int) (x10 : Int) (x11 : Int) (x13a : Option (Nat × Nat)) (x13n : Nat) (x13c : Bool) (x15 : Int) (h : AHeap) (nx : Nat) : F12_J1' go1 J call Y lf x9 x10 x11 x13a x13n x13c x15 h nx =
    F12_L2' J J call Y lf lf x9 x10 x11 x13a x13n x13c x15 0 0 h (nx + 2) := by kernel_rfl

theorem F12_J1_eq (call : YldF → CallF) (Y : YldF) (lf : Nat) (x9 : Int) (x10 : Int) (x11 : Int) (x13a : Option (Nat × Nat)) (x13n : Nat) (x13c : Bool) (x15 : Int) (h : AHeap) (nx : Nat) : F12_J1 call Y lf x9 x10 x11 x13a x13n x13c x15 h nx =
    F12_L2 call Y lf lf x9 x10 x11 x13a x13n x13c x15 0 0 h (nx + 2) := F12_J1_eq' go1 call Y lf x9 x10 x11 x13a x13n x13c x15 h nx

theorem F12_L2_eq' (J : StepF (AV × AHeap × Nat) → StepF (AV × AHeap × Nat)) (call : YldF → CallF) (Y : YldF) (lf : Nat) (n0 : Nat) (x9 : Int) (x10 : Int) (x11 : Int) (x13a : Option (Nat × Nat)) (x13n : Nat) (x13c : Bool) (x15 : Int) (x17 : Int) (x18 : Int) (h : AHeap) (nx : Nat) : F12_L2' go1 J call Y lf (n0 + 1) x9 x10 x11 x13a x13n x13c x15 x17 x18 h nx =
    if (decide ((x18 : Int) < ((x13n : Nat) : Int))) = true then
    ((x13a).bind fun p1 =>
    if 0 ≤ (x18 : Int) ∧ x18 < ((x13n : Nat) : Int) then
    ((ldA h p1.1 ((p1.2 + Int.toNat x18 * 4) + 2)).bind fun v2 =>
    (asI .i64 v2).bind fun n3 =>
    if (decide ((n3 : Int) < 1)) = true then
    (some ((.bool false), h, (nx + 19)))
    else
    ((x13a).bind fun p4 =>
    if 0 ≤ (x18 : Int) ∧ x18 < ((x13n : Nat) : Int) then
    ((ldA h p4.1 ((p4.2 + Int.toNat x18 * 4) + 2)).bind fun v5 =>
    (asI .i64 v5).bind fun n6 =>
    if (decide ((n6 : Int) > 32)) = true then
    (some ((.bool false), h, (nx + 19)))
    else
    (F12_J3' J J call Y lf n0 x9 x10 x11 x13a x13n x13c x15 x17 x18 h (nx + 18)))
    else none))
    else none)
    else
    (if (decide ((x17 : Int) < 1)) = true then
    (some ((.bool false), h, (nx + 23)))
    else
    (if (decide ((x17 : Int) > x15)) = true then
    (some ((.bool false), h, (nx + 23)))
    else
    (if (decide ((x15 : Int) > (wrapA .i64 (x17 + x10)))) = true then
    (some ((.bool false), h, (nx + 23)))
    else
    (if (decide ((x15 : Int) > 400)) = true then
    (some ((.bool false), h, (nx + 23)))
    else
    (F12_J4' J J call Y lf x9 x11 x13a x13n x13c x17 h (nx + 22)))))) := by kernel_rfl

theorem F12_L2_eq (call : YldF → CallF) (Y : YldF) (lf : Nat) (n0 : Nat) (x9 : Int) (x10 : Int) (x11 : Int) (x13a : Option (Nat × Nat)) (x13n : Nat) (x13c : Bool) (x15 : Int) (x17 : Int) (x18 : Int) (h : AHeap) (nx : Nat) : F12_L2 call Y lf (n0 + 1) x9 x10 x11 x13a x13n x13c x15 x17 x18 h nx =
    if (decide ((x18 : Int) < ((x13n : Nat) : Int))) = true then
    ((x13a).bind fun p1 =>
    if 0 ≤ (x18 : Int) ∧ x18 < ((x13n : Nat) : Int) then
    ((ldA h p1.1 ((p1.2 + Int.toNat x18 * 4) + 2)).bind fun v2 =>
    (asI .i64 v2).bind fun n3 =>
    if (decide ((n3 : Int) < 1)) = true then
    (some ((.bool false), h, (nx + 19)))
    else
    ((x13a).bind fun p4 =>
    if 0 ≤ (x18 : Int) ∧ x18 < ((x13n : Nat) : Int) then
    ((ldA h p4.1 ((p4.2 + Int.toNat x18 * 4) + 2)).bind fun v5 =>
    (asI .i64 v5).bind fun n6 =>
    if (decide ((n6 : Int) > 32)) = true then
    (some ((.bool false), h, (nx + 19)))
    else
    (F12_J3 call Y lf n0 x9 x10 x11 x13a x13n x13c x15 x17 x18 h (nx + 18)))
    else none))
    else none)
    else
    (if (decide ((x17 : Int) < 1)) = true then
    (some ((.bool false), h, (nx + 23)))
    else
    (if (decide ((x17 : Int) > x15)) = true then
    (some ((.bool false), h, (nx + 23)))
    else
    (if (decide ((x15 : Int) > (wrapA .i64 (x17 + x10)))) = true then
    (some ((.bool false), h, (nx + 23)))
    else
    (if (decide ((x15 : Int) > 400)) = true then
    (some ((.bool false), h, (nx + 23)))
    else
    (F12_J4 call Y lf x9 x11 x13a x13n x13c x17 h (nx + 22)))))) := F12_L2_eq' go1 call Y lf n0 x9 x10 x11 x13a x13n x13c x15 x17 x18 h nx

theorem F12_L2_zero (call : YldF → CallF) (Y : YldF) (lf : Nat) (x9 : Int) (x10 : Int) (x11 : Int) (x13a : Option (Nat × Nat)) (x13n : Nat) (x13c : Bool) (x15 : Int) (x17 : Int) (x18 : Int) (h : AHeap) (nx : Nat) : F12_L2 call Y lf 0 x9 x10 x11 x13a x13n x13c x15 x17 x18 h nx = none := by kernel_rfl

theorem F12_J3_eq' (J : StepF (AV × AHeap × Nat) → StepF (AV × AHeap × Nat)) (call : YldF → CallF) (Y : YldF) (lf : Nat) (n0 : Nat) (x9 : Int) (x10 : Int) (x11 : Int) (x13a : Option (Nat × Nat)) (x13n : Nat) (x13c : Bool) (x15 : Int) (x17 : Int) (x18 : Int) (h : AHeap) (nx : Nat) : F12_J3' go1 J call Y lf n0 x9 x10 x11 x13a x13n x13c x15 x17 x18 h nx =
    (x13a).bind fun p1 =>
    if 0 ≤ (x18 : Int) ∧ x18 < ((x13n : Nat) : Int) then
    ((ldA h p1.1 ((p1.2 + Int.toNat x18 * 4) + 2)).bind fun v2 =>
    (asI .i64 v2).bind fun n3 =>
    F12_L2' J J call Y lf n0 x9 x10 x11 x13a x13n x13c x15 (wrapA .i64 (x17 + n3)) (wrapA .i64 (x18 + 1)) h (nx + 11))
    else none := by kernel_rfl

theorem F12_J3_eq (call : YldF → CallF) (Y : YldF) (lf : Nat) (n0 : Nat) (x9 : Int) (x10 : Int) (x11 : Int) (x13a : Option (Nat × Nat)) (x13n : Nat) (x13c : Bool) (x15 : Int) (x17 : Int) (x18 : Int) (h : AHeap) (nx : Nat) : F12_J3 call Y lf n0 x9 x10 x11 x13a x13n x13c x15 x17 x18 h nx =
    (x13a).bind fun p1 =>
    if 0 ≤ (x18 : Int) ∧ x18 < ((x13n : Nat) : Int) then
    ((ldA h p1.1 ((p1.2 + Int.toNat x18 * 4) + 2)).bind fun v2 =>
    (asI .i64 v2).bind fun n3 =>
    F12_L2 call Y lf n0 x9 x10 x11 x13a x13n x13c x15 (wrapA .i64 (x17 + n3)) (wrapA .i64 (x18 + 1)) h (nx + 11))
    else none := F12_J3_eq' go1 call Y lf n0 x9 x10 x11 x13a x13n x13c x15 x17 x18 h nx

theorem F12_J4_eq' (J : StepF (AV × AHeap × Nat) → StepF (AV × AHeap × Nat)) (call : YldF → CallF) (Y : YldF) (lf : Nat) (x9 : Int) (x11 : Int) (x13a : Option (Nat × Nat)) (x13n : Nat) (x13c : Bool) (x17 : Int) (h : AHeap) (nx : Nat) : F12_J4' go1 J call Y lf x9 x11 x13a x13n x13c x17 h nx =
    F12_L5' J J call Y lf lf x9 x11 x13a x13n x13c x17 0 h (nx + 1) := by kernel_rfl

theorem F12_J4_eq (call : YldF → CallF) (Y : YldF) (lf : Nat) (x9 : Int) (x11 : Int) (x13a : Option (Nat × Nat)) (x13n : Nat) (x13c : Bool) (x17 : Int) (h : AHeap) (nx : Nat) : F12_J4 call Y lf x9 x11 x13a x13n x13c x17 h nx =
    F12_L5 call Y lf lf x9 x11 x13a x13n x13c x17 0 h (nx + 1) := F12_J4_eq' go1 call Y lf x9 x11 x13a x13n x13c x17 h nx

theorem F12_L5_eq' (J : StepF (AV × AHeap × Nat) → StepF (AV × AHeap × Nat)) (call : YldF → CallF) (Y : YldF) (lf : Nat) (n0 : Nat) (x9 : Int) (x11 : Int) (x13a : Option (Nat × Nat)) (x13n : Nat) (x13c : Bool) (x17 : Int) (x19 : Int) (h : AHeap) (nx : Nat) : F12_L5' go1 J call Y lf (n0 + 1) x9 x11 x13a x13n x13c x17 x19 h nx =
    if (decide ((x19 : Int) < x17)) = true then
    ((call Y 16 [(.int .i64 x9), (.int .i64 (wrapA .i64 (x11 + x19)))] h (nx + 15)).bind fun r1 =>
    (asTup 3 r1.1).bind fun d2 =>
    (asI .i64 (d2.getD 0 .bad)).bind fun n3 =>
    (asI .i64 (d2.getD 1 .bad)).bind fun n4 =>
    (asI .i64 (d2.getD 2 .bad)).bind fun n5 =>
    F12_L6' J J call Y lf n0 lf x9 x11 x13a x13n x13c x17 x19 n3 n4 n5 0 0 r1.2.1 (r1.2.2 + 2))
    else
    (some ((.bool true), h, (nx + 4))) := by kernel_rfl

theorem F12_L5_eq (call : YldF → CallF) (Y : YldF) (lf : Nat) (n0 : Nat) (x9 : Int) (x11 : Int) (x13a : Option (Nat × Nat)) (x13n : Nat) (x13c : Bool) (x17 : Int) (x19 : Int) (h : AHeap) (nx : Nat) : F12_L5 call Y lf (n0 + 1) x9 x11 x13a x13n x13c x17 x19 h nx =
    if (decide ((x19 : Int) < x17)) = true then
    ((call Y 16 [(.int .i64 x9), (.int .i64 (wrapA .i64 (x11 + x19)))] h (nx + 15)).bind fun r1 =>
    (asTup 3 r1.1).bind fun d2 =>
    (asI .i64 (d2.getD 0 .bad)).bind fun n3 =>
    (asI .i64 (d2.getD 1 .bad)).bind fun n4 =>
    (asI .i64 (d2.getD 2 .bad)).bind fun n5 =>
    F12_L6 call Y lf n0 lf x9 x11 x13a x13n x13c x17 x19 n3 n4 n5 0 0 r1.2.1 (r1.2.2 + 2))
    else
    (some ((.bool true), h, (nx + 4))) := F12_L5_eq' go1 call Y lf n0 x9 x11 x13a x13n x13c x17 x19 h nx

theorem F12_L5_zero (call : YldF → CallF) (Y : YldF) (lf : Nat) (x9 : Int) (x11 : Int) (x13a : Option (Nat × Nat)) (x13n : Nat) (x13c : Bool) (x17 : Int) (x19 : Int) (h : AHeap) (nx : Nat) : F12_L5 call Y lf 0 x9 x11 x13a x13n x13c x17 x19 h nx = none := by kernel_rfl

theorem F12_L6_eq' (J : StepF (AV × AHeap × Nat) → StepF (AV × AHeap × Nat)) (call : YldF → CallF) (Y : YldF) (lf : Nat) (n0 : Nat) (n1 : Nat) (x9 : Int) (x11 : Int) (x13a : Option (Nat × Nat)) (x13n : Nat) (x13c : Bool) (x17 : Int) (x19 : Int) (x20 : Int) (x21 : Int) (x22 : Int) (x23 : Int) (x24 : Int) (h : AHeap) (nx : Nat) : F12_L6' go1 J call Y lf n0 (n1 + 1) x9 x11 x13a x13n x13c x17 x19 x20 x21 x22 x23 x24 h nx =
    if (decide ((x24 : Int) < ((x13n : Nat) : Int))) = true then
    ((x13a).bind fun p1 =>
    if 0 ≤ (x24 : Int) ∧ x24 < ((x13n : Nat) : Int) then
    ((ldA h p1.1 (p1.2 + Int.toNat x24 * 4)).bind fun v2 =>
    (asI .i64 v2).bind fun n3 =>
    if ((n3 : Int) == x20) = true then
    ((x13a).bind fun p4 =>
    if 0 ≤ (x24 : Int) ∧ x24 < ((x13n : Nat) : Int) then
    ((ldA h p4.1 ((p4.2 + Int.toNat x24 * 4) + 1)).bind fun v5 =>
    (asI .i64 v5).bind fun n6 =>
    if (decide ((x21 : Int) ≥ n6)) = true then
    ((x13a).bind fun p7 =>
    if 0 ≤ (x24 : Int) ∧ x24 < ((x13n : Nat) : Int) then
    ((ldA h p7.1 ((p7.2 + Int.toNat x24 * 4) + 1)).bind fun v8 =>
    (asI .i64 v8).bind fun n9 =>
    (x13a).bind fun p10 =>
    if 0 ≤ (x24 : Int) ∧ x24 < ((x13n : Nat) : Int) then
    ((ldA h p10.1 ((p10.2 + Int.toNat x24 * 4) + 2)).bind fun v11 =>
    (asI .i64 v11).bind fun n12 =>
    if (decide ((x21 : Int) < (wrapA .i64 (n9 + n12)))) = true then
    (F12_L6' J J call Y lf n0 n1 x9 x11 x13a x13n x13c x17 x19 x20 x21 x22 (wrapA .i64 (x23 + 1)) (wrapA .i64 (x24 + 1)) h (nx + 41))
    else
    (F12_L6' J J call Y lf n0 n1 x9 x11 x13a x13n x13c x17 x19 x20 x21 x22 x23 (wrapA .i64 (x24 + 1)) h (nx + 38)))
    else none)
    else none)
    else
    (F12_L6' J J call Y lf n0 n1 x9 x11 x13a x13n x13c x17 x19 x20 x21 x22 x23 (wrapA .i64 (x24 + 1)) h (nx + 38)))
    else none)
    else
    (F12_L6' J J call Y lf n0 n1 x9 x11 x13a x13n x13c x17 x19 x20 x21 x22 x23 (wrapA .i64 (x24 + 1)) h (nx + 38)))
    else none)
    else
    (if ((x22 : Int) != 0) = true then
    (some ((.bool false), h, (nx + 11)))
    else
    (if ((x23 : Int) != 1) = true then
    (some ((.bool false), h, (nx + 11)))
    else
    (F12_L5' J J call Y lf n0 x9 x11 x13a x13n x13c x17 (wrapA .i64 (x19 + 1)) h (nx + 13)))) := by kernel_rfl

theorem F12_L6_eq (call : YldF → CallF) (Y : YldF) (lf : Nat) (n0 : Nat) (n1 : Nat) (x9 : Int) (x11 : Int) (x13a : Option (Nat × Nat)) (x13n : Nat) (x13c : Bool) (x17 : Int) (x19 : Int) (x20 : Int) (x21 : Int) (x22 : Int) (x23 : Int) (x24 : Int) (h : AHeap) (nx : Nat) : F12_L6 call Y lf n0 (n1 + 1) x9 x11 x13a x13n x13c x17 x19 x20 x21 x22 x23 x24 h nx =
    if (decide ((x24 : Int) < ((x13n : Nat) : Int))) = true then
    ((x13a).bind fun p1 =>
    if 0 ≤ (x24 : Int) ∧ x24 < ((x13n : Nat) : Int) then
    ((ldA h p1.1 (p1.2 + Int.toNat x24 * 4)).bind fun v2 =>
    (asI .i64 v2).bind fun n3 =>
    if ((n3 : Int) == x20) = true then
    ((x13a).bind fun p4 =>
    if 0 ≤ (x24 : Int) ∧ x24 < ((x13n : Nat) : Int) then
    ((ldA h p4.1 ((p4.2 + Int.toNat x24 * 4) + 1)).bind fun v5 =>
    (asI .i64 v5).bind fun n6 =>
    if (decide ((x21 : Int) ≥ n6)) = true then
    ((x13a).bind fun p7 =>
    if 0 ≤ (x24 : Int) ∧ x24 < ((x13n : Nat) : Int) then
    ((ldA h p7.1 ((p7.2 + Int.toNat x24 * 4) + 1)).bind fun v8 =>
    (asI .i64 v8).bind fun n9 =>
    (x13a).bind fun p10 =>
    if 0 ≤ (x24 : Int) ∧ x24 < ((x13n : Nat) : Int) then
    ((ldA h p10.1 ((p10.2 + Int.toNat x24 * 4) + 2)).bind fun v11 =>
    (asI .i64 v11).bind fun n12 =>
    if (decide ((x21 : Int) < (wrapA .i64 (n9 + n12)))) = true then
    (F12_L6 call Y lf n0 n1 x9 x11 x13a x13n x13c x17 x19 x20 x21 x22 (wrapA .i64 (x23 + 1)) (wrapA .i64 (x24 + 1)) h (nx + 41))
    else
    (F12_L6 call Y lf n0 n1 x9 x11 x13a x13n x13c x17 x19 x20 x21 x22 x23 (wrapA .i64 (x24 + 1)) h (nx + 38)))
    else none)
    else none)
    else
    (F12_L6 call Y lf n0 n1 x9 x11 x13a x13n x13c x17 x19 x20 x21 x22 x23 (wrapA .i64 (x24 + 1)) h (nx + 38)))
    else none)
    else
    (F12_L6 call Y lf n0 n1 x9 x11 x13a x13n x13c x17 x19 x20 x21 x22 x23 (wrapA .i64 (x24 + 1)) h (nx + 38)))
    else none)
    else
    (if ((x22 : Int) != 0) = true then
    (some ((.bool false), h, (nx + 11)))
    else
    (if ((x23 : Int) != 1) = true then
    (some ((.bool false), h, (nx + 11)))
    else
    (F12_L5 call Y lf n0 x9 x11 x13a x13n x13c x17 (wrapA .i64 (x19 + 1)) h (nx + 13)))) := F12_L6_eq' go1 call Y lf n0 n1 x9 x11 x13a x13n x13c x17 x19 x20 x21 x22 x23 x24 h nx

theorem F12_L6_zero (call : YldF → CallF) (Y : YldF) (lf : Nat) (n0 : Nat) (x9 : Int) (x11 : Int) (x13a : Option (Nat × Nat)) (x13n : Nat) (x13c : Bool) (x17 : Int) (x19 : Int) (x20 : Int) (x21 : Int) (x22 : Int) (x23 : Int) (x24 : Int) (h : AHeap) (nx : Nat) : F12_L6 call Y lf n0 0 x9 x11 x13a x13n x13c x17 x19 x20 x21 x22 x23 x24 h nx = none := by kernel_rfl

theorem F12_eq' (J : StepF (AV × AHeap × Nat) → StepF (AV × AHeap × Nat)) (n : Nat) (Y : YldF) (x0 : Int) (x1 : Int) (x2 : Int) (x3 : Int) (h : AHeap) (nx : Nat) : rootJ J Try.prog keepT (callP Try.prog keepT n) Y n 12 [(.int .i64 x0), (.int .i64 x1), (.int .i64 x2), (.int .i64 x3)] h nx =
    ((callP Try.prog keepT n) Y 14 [(.int .i64 x0), (.int .i64 x1)] h (nx + 9)).bind fun r1 =>
    (asTup 2 r1.1).bind fun d2 =>
    (asI .i64 (d2.getD 0 .bad)).bind fun n3 =>
    (asI .i64 (d2.getD 1 .bad)).bind fun n4 =>
    ((callP Try.prog keepT n) Y 15 [(.int .i64 x2), (.int .i64 65136)] r1.2.1 (r1.2.2 + 3)).bind fun r5 =>
    (asI .i64 r5.1).bind fun n6 =>
    ((callP Try.prog keepT n) Y 15 [(.int .i64 x3), (.int .i64 32)] r5.2.1 (r5.2.2 + 4)).bind fun r7 =>
    (asI .i64 r7.1).bind fun n8 =>
    ((callP Try.prog keepT n) Y 23 [(.int .i64 n3), (.int .i64 n4), (.int .i64 n6), (.int .i64 (wrapA .i64 (1 + n8)))] r7.2.1 (r7.2.2 + 10)).bind fun r9 =>
    (asTup 2 r9.1).bind fun d10 =>
    (asSl (d10.getD 0 .bad)).bind fun s11 =>
    (asI .i64 (d10.getD 1 .bad)).bind fun n12 =>
    ((callP Try.prog keepT n) Y 17 [(.int .i64 n3), (.int .i64 n4), (.int .i64 (wrapA .i64 (1 + n8)))] r9.2.1 (r9.2.2 + 9)).bind fun r13 =>
    (asTup 2 r13.1).bind fun d14 =>
    (asI .i64 (d14.getD 0 .bad)).bind fun n15 =>
    (asI .i64 (d14.getD 1 .bad)).bind fun n16 =>
    if ((n12 : Int) != 0) = true then
    (some ((.bool false), r13.2.1, (r13.2.2 + 7)))
    else
    (if ((n16 : Int) != 0) = true then
    (some ((.bool false), r13.2.1, (r13.2.2 + 7)))
    else
    (F12_J1' J J (callP Try.prog keepT n) Y n n3 n4 n6 s11.1 s11.2.1 s11.2.2 n15 r13.2.1 (r13.2.2 + 6))) := by kernel_rfl

/-- quickset/quicksetkeep.ColumnsFill -/
theorem F12_eq (n : Nat) (Y : YldF) (x0 : Int) (x1 : Int) (x2 : Int) (x3 : Int) (h : AHeap) (nx : Nat) : callP Try.prog keepT (n + 1) Y 12 [(.int .i64 x0), (.int .i64 x1), (.int .i64 x2), (.int .i64 x3)] h nx =
    ((callP Try.prog keepT n) Y 14 [(.int .i64 x0), (.int .i64 x1)] h (nx + 9)).bind fun r1 =>
    (asTup 2 r1.1).bind fun d2 =>
    (asI .i64 (d2.getD 0 .bad)).bind fun n3 =>
    (asI .i64 (d2.getD 1 .bad)).bind fun n4 =>
    ((callP Try.prog keepT n) Y 15 [(.int .i64 x2), (.int .i64 65136)] r1.2.1 (r1.2.2 + 3)).bind fun r5 =>
    (asI .i64 r5.1).bind fun n6 =>
    ((callP Try.prog keepT n) Y 15 [(.int .i64 x3), (.int .i64 32)] r5.2.1 (r5.2.2 + 4)).bind fun r7 =>
    (asI .i64 r7.1).bind fun n8 =>
    ((callP Try.prog keepT n) Y 23 [(.int .i64 n3), (.int .i64 n4), (.int .i64 n6), (.int .i64 (wrapA .i64 (1 + n8)))] r7.2.1 (r7.2.2 + 10)).bind fun r9 =>
    (asTup 2 r9.1).bind fun d10 =>
    (asSl (d10.getD 0 .bad)).bind fun s11 =>
    (asI .i64 (d10.getD 1 .bad)).bind fun n12 =>
    ((callP Try.prog keepT n) Y 17 [(.int .i64 n3), (.int .i64 n4), (.int .i64 (wrapA .i64 (1 + n8)))] r9.2.1 (r9.2.2 + 9)).bind fun r13 =>
    (asTup 2 r13.1).bind fun d14 =>
    (asI .i64 (d14.getD 0 .bad)).bind fun n15 =>
    (asI .i64 (d14.getD 1 .bad)).bind fun n16 =>
    if ((n12 : Int) != 0) = true then
    (some ((.bool false), r13.2.1, (r13.2.2 + 7)))
    else
    (if ((n16 : Int) != 0) = true then
    (some ((.bool false), r13.2.1, (r13.2.2 + 7)))
    else
    (F12_J1 (callP Try.prog keepT n) Y n n3 n4 n6 s11.1 s11.2.1 s11.2.2 n15 r13.2.1 (r13.2.2 + 6))) := F12_eq' go1 n Y x0 x1 x2 x3 h nx

noncomputable def c13 : Code := (Try.f13.body).getD .skip

noncomputable def r13 : List ResultVar := Try.f13.results.toList

noncomputable def F13_J1' (W J : StepF (AV × AHeap × Nat) → StepF (AV × AHeap × Nat)) (call : YldF → CallF) (Y : YldF) (lf : Nat) (x5 : Int) (x6 : Int) (x7a : Option (Nat × Nat)) (x7n : Nat) (x7c : Bool) (h : AHeap) (nx : Nat) : Option (AV × AHeap × Nat) :=
  goK W J drawK (machOf Try.prog) call Y (keepT 13) lf c13 [1, 1, 1, 1, 1, 1] [] (retK (machOf Try.prog) ⟨c13, 162, r13, keepT 13⟩) ⟨162, mkL [(5, (.int .i64 x5)), (6, (.int .i64 x6)), (7, (.slice x7a x7n x7c))]⟩ h nx

noncomputable def F13_J1 (call : YldF → CallF) (Y : YldF) (lf : Nat) (x5 : Int) (x6 : Int) (x7a : Option (Nat × Nat)) (x7n : Nat) (x7c : Bool) (h : AHeap) (nx : Nat) : Option (AV × AHeap × Nat) := F13_J1' go1 go1 call Y lf x5 x6 x7a x7n x7c h nx

noncomputable def F13_L2' (W J : StepF (AV × AHeap × Nat) → StepF (AV × AHeap × Nat)) (call : YldF → CallF) (Y : YldF) (lf : Nat) (n0 : Nat) (x5 : Int) (x6 : Int) (x7a : Option (Nat × Nat)) (x7n : Nat) (x7c : Bool) (x11 : Int) (h : AHeap) (nx : Nat) : Option (AV × AHeap × Nat) :=
  goK W J drawK (machOf Try.prog) call Y (keepT 13) lf c13 [1, 1, 1, 1, 1, 1, 0, 1, 0, 9] [n0] (retK (machOf Try.prog) ⟨c13, 162, r13, keepT 13⟩) ⟨162, mkL [(5, (.int .i64 x5)), (6, (.int .i64 x6)), (7, (.slice x7a x7n x7c)), (11, (.int .i64 x11))]⟩ h nx

noncomputable def F13_L2 (call : YldF → CallF) (Y : YldF) (lf : Nat) (n0 : Nat) (x5 : Int) (x6 : Int) (x7a : Option (Nat × Nat)) (x7n : Nat) (x7c : Bool) (x11 : Int) (h : AHeap) (nx : Nat) : Option (AV × AHeap × Nat) := F13_L2' go1 go1 call Y lf n0 x5 x6 x7a x7n x7c x11 h nx

noncomputable def F13_L3' (W J : StepF (AV × AHeap × Nat) → StepF (AV × AHeap × Nat)) (call : YldF → CallF) (Y : YldF) (lf : Nat) (n0 : Nat) (n1 : Nat) (x5 : Int) (x6 : Int) (x7a : Option (Nat × Nat)) (x7n : Nat) (x7c : Bool) (x11 : Int) (x12 : Int) (h : AHeap) (nx : Nat) : Option (AV × AHeap × Nat) :=
  goK W J drawK (machOf Try.prog) call Y (keepT 13) lf c13 [1, 1, 1, 1, 1, 1, 0, 1, 0, 0, 1, 0, 0, 1, 0, 1, 0, 9] [n0, n1] (retK (machOf Try.prog) ⟨c13, 162, r13, keepT 13⟩) ⟨162, mkL [(5, (.int .i64 x5)), (6, (.int .i64 x6)), (7, (.slice x7a x7n x7c)), (11, (.int .i64 x11)), (12, (.int .i64 x12))]⟩ h nx

noncomputable def F13_L3 (call : YldF → CallF) (Y : YldF) (lf : Nat) (n0 : Nat) (n1 : Nat) (x5 : Int) (x6 : Int) (x7a : Option (Nat × Nat)) (x7n : Nat) (x7c : Bool) (x11 : Int) (x12 : Int) (h : AHeap) (nx : Nat) : Option (AV × AHeap × Nat) := F13_L3' go1 go1 call Y lf n0 n1 x5 x6 x7a x7n x7c x11 x12 h nx

noncomputable def F13_J4' (W J : StepF (AV × AHeap × Nat) → StepF (AV × AHeap × Nat)) (call : YldF → CallF) (Y : YldF) (lf : Nat) (n0 : Nat) (x5 : Int) (x6 : Int) (x7a : Option (Nat × Nat)) (x7n : Nat) (x7c : Bool) (x11 : Int) (h : AHeap) (nx : Nat) : Option (AV × AHeap × Nat) :=
  goK W J drawK (machOf Try.prog) call Y (keepT 13) lf c13 [1, 1, 1, 1, 1, 1, 0, 1, 0, 0, 1, 0, 0, 1, 1, 1] [n0] (retK (machOf Try.prog) ⟨c13, 162, r13, keepT 13⟩) ⟨162, mkL [(5, (.int .i64 x5)), (6, (.int .i64 x6)), (7, (.slice x7a x7n x7c)), (11, (.int .i64 x11))]⟩ h nx

noncomputable def F13_J4 (call : YldF → CallF) (Y : YldF) (lf : Nat) (n0 : Nat) (x5 : Int) (x6 : Int) (x7a : Option (Nat × Nat)) (x7n : Nat) (x7c : Bool) (x11 : Int) (h : AHeap) (nx : Nat) : Option (AV × AHeap × Nat) := F13_J4' go1 go1 call Y lf n0 x5 x6 x7a x7n x7c x11 h nx

theorem F13_J1_eq' (J : StepF (AV × AHeap × Nat) → StepF (AV × AHeap × Nat)) (call : YldF → CallF) (Y : YldF) (lf : Nat) (x5 : Int) (x6 : Int) (x7a : Option (Nat × Nat)) (x7n : Nat) (x7c : Bool) (h : AHeap) (nx : Nat) : F13_J1' go1 J call Y lf x5 x6 x7a x7n x7c h nx =
    F13_L2' J J call Y lf lf x5 x6 x7a x7n x7c 0 h (nx + 1) := by kernel_rfl

theorem F13_J1_eq (call : YldF → CallF) (Y : YldF) (lf : Nat) (x5 : Int) (x6 : Int) (x7a : Option (Nat × Nat)) (x7n : Nat) (x7c : Bool) (h : AHeap) (nx : Nat) : F13_J1 call Y lf x5 x6 x7a x7n x7c h nx =
    F13_L2 call Y lf lf x5 x6 x7a x7n x7c 0 h (nx + 1) := F13_J1_eq' go1 call Y lf x5 x6 x7a x7n x7c h nx

theorem F13_L2_eq' (J : StepF (AV × AHeap × Nat) → StepF (AV × AHeap × Nat)) (call : YldF → CallF) (Y : YldF) (lf : Nat) (n0 : Nat) (x5 : Int) (x6 : Int) (x7a : Option (Nat × Nat)) (x7n : Nat) (x7c : Bool) (x11 : Int) (h : AHeap) (nx : Nat) : F13_L2' go1 J call Y lf (n0 + 1) x5 x6 x7a x7n x7c x11 h nx =
    if (decide ((x11 : Int) < ((x7n : Nat) : Int))) = true then
    ((x7a).bind fun p1 =>
    if 0 ≤ (x11 : Int) ∧ x11 < ((x7n : Nat) : Int) then
    ((ldA h p1.1 (p1.2 + Int.toNat x11 * 1)).bind fun v2 =>
    (asSl v2).bind fun s3 =>
    if ((((s3.2.1 : Nat) : Int) : Int) != x6) = true then
    (some ((.bool false), h, (nx + 12)))
    else
    (F13_L3' J J call Y lf n0 lf x5 x6 x7a x7n x7c x11 0 h (nx + 12)))
    else none)
    else
    (some ((.bool true), h, (nx + 5))) := by kernel_rfl

theorem F13_L2_eq (call : YldF → CallF) (Y : YldF) (lf : Nat) (n0 : Nat) (x5 : Int) (x6 : Int) (x7a : Option (Nat × Nat)) (x7n : Nat) (x7c : Bool) (x11 : Int) (h : AHeap) (nx : Nat) : F13_L2 call Y lf (n0 + 1) x5 x6 x7a x7n x7c x11 h nx =
    if (decide ((x11 : Int) < ((x7n : Nat) : Int))) = true then
    ((x7a).bind fun p1 =>
    if 0 ≤ (x11 : Int) ∧ x11 < ((x7n : Nat) : Int) then
    ((ldA h p1.1 (p1.2 + Int.toNat x11 * 1)).bind fun v2 =>
    (asSl v2).bind fun s3 =>
    if ((((s3.2.1 : Nat) : Int) : Int) != x6) = true then
    (some ((.bool false), h, (nx + 12)))
    else
    (F13_L3 call Y lf n0 lf x5 x6 x7a x7n x7c x11 0 h (nx + 12)))
    else none)
    else
    (some ((.bool true), h, (nx + 5))) := F13_L2_eq' go1 call Y lf n0 x5 x6 x7a x7n x7c x11 h nx

theorem F13_L2_zero (call : YldF → CallF) (Y : YldF) (lf : Nat) (x5 : Int) (x6 : Int) (x7a : Option (Nat × Nat)) (x7n : Nat) (x7c : Bool) (x11 : Int) (h : AHeap) (nx : Nat) : F13_L2 call Y lf 0 x5 x6 x7a x7n x7c x11 h nx = none := by kernel_rfl

theorem F13_L3_eq' (J : StepF (AV × AHeap × Nat) → StepF (AV × AHeap × Nat)) (call : YldF → CallF) (Y : YldF) (lf : Nat) (n0 : Nat) (n1 : Nat) (x5 : Int) (x6 : Int) (x7a : Option (Nat × Nat)) (x7n : Nat) (x7c : Bool) (x11 : Int) (x12 : Int) (h : AHeap) (nx : Nat) : F13_L3' go1 J call Y lf n0 (n1 + 1) x5 x6 x7a x7n x7c x11 x12 h nx =
    if (decide ((x12 : Int) < x6)) = true then
    ((x7a).bind fun p1 =>
    if 0 ≤ (x11 : Int) ∧ x11 < ((x7n : Nat) : Int) then
    ((ldA h p1.1 (p1.2 + Int.toNat x11 * 1)).bind fun v2 =>
    (asSl v2).bind fun s3 =>
    (s3.1).bind fun p4 =>
    if 0 ≤ (x12 : Int) ∧ x12 < ((s3.2.1 : Nat) : Int) then
    ((ldA h p4.1 (p4.2 + Int.toNat x12 * 1)).bind fun v5 =>
    (asI .i64 v5).bind fun n6 =>
    if (decide ((n6 : Int) < 0)) = true then
    (some ((.bool false), h, (nx + 45)))
    else
    ((x7a).bind fun p7 =>
    if 0 ≤ (x11 : Int) ∧ x11 < ((x7n : Nat) : Int) then
    ((ldA h p7.1 (p7.2 + Int.toNat x11 * 1)).bind fun v8 =>
    (asSl v8).bind fun s9 =>
    (s9.1).bind fun p10 =>
    if 0 ≤ (x12 : Int) ∧ x12 < ((s9.2.1 : Nat) : Int) then
    ((ldA h p10.1 (p10.2 + Int.toNat x12 * 1)).bind fun v11 =>
    (asI .i64 v11).bind fun n12 =>
    if (decide ((n12 : Int) ≥ x5)) = true then
    (some ((.bool false), h, (nx + 45)))
    else
    (if (decide ((x12 : Int) > 0)) = true then
    ((x7a).bind fun p13 =>
    if 0 ≤ (x11 : Int) ∧ x11 < ((x7n : Nat) : Int) then
    ((ldA h p13.1 (p13.2 + Int.toNat x11 * 1)).bind fun v14 =>
    (asSl v14).bind fun s15 =>
    (s15.1).bind fun p16 =>
    if 0 ≤ ((wrapA .i64 (x12 - 1)) : Int) ∧ (wrapA .i64 (x12 - 1)) < ((s15.2.1 : Nat) : Int) then
    ((ldA h p16.1 (p16.2 + Int.toNat (wrapA .i64 (x12 - 1)) * 1)).bind fun v17 =>
    (asI .i64 v17).bind fun n18 =>
    (x7a).bind fun p19 =>
    if 0 ≤ (x11 : Int) ∧ x11 < ((x7n : Nat) : Int) then
    ((ldA h p19.1 (p19.2 + Int.toNat x11 * 1)).bind fun v20 =>
    (asSl v20).bind fun s21 =>
    (s21.1).bind fun p22 =>
    if 0 ≤ (x12 : Int) ∧ x12 < ((s21.2.1 : Nat) : Int) then
    ((ldA h p22.1 (p22.2 + Int.toNat x12 * 1)).bind fun v23 =>
    (asI .i64 v23).bind fun n24 =>
    if (decide ((n18 : Int) ≥ n24)) = true then
    (some ((.bool false), h, (nx + 45)))
    else
    (F13_L3' J J call Y lf n0 n1 x5 x6 x7a x7n x7c x11 (wrapA .i64 (x12 + 1)) h (nx + 47)))
    else none)
    else none)
    else none)
    else none)
    else
    (F13_L3' J J call Y lf n0 n1 x5 x6 x7a x7n x7c x11 (wrapA .i64 (x12 + 1)) h (nx + 47))))
    else none)
    else none))
    else none)
    else none)
    else
    (if (decide ((x11 : Int) > 0)) = true then
    ((x7a).bind fun p25 =>
    if 0 ≤ ((wrapA .i64 (x11 - 1)) : Int) ∧ (wrapA .i64 (x11 - 1)) < ((x7n : Nat) : Int) then
    ((ldA h p25.1 (p25.2 + Int.toNat (wrapA .i64 (x11 - 1)) * 1)).bind fun v26 =>
    (asSl v26).bind fun s27 =>
    (x7a).bind fun p28 =>
    if 0 ≤ (x11 : Int) ∧ x11 < ((x7n : Nat) : Int) then
    ((ldA h p28.1 (p28.2 + Int.toNat x11 * 1)).bind fun v29 =>
    (asSl v29).bind fun s30 =>
    (call Y 31 [(.slice s27.1 s27.2.1 s27.2.2), (.slice s30.1 s30.2.1 s30.2.2)] h (nx + 18)).bind fun r31 =>
    (asB r31.1).bind fun t32 =>
    if (!t32) = true then
    (some ((.bool false), r31.2.1, (r31.2.2 + 1)))
    else
    (F13_J4' J J call Y lf n0 x5 x6 x7a x7n x7c x11 r31.2.1 r31.2.2))
    else none)
    else none)
    else
    (F13_J4' J J call Y lf n0 x5 x6 x7a x7n x7c x11 h (nx + 18))) := by kernel_rfl

theorem F13_L3_eq (call : YldF → CallF) (Y : YldF) (lf : Nat) (n0 : Nat) (n1 : Nat) (x5 : Int) (x6 : Int) (x7a : Option (Nat × Nat)) (x7n : Nat) (x7c : Bool) (x11 : Int) (x12 : Int) (h : AHeap) (nx : Nat) : F13_L3 call Y lf n0 (n1 + 1) x5 x6 x7a x7n x7c x11 x12 h nx =
    if (decide ((x12 : Int) < x6)) = true then
    ((x7a).bind fun p1 =>
    if 0 ≤ (x11 : Int) ∧ x11 < ((x7n : Nat) : Int) then
    ((ldA h p1.1 (p1.2 + Int.toNat x11 * 1)).bind fun v2 =>
    (asSl v2).bind fun s3 =>
    (s3.1).bind fun p4 =>
    if 0 ≤ (x12 : Int) ∧ x12 < ((s3.2.1 : Nat) : Int) then
    ((ldA h p4.1 (p4.2 + Int.toNat x12 * 1)).bind fun v5 =>
    (asI .i64 v5).bind fun n6 =>
    if (decide ((n6 : Int) < 0)) = true then
    (some ((.bool false), h, (nx + 45)))
    else
    ((x7a).bind fun p7 =>
    if 0 ≤ (x11 : Int) ∧ x11 < ((x7n : Nat) : Int) then
    ((ldA h p7.1 (p7.2 + Int.toNat x11 * 1)).bind fun v8 =>
    (asSl v8).bind fun s9 =>
    (s9.1).bind fun p10 =>
    if 0 ≤ (x12 : Int) ∧ x12 < ((s9.2.1 : Nat) : Int) then
    ((ldA h p10.1 (p10.2 + Int.toNat x12 * 1)).bind fun v11 =>
    (asI .i64 v11).bind fun n12 =>
    if (decide ((n12 : Int) ≥ x5)) = true then
    (some ((.bool false), h, (nx + 45)))
    else
    (if (decide ((x12 : Int) > 0)) = true then
    ((x7a).bind fun p13 =>
    if 0 ≤ (x11 : Int) ∧ x11 < ((x7n : Nat) : Int) then
    ((ldA h p13.1 (p13.2 + Int.toNat x11 * 1)).bind fun v14 =>
    (asSl v14).bind fun s15 =>
    (s15.1).bind fun p16 =>
    if 0 ≤ ((wrapA .i64 (x12 - 1)) : Int) ∧ (wrapA .i64 (x12 - 1)) < ((s15.2.1 : Nat) : Int) then
    ((ldA h p16.1 (p16.2 + Int.toNat (wrapA .i64 (x12 - 1)) * 1)).bind fun v17 =>
    (asI .i64 v17).bind fun n18 =>
    (x7a).bind fun p19 =>
    if 0 ≤ (x11 : Int) ∧ x11 < ((x7n : Nat) : Int) then
    ((ldA h p19.1 (p19.2 + Int.toNat x11 * 1)).bind fun v20 =>
    (asSl v20).bind fun s21 =>
    (s21.1).bind fun p22 =>
    if 0 ≤ (x12 : Int) ∧ x12 < ((s21.2.1 : Nat) : Int) then
    ((ldA h p22.1 (p22.2 + Int.toNat x12 * 1)).bind fun v23 =>
    (asI .i64 v23).bind fun n24 =>
    if (decide ((n18 : Int) ≥ n24)) = true then
    (some ((.bool false), h, (nx + 45)))
    else
    (F13_L3 call Y lf n0 n1 x5 x6 x7a x7n x7c x11 (wrapA .i64 (x12 + 1)) h (nx + 47)))
    else none)
    else none)
    else none)
    else none)
    else
    (F13_L3 call Y lf n0 n1 x5 x6 x7a x7n x7c x11 (wrapA .i64 (x12 + 1)) h (nx + 47))))
    else none)
    else none))
    else none)
    else none)
    else
    (if (decide ((x11 : Int) > 0)) = true then
    ((x7a).bind fun p25 =>
    if 0 ≤ ((wrapA .i64 (x11 - 1)) : Int) ∧ (wrapA .i64 (x11 - 1)) < ((x7n : Nat) : Int) then
    ((ldA h p25.1 (p25.2 + Int.toNat (wrapA .i64 (x11 - 1)) * 1)).bind fun v26 =>
    (asSl v26).bind fun s27 =>
    (x7a).bind fun p28 =>
    if 0 ≤ (x11 : Int) ∧ x11 < ((x7n : Nat) : Int) then
    ((ldA h p28.1 (p28.2 + Int.toNat x11 * 1)).bind fun v29 =>
    (asSl v29).bind fun s30 =>
    (call Y 31 [(.slice s27.1 s27.2.1 s27.2.2), (.slice s30.1 s30.2.1 s30.2.2)] h (nx + 18)).bind fun r31 =>
    (asB r31.1).bind fun t32 =>
    if (!t32) = true then
    (some ((.bool false), r31.2.1, (r31.2.2 + 1)))
    else
    (F13_J4 call Y lf n0 x5 x6 x7a x7n x7c x11 r31.2.1 r31.2.2))
    else none)
    else none)
    else
    (F13_J4 call Y lf n0 x5 x6 x7a x7n x7c x11 h (nx + 18))) := F13_L3_eq' go1 call Y lf n0 n1 x5 x6 x7a x7n x7c x11 x12 h nx

theorem F13_L3_zero (call : YldF → CallF) (Y : YldF) (lf : Nat) (n0 : Nat) (x5 : Int) (x6 : Int) (x7a : Option (Nat × Nat)) (x7n : Nat) (x7c : Bool) (x11 : Int) (x12 : Int) (h : AHeap) (nx : Nat) : F13_L3 call Y lf n0 0 x5 x6 x7a x7n x7c x11 x12 h nx = none := by kernel_rfl

theorem F13_J4_eq' (J : StepF (AV × AHeap × Nat) → StepF (AV × AHeap × Nat)) (call : YldF → CallF) (Y : YldF) (lf : Nat) (n0 : Nat) (x5 : Int) (x6 : Int) (x7a : Option (Nat × Nat)) (x7n : Nat) (x7c : Bool) (x11 : Int) (h : AHeap) (nx : Nat) : F13_J4' go1 J call Y lf n0 x5 x6 x7a x7n x7c x11 h nx =
    (x7a).bind fun p1 =>
    if 0 ≤ (x11 : Int) ∧ x11 < ((x7n : Nat) : Int) then
    ((ldA h p1.1 (p1.2 + Int.toNat x11 * 1)).bind fun v2 =>
    (asSl v2).bind fun s3 =>
    (srcS h s3.1 s3.2.1 1).bind fun q4 =>
    (appD h none 0 false 1 8 (nx + 5) q4).bind fun e5 =>
    let h6 := AHeap.puts h e5.sets
    (call Y 27 [(.int .i64 x5), (.slice e5.a e5.n e5.c)] h6 (nx + 12)).bind fun r7 =>
    (asTup 2 r7.1).bind fun d8 =>
    (asI .i64 (d8.getD 0 .bad)).bind fun n9 =>
    (asI .i64 (d8.getD 1 .bad)).bind fun n10 =>
    (call Y 28 [(.int .i64 x5), (.int .i64 x6), (.int .i64 x11)] r7.2.1 (r7.2.2 + 9)).bind fun r11 =>
    (asTup 2 r11.1).bind fun d12 =>
    (asSl (d12.getD 0 .bad)).bind fun s13 =>
    (asI .i64 (d12.getD 1 .bad)).bind fun n14 =>
    if ((n10 : Int) != 0) = true then
    (some ((.bool false), r11.2.1, (r11.2.2 + 21)))
    else
    (if ((n14 : Int) != 0) = true then
    (some ((.bool false), r11.2.1, (r11.2.2 + 21)))
    else
    (if ((n9 : Int) != x11) = true then
    (some ((.bool false), r11.2.1, (r11.2.2 + 21)))
    else
    ((x7a).bind fun p15 =>
    if 0 ≤ (x11 : Int) ∧ x11 < ((x7n : Nat) : Int) then
    ((ldA r11.2.1 p15.1 (p15.2 + Int.toNat x11 * 1)).bind fun v16 =>
    (asSl v16).bind fun s17 =>
    (call Y 29 [(.slice s13.1 s13.2.1 s13.2.2), (.slice s17.1 s17.2.1 s17.2.2)] r11.2.1 (r11.2.2 + 20)).bind fun r18 =>
    (asB r18.1).bind fun t19 =>
    if (!t19) = true then
    (some ((.bool false), r18.2.1, (r18.2.2 + 1)))
    else
    (F13_L2' J J call Y lf n0 x5 x6 x7a x7n x7c (wrapA .i64 (x11 + 1)) r18.2.1 (r18.2.2 + 3)))
    else none))))
    else none := by kernel_rfl

theorem F13_J4_eq (call : YldF → CallF) (Y : YldF) (lf : Nat) (n0 : Nat) (x5 : Int) (x6 : Int) (x7a : Option (Nat × Nat)) (x7n : Nat) (x7c : Bool) (x11 : Int) (h : AHeap) (nx : Nat) : F13_J4 call Y lf n0 x5 x6 x7a x7n x7c x11 h nx =
    (x7a).bind fun p1 =>
    if 0 ≤ (x11 : Int) ∧ x11 < ((x7n : Nat) : Int) then
    ((ldA h p1.1 (p1.2 + Int.toNat x11 * 1)).bind fun v2 =>
    (asSl v2).bind fun s3 =>
    (srcS h s3.1 s3.2.1 1).bind fun q4 =>
    (appD h none 0 false 1 8 (nx + 5) q4).bind fun e5 =>
    let h6 := AHeap.puts h e5.sets
    (call Y 27 [(.int .i64 x5), (.slice e5.a e5.n e5.c)] h6 (nx + 12)).bind fun r7 =>
    (asTup 2 r7.1).bind fun d8 =>
    (asI .i64 (d8.getD 0 .bad)).bind fun n9 =>
    (asI .i64 (d8.getD 1 .bad)).bind fun n10 =>
    (call Y 28 [(.int .i64 x5), (.int .i64 x6), (.int .i64 x11)] r7.2.1 (r7.2.2 + 9)).bind fun r11 =>
    (asTup 2 r11.1).bind fun d12 =>
    (asSl (d12.getD 0 .bad)).bind fun s13 =>
    (asI .i64 (d12.getD 1 .bad)).bind fun n14 =>
    if ((n10 : Int) != 0) = true then
    (some ((.bool false), r11.2.1, (r11.2.2 + 21)))
    else
    (if ((n14 : Int) != 0) = true then
    (some ((.bool false), r11.2.1, (r11.2.2 + 21)))
    else
    (if ((n9 : Int) != x11) = true then
    (some ((.bool false), r11.2.1, (r11.2.2 + 21)))
    else
    ((x7a).bind fun p15 =>
    if 0 ≤ (x11 : Int) ∧ x11 < ((x7n : Nat) : Int) then
    ((ldA r11.2.1 p15.1 (p15.2 + Int.toNat x11 * 1)).bind fun v16 =>
    (asSl v16).bind fun s17 =>
    (call Y 29 [(.slice s13.1 s13.2.1 s13.2.2), (.slice s17.1 s17.2.1 s17.2.2)] r11.2.1 (r11.2.2 + 20)).bind fun r18 =>
    (asB r18.1).bind fun t19 =>
    if (!t19) = true then
    (some ((.bool false), r18.2.1, (r18.2.2 + 1)))
    else
    (F13_L2 call Y lf n0 x5 x6 x7a x7n x7c (wrapA .i64 (x11 + 1)) r18.2.1 (r18.2.2 + 3)))
    else none))))
    else none := F13_J4_eq' go1 call Y lf n0 x5 x6 x7a x7n x7c x11 h nx

theorem F13_eq' (J : StepF (AV × AHeap × Nat) → StepF (AV × AHeap × Nat)) (n : Nat) (Y : YldF) (x0 : Int) (x1 : Int) (h : AHeap) (nx : Nat) : rootJ J Try.prog keepT (callP Try.prog keepT n) Y n 13 [(.int .i64 x0), (.int .i64 x1)] h nx =
    ((callP Try.prog keepT n) Y 15 [(.int .i64 x0), (.int .i64 9)] h (nx + 4)).bind fun r1 =>
    (asI .i64 r1.1).bind fun n2 =>
    ((callP Try.prog keepT n) Y 15 [(.int .i64 x1), (.int .i64 (wrapA .i64 (n2 + 1)))] r1.2.1 (r1.2.2 + 5)).bind fun r3 =>
    (asI .i64 r3.1).bind fun n4 =>
    ((callP Try.prog keepT n) Y 30 [(.int .i64 n2), (.int .i64 n4)] r3.2.1 (r3.2.2 + 8)).bind fun r5 =>
    (asTup 2 r5.1).bind fun d6 =>
    (asSl (d6.getD 0 .bad)).bind fun s7 =>
    (asI .i64 (d6.getD 1 .bad)).bind fun n8 =>
    ((callP Try.prog keepT n) Y 18 [(.int .i64 n2), (.int .i64 n4)] r5.2.1 (r5.2.2 + 8)).bind fun r9 =>
    (asTup 2 r9.1).bind fun d10 =>
    (asI .i64 (d10.getD 0 .bad)).bind fun n11 =>
    (asI .i64 (d10.getD 1 .bad)).bind fun n12 =>
    if ((n8 : Int) != 0) = true then
    (some ((.bool false), r9.2.1, (r9.2.2 + 17)))
    else
    (if ((n12 : Int) != 0) = true then
    (some ((.bool false), r9.2.1, (r9.2.2 + 17)))
    else
    (if ((((s7.2.1 : Nat) : Int) : Int) != n11) = true then
    (some ((.bool false), r9.2.1, (r9.2.2 + 17)))
    else
    (if (decide ((n11 : Int) < 1)) = true then
    (some ((.bool false), r9.2.1, (r9.2.2 + 17)))
    else
    (F13_J1' J J (callP Try.prog keepT n) Y n n2 n4 s7.1 s7.2.1 s7.2.2 r9.2.1 (r9.2.2 + 16))))) := by kernel_rfl

/-- quickset/quicksetkeep.CombAll -/
theorem F13_eq (n : Nat) (Y : YldF) (x0 : Int) (x1 : Int) (h : AHeap) (nx : Nat) : callP Try.prog keepT (n + 1) Y 13 [(.int .i64 x0), (.int .i64 x1)] h nx =
    ((callP Try.prog keepT n) Y 15 [(.int .i64 x0), (.int .i64 9)] h (nx + 4)).bind fun r1 =>
    (asI .i64 r1.1).bind fun n2 =>
    ((callP Try.prog keepT n) Y 15 [(.int .i64 x1), (.int .i64 (wrapA .i64 (n2 + 1)))] r1.2.1 (r1.2.2 + 5)).bind fun r3 =>
    (asI .i64 r3.1).bind fun n4 =>
    ((callP Try.prog keepT n) Y 30 [(.int .i64 n2), (.int .i64 n4)] r3.2.1 (r3.2.2 + 8)).bind fun r5 =>
    (asTup 2 r5.1).bind fun d6 =>
    (asSl (d6.getD 0 .bad)).bind fun s7 =>
    (asI .i64 (d6.getD 1 .bad)).bind fun n8 =>
    ((callP Try.prog keepT n) Y 18 [(.int .i64 n2), (.int .i64 n4)] r5.2.1 (r5.2.2 + 8)).bind fun r9 =>
    (asTup 2 r9.1).bind fun d10 =>
    (asI .i64 (d10.getD 0 .bad)).bind fun n11 =>
    (asI .i64 (d10.getD 1 .bad)).bind fun n12 =>
    if ((n8 : Int) != 0) = true then
    (some ((.bool false), r9.2.1, (r9.2.2 + 17)))
    else
    (if ((n12 : Int) != 0) = true then
    (some ((.bool false), r9.2.1, (r9.2.2 + 17)))
    else
    (if ((((s7.2.1 : Nat) : Int) : Int) != n11) = true then
    (some ((.bool false), r9.2.1, (r9.2.2 + 17)))
    else
    (if (decide ((n11 : Int) < 1)) = true then
    (some ((.bool false), r9.2.1, (r9.2.2 + 17)))
    else
    (F13_J1 (callP Try.prog keepT n) Y n n2 n4 s7.1 s7.2.1 s7.2.2 r9.2.1 (r9.2.2 + 16))))) := F13_eq' go1 n Y x0 x1 h nx

noncomputable def c14 : Code := (Try.f14.body).getD .skip

noncomputable def r14 : List ResultVar := Try.f14.results.toList

theorem F14_eq' (J : StepF (AV × AHeap × Nat) → StepF (AV × AHeap × Nat)) (n : Nat) (Y : YldF) (x0 : Int) (x1 : Int) (h : AHeap) (nx : Nat) : rootJ J Try.prog keepT (callP Try.prog keepT n) Y n 14 [(.int .i64 x0), (.int .i64 x1)] h nx =
    ((callP Try.prog keepT n) Y 15 [(.int .i64 x0), (.int .i64 7)] h (nx + 6)).bind fun r1 =>
    (asI .i64 r1.1).bind fun n2 =>
    ((callP Try.prog keepT n) Y 15 [(.int .i64 x1), (.int .i64 (if (wrapA .i64 ((wrapA .i64 (2 + n2)) - 1)) < 3 then (wrapA .i64 ((wrapA .i64 (2 + n2)) - 1)) else 3))] r1.2.1 (r1.2.2 + 9)).bind fun r3 =>
    (asI .i64 r3.1).bind fun n4 =>
    some ((.tuple [(.int .i64 (wrapA .i64 (2 + n2))), (.int .i64 (wrapA .i64 (1 + n4)))]), r3.2.1, r3.2.2) := by kernel_rfl

/-- quickset/quicksetkeep.Shape -/
theorem F14_eq (n : Nat) (Y : YldF) (x0 : Int) (x1 : Int) (h : AHeap) (nx : Nat) : callP Try.prog keepT (n + 1) Y 14 [(.int .i64 x0), (.int .i64 x1)] h nx =
    ((callP Try.prog keepT n) Y 15 [(.int .i64 x0), (.int .i64 7)] h (nx + 6)).bind fun r1 =>
    (asI .i64 r1.1).bind fun n2 =>
    ((callP Try.prog keepT n) Y 15 [(.int .i64 x1), (.int .i64 (if (wrapA .i64 ((wrapA .i64 (2 + n2)) - 1)) < 3 then (wrapA .i64 ((wrapA .i64 (2 + n2)) - 1)) else 3))] r1.2.1 (r1.2.2 + 9)).bind fun r3 =>
    (asI .i64 r3.1).bind fun n4 =>
    some ((.tuple [(.int .i64 (wrapA .i64 (2 + n2))), (.int .i64 (wrapA .i64 (1 + n4)))]), r3.2.1, r3.2.2) := F14_eq' go1 n Y x0 x1 h nx

noncomputable def c15 : Code := (Try.f15.body).getD .skip

noncomputable def r15 : List ResultVar := Try.f15.results.toList

theorem F15_eq' (J : StepF (AV × AHeap × Nat) → StepF (AV × AHeap × Nat)) (n : Nat) (Y : YldF) (x0 : Int) (x1 : Int) (h : AHeap) (nx : Nat) : rootJ J Try.prog keepT (callP Try.prog keepT n) Y n 15 [(.int .i64 x0), (.int .i64 x1)] h nx =
    if (x1 : Int) = 0 then none else
    (if (decide (((Int.tmod x0 x1) : Int) < 0)) = true then
    (some ((.int .i64 (wrapA .i64 ((Int.tmod x0 x1) + x1))), h, (nx + 11)))
    else
    (some ((.int .i64 (Int.tmod x0 x1)), h, (nx + 9)))) := by kernel_rfl

/-- quickset/quicksetkeep.Picked -/
theorem F15_eq (n : Nat) (Y : YldF) (x0 : Int) (x1 : Int) (h : AHeap) (nx : Nat) : callP Try.prog keepT (n + 1) Y 15 [(.int .i64 x0), (.int .i64 x1)] h nx =
    if (x1 : Int) = 0 then none else
    (if (decide (((Int.tmod x0 x1) : Int) < 0)) = true then
    (some ((.int .i64 (wrapA .i64 ((Int.tmod x0 x1) + x1))), h, (nx + 11)))
    else
    (some ((.int .i64 (Int.tmod x0 x1)), h, (nx + 9)))) := F15_eq' go1 n Y x0 x1 h nx

noncomputable def c16 : Code := (Try.f16.body).getD .skip

noncomputable def r16 : List ResultVar := Try.f16.results.toList

noncomputable def F16_J1' (W J : StepF (AV × AHeap × Nat) → StepF (AV × AHeap × Nat)) (call : YldF → CallF) (Y : YldF) (lf : Nat) (x0 : Int) (x1 : Int) (h : AHeap) (nx : Nat) : Option (AV × AHeap × Nat) :=
  goK W J drawK (machOf Try.prog) call Y (keepT 16) lf c16 [1, 1] [] (retK (machOf Try.prog) ⟨c16, 24, r16, keepT 16⟩) ⟨24, mkL [(0, (.int .i64 x0)), (1, (.int .i64 x1))]⟩ h nx

noncomputable def F16_J1 (call : YldF → CallF) (Y : YldF) (lf : Nat) (x0 : Int) (x1 : Int) (h : AHeap) (nx : Nat) : Option (AV × AHeap × Nat) := F16_J1' go1 go1 call Y lf x0 x1 h nx

theorem F16_J1_eq' (J : StepF (AV × AHeap × Nat) → StepF (AV × AHeap × Nat)) (call : YldF → CallF) (Y : YldF) (lf : Nat) (x0 : Int) (x1 : Int) (h : AHeap) (nx : Nat) : F16_J1' go1 J call Y lf x0 x1 h nx =
    if (x0 : Int) = 0 then none else
    (if (x0 : Int) = 0 then none else
    (some ((.tuple [(.int .i64 (Int.tmod x1 x0)), (.int .i64 (wrapA .i64 (Int.tdiv x1 x0))), (.int .i64 0)]), h, (nx + 9)))) := by kernel_rfl

theorem F16_J1_eq (call : YldF → CallF) (Y : YldF) (lf : Nat) (x0 : Int) (x1 : Int) (h : AHeap) (nx : Nat) : F16_J1 call Y lf x0 x1 h nx =
    if (x0 : Int) = 0 then none else
    (if (x0 : Int) = 0 then none else
    (some ((.tuple [(.int .i64 (Int.tmod x1 x0)), (.int .i64 (wrapA .i64 (Int.tdiv x1 x0))), (.int .i64 0)]), h, (nx + 9)))) := F16_J1_eq' go1 call Y lf x0 x1 h nx

theorem F16_eq' (J : StepF (AV × AHeap × Nat) → StepF (AV × AHeap × Nat)) (n : Nat) (Y : YldF) (x0 : Int) (x1 : Int) (h : AHeap) (nx : Nat) : rootJ J Try.prog keepT (callP Try.prog keepT n) Y n 16 [(.int .i64 x0), (.int .i64 x1)] h nx =
    if (decide ((x0 : Int) < 2)) = true then
    (some ((.tuple [(.int .i64 0), (.int .i64 0), (.int .i64 2)]), h, (nx + 17)))
    else
    (if (decide ((x0 : Int) > 8)) = true then
    (some ((.tuple [(.int .i64 0), (.int .i64 0), (.int .i64 2)]), h, (nx + 17)))
    else
    (((callP Try.prog keepT n) Y 32 [(.int .i64 x1)] h (nx + 14)).bind fun r1 =>
    (asB r1.1).bind fun t2 =>
    if (!t2) = true then
    (some ((.tuple [(.int .i64 0), (.int .i64 0), (.int .i64 2)]), r1.2.1, (r1.2.2 + 3)))
    else
    (F16_J1' J J (callP Try.prog keepT n) Y n x0 x1 r1.2.1 r1.2.2))) := by kernel_rfl

/-- quickset/geom.Spot -/
theorem F16_eq (n : Nat) (Y : YldF) (x0 : Int) (x1 : Int) (h : AHeap) (nx : Nat) : callP Try.prog keepT (n + 1) Y 16 [(.int .i64 x0), (.int .i64 x1)] h nx =
    if (decide ((x0 : Int) < 2)) = true then
    (some ((.tuple [(.int .i64 0), (.int .i64 0), (.int .i64 2)]), h, (nx + 17)))
    else
    (if (decide ((x0 : Int) > 8)) = true then
    (some ((.tuple [(.int .i64 0), (.int .i64 0), (.int .i64 2)]), h, (nx + 17)))
    else
    (((callP Try.prog keepT n) Y 32 [(.int .i64 x1)] h (nx + 14)).bind fun r1 =>
    (asB r1.1).bind fun t2 =>
    if (!t2) = true then
    (some ((.tuple [(.int .i64 0), (.int .i64 0), (.int .i64 2)]), r1.2.1, (r1.2.2 + 3)))
    else
    (F16_J1 (callP Try.prog keepT n) Y n x0 x1 r1.2.1 r1.2.2))) := F16_eq' go1 n Y x0 x1 h nx

noncomputable def c17 : Code := (Try.f17.body).getD .skip

noncomputable def r17 : List ResultVar := Try.f17.results.toList

noncomputable def F17_J1' (W J : StepF (AV × AHeap × Nat) → StepF (AV × AHeap × Nat)) (call : YldF → CallF) (Y : YldF) (lf : Nat) (x0 : Int) (x1 : Int) (x2 : Int) (h : AHeap) (nx : Nat) : Option (AV × AHeap × Nat) :=
  goK W J drawK (machOf Try.prog) call Y (keepT 17) lf c17 [1, 1, 1] [] (retK (machOf Try.prog) ⟨c17, 36, r17, keepT 17⟩) ⟨36, mkL [(0, (.int .i64 x0)), (1, (.int .i64 x1)), (2, (.int .i64 x2))]⟩ h nx

noncomputable def F17_J1 (call : YldF → CallF) (Y : YldF) (lf : Nat) (x0 : Int) (x1 : Int) (x2 : Int) (h : AHeap) (nx : Nat) : Option (AV × AHeap × Nat) := F17_J1' go1 go1 call Y lf x0 x1 x2 h nx

theorem F17_J1_eq' (J : StepF (AV × AHeap × Nat) → StepF (AV × AHeap × Nat)) (call : YldF → CallF) (Y : YldF) (lf : Nat) (x0 : Int) (x1 : Int) (x2 : Int) (h : AHeap) (nx : Nat) : F17_J1' go1 J call Y lf x0 x1 x2 h nx =
    (call Y 35 [(.int .i64 x2), (.int .i64 (wrapA .i64 (x0 - x1)))] h (nx + 18)).bind fun r1 =>
    (asI .i64 r1.1).bind fun n2 =>
    if ((wrapA .i64 (x0 - x1)) : Int) = 0 then none else
    ((call Y 35 [(.int .i64 (wrapA .i64 (x2 + (wrapA .i64 (x1 * (wrapA .i64 (Int.tdiv n2 (wrapA .i64 (x0 - x1))))))))), (.int .i64 (wrapA .i64 (x1 + 1)))] r1.2.1 r1.2.2).bind fun r3 =>
    (asI .i64 r3.1).bind fun n4 =>
    some ((.tuple [(.int .i64 n4), (.int .i64 0)]), r3.2.1, r3.2.2)) := by kernel_rfl

theorem F17_J1_eq (call : YldF → CallF) (Y : YldF) (lf : Nat) (x0 : Int) (x1 : Int) (x2 : Int) (h : AHeap) (nx : Nat) : F17_J1 call Y lf x0 x1 x2 h nx =
    (call Y 35 [(.int .i64 x2), (.int .i64 (wrapA .i64 (x0 - x1)))] h (nx + 18)).bind fun r1 =>
    (asI .i64 r1.1).bind fun n2 =>
    if ((wrapA .i64 (x0 - x1)) : Int) = 0 then none else
    ((call Y 35 [(.int .i64 (wrapA .i64 (x2 + (wrapA .i64 (x1 * (wrapA .i64 (Int.tdiv n2 (wrapA .i64 (x0 - x1))))))))), (.int .i64 (wrapA .i64 (x1 + 1)))] r1.2.1 r1.2.2).bind fun r3 =>
    (asI .i64 r3.1).bind fun n4 =>
    some ((.tuple [(.int .i64 n4), (.int .i64 0)]), r3.2.1, r3.2.2)) := F17_J1_eq' go1 call Y lf x0 x1 x2 h nx

theorem F17_eq' (J : StepF (AV × AHeap × Nat) → StepF (AV × AHeap × Nat)) (n : Nat) (Y : YldF) (x0 : Int) (x1 : Int) (x2 : Int) (h : AHeap) (nx : Nat) : rootJ J Try.prog keepT (callP Try.prog keepT n) Y n 17 [(.int .i64 x0), (.int .i64 x1), (.int .i64 x2)] h nx =
    let h1 := AHeap.put h (nx + 5) (some ⟨[(.int .i64 0), (.int .i64 0)], 2, true⟩)
    (stA h1 (nx + 5) 0 (.agg [(.int .i64 x0), (.int .i64 x1)]) 2).bind fun b2 =>
    let h3 := AHeap.put h1 (nx + 5) (some b2)
    (ldR h3 (nx + 5) 0 2).bind fun l4 =>
    (asAgg 2 (AV.agg l4)).bind fun d5 =>
    (asI .i64 (d5.getD 0 .bad)).bind fun n6 =>
    (asI .i64 (d5.getD 1 .bad)).bind fun n7 =>
    ((callP Try.prog keepT n) Y 33 [(.agg [(.int .i64 n6), (.int .i64 n7)])] h3 (nx + 15)).bind fun r8 =>
    (asB r8.1).bind fun t9 =>
    if (!t9) = true then
    (some ((.tuple [(.int .i64 0), (.int .i64 2)]), r8.2.1, (r8.2.2 + 2)))
    else
    (((callP Try.prog keepT n) Y 34 [(.int .i64 x2)] r8.2.1 r8.2.2).bind fun r10 =>
    (asB r10.1).bind fun t11 =>
    if (!t11) = true then
    (some ((.tuple [(.int .i64 0), (.int .i64 2)]), r10.2.1, (r10.2.2 + 2)))
    else
    (F17_J1' J J (callP Try.prog keepT n) Y n x0 x1 x2 r10.2.1 r10.2.2)) := by kernel_rfl

/-- quickset/geom.Cost -/
theorem F17_eq (n : Nat) (Y : YldF) (x0 : Int) (x1 : Int) (x2 : Int) (h : AHeap) (nx : Nat) : callP Try.prog keepT (n + 1) Y 17 [(.int .i64 x0), (.int .i64 x1), (.int .i64 x2)] h nx =
    let h1 := AHeap.put h (nx + 5) (some ⟨[(.int .i64 0), (.int .i64 0)], 2, true⟩)
    (stA h1 (nx + 5) 0 (.agg [(.int .i64 x0), (.int .i64 x1)]) 2).bind fun b2 =>
    let h3 := AHeap.put h1 (nx + 5) (some b2)
    (ldR h3 (nx + 5) 0 2).bind fun l4 =>
    (asAgg 2 (AV.agg l4)).bind fun d5 =>
    (asI .i64 (d5.getD 0 .bad)).bind fun n6 =>
    (asI .i64 (d5.getD 1 .bad)).bind fun n7 =>
    ((callP Try.prog keepT n) Y 33 [(.agg [(.int .i64 n6), (.int .i64 n7)])] h3 (nx + 15)).bind fun r8 =>
    (asB r8.1).bind fun t9 =>
    if (!t9) = true then
    (some ((.tuple [(.int .i64 0), (.int .i64 2)]), r8.2.1, (r8.2.2 + 2)))
    else
    (((callP Try.prog keepT n) Y 34 [(.int .i64 x2)] r8.2.1 r8.2.2).bind fun r10 =>
    (asB r10.1).bind fun t11 =>
    if (!t11) = true then
    (some ((.tuple [(.int .i64 0), (.int .i64 2)]), r10.2.1, (r10.2.2 + 2)))
    else
    (F17_J1 (callP Try.prog keepT n) Y n x0 x1 x2 r10.2.1 r10.2.2)) := F17_eq' go1 n Y x0 x1 x2 h nx

noncomputable def c18 : Code := (Try.f18.body).getD .skip

noncomputable def r18 : List ResultVar := Try.f18.results.toList

theorem F18_eq' (J : StepF (AV × AHeap × Nat) → StepF (AV × AHeap × Nat)) (n : Nat) (Y : YldF) (x0 : Int) (x1 : Int) (h : AHeap) (nx : Nat) : rootJ J Try.prog keepT (callP Try.prog keepT n) Y n 18 [(.int .i64 x0), (.int .i64 x1)] h nx =
    ((callP Try.prog keepT n) Y 36 [(.int .i64 x0), (.int .i64 x1)] h (nx + 6)).bind fun r1 =>
    (asB r1.1).bind fun t2 =>
    if (!t2) = true then
    (some ((.tuple [(.int .i64 0), (.int .i64 2)]), r1.2.1, (r1.2.2 + 2)))
    else
    (((callP Try.prog keepT n) Y 37 [(.int .i64 x0), (.int .i64 x1)] r1.2.1 (r1.2.2 + 5)).bind fun r3 =>
    (asI .i64 r3.1).bind fun n4 =>
    some ((.tuple [(.int .i64 n4), (.int .i64 0)]), r3.2.1, r3.2.2)) := by kernel_rfl

/-- quickset/comb.Count -/
theorem F18_eq (n : Nat) (Y : YldF) (x0 : Int) (x1 : Int) (h : AHeap) (nx : Nat) : callP Try.prog keepT (n + 1) Y 18 [(.int .i64 x0), (.int .i64 x1)] h nx =
    ((callP Try.prog keepT n) Y 36 [(.int .i64 x0), (.int .i64 x1)] h (nx + 6)).bind fun r1 =>
    (asB r1.1).bind fun t2 =>
    if (!t2) = true then
    (some ((.tuple [(.int .i64 0), (.int .i64 2)]), r1.2.1, (r1.2.2 + 2)))
    else
    (((callP Try.prog keepT n) Y 37 [(.int .i64 x0), (.int .i64 x1)] r1.2.1 (r1.2.2 + 5)).bind fun r3 =>
    (asI .i64 r3.1).bind fun n4 =>
    some ((.tuple [(.int .i64 n4), (.int .i64 0)]), r3.2.1, r3.2.2)) := F18_eq' go1 n Y x0 x1 h nx

noncomputable def c19 : Code := (Try.f19.body).getD .skip

noncomputable def r19 : List ResultVar := Try.f19.results.toList

theorem F19_eq' (J : StepF (AV × AHeap × Nat) → StepF (AV × AHeap × Nat)) (n : Nat) (Y : YldF) (x0a : Option (Nat × Nat)) (x0n : Nat) (x0c : Bool) (x1 : Int) (h : AHeap) (nx : Nat) : rootJ J Try.prog keepT (callP Try.prog keepT n) Y n 19 [(.slice x0a x0n x0c), (.int .i64 x1)] h nx =
    (cutA h x0a x0n x0c 1 none (some (.int .i64 (wrapA .i64 ((if x1 < ((x0n : Nat) : Int) then x1 else ((x0n : Nat) : Int)) - (Int.tmod (if x1 < ((x0n : Nat) : Int) then x1 else ((x0n : Nat) : Int)) 4))))) none).bind fun s1 =>
    (srcS h s1.1 s1.2.1 1).bind fun q2 =>
    (appD h none 0 false 1 1 (nx + 12) q2).bind fun e3 =>
    let h4 := AHeap.puts h e3.sets
    some ((.slice e3.a e3.n e3.c), h4, (nx + 14)) := by kernel_rfl

/-- quickset/quicksetkeep.Words -/
theorem F19_eq (n : Nat) (Y : YldF) (x0a : Option (Nat × Nat)) (x0n : Nat) (x0c : Bool) (x1 : Int) (h : AHeap) (nx : Nat) : callP Try.prog keepT (n + 1) Y 19 [(.slice x0a x0n x0c), (.int .i64 x1)] h nx =
    (cutA h x0a x0n x0c 1 none (some (.int .i64 (wrapA .i64 ((if x1 < ((x0n : Nat) : Int) then x1 else ((x0n : Nat) : Int)) - (Int.tmod (if x1 < ((x0n : Nat) : Int) then x1 else ((x0n : Nat) : Int)) 4))))) none).bind fun s1 =>
    (srcS h s1.1 s1.2.1 1).bind fun q2 =>
    (appD h none 0 false 1 1 (nx + 12) q2).bind fun e3 =>
    let h4 := AHeap.puts h e3.sets
    some ((.slice e3.a e3.n e3.c), h4, (nx + 14)) := F19_eq' go1 n Y x0a x0n x0c x1 h nx

noncomputable def c20 : Code := (Try.f20.body).getD .skip

noncomputable def r20 : List ResultVar := Try.f20.results.toList

theorem F20_eq' (J : StepF (AV × AHeap × Nat) → StepF (AV × AHeap × Nat)) (n : Nat) (Y : YldF) (h : AHeap) (nx : Nat) : rootJ J Try.prog keepT (callP Try.prog keepT n) Y n 20 [] h nx =
    let h1 := AHeap.put h (nx + 1) (some ⟨[(.int .u8 1), (.int .u8 0), (.int .u8 0), (.int .u8 0)], 1, true⟩)
    ((callP Try.prog keepT n) Y 21 [(.slice (some ((nx + 1), 0)) 4 true)] h1 (nx + 9)).bind fun r2 =>
    (asTup 2 r2.1).bind fun d3 =>
    (asAgg 4 (d3.getD 0 .bad)).bind fun d4 =>
    (asI .i64 (d4.getD 0 .bad)).bind fun n5 =>
    (asI .i64 (d4.getD 1 .bad)).bind fun n6 =>
    (asI .i64 (d4.getD 2 .bad)).bind fun n7 =>
    (asI .i64 (d4.getD 3 .bad)).bind fun n8 =>
    (asI .i64 (d3.getD 1 .bad)).bind fun n9 =>
    let h10 := AHeap.put r2.2.1 (nx + 6) (some ⟨[(.int .i64 0), (.int .i64 0), (.int .i64 0), (.int .i64 0)], 4, true⟩)
    (stA h10 (nx + 6) 0 (.agg [(.int .i64 n5), (.int .i64 n6), (.int .i64 n7), (.int .i64 n8)]) 4).bind fun b11 =>
    let h12 := AHeap.put h10 (nx + 6) (some b11)
    if ((n9 : Int) == 0) = true then
    ((ldR h12 (nx + 6) 0 4).bind fun l13 =>
    (asAgg 4 (AV.agg l13)).bind fun d14 =>
    (asI .i64 (d14.getD 0 .bad)).bind fun n15 =>
    (asI .i64 (d14.getD 1 .bad)).bind fun n16 =>
    (asI .i64 (d14.getD 2 .bad)).bind fun n17 =>
    (asI .i64 (d14.getD 3 .bad)).bind fun n18 =>
    some ((.bool (eqCells [(.int .i64 n15), (.int .i64 n16), (.int .i64 n17), (.int .i64 n18)] [(.int .i64 1), (.int .i64 1), (.int .i64 1), (.int .i64 1)])), h12, (r2.2.2 + 8)))
    else
    (some ((.bool false), h12, (r2.2.2 + 8))) := by kernel_rfl

/-- quickset/quicksetkeep.sure -/
theorem F20_eq (n : Nat) (Y : YldF) (h : AHeap) (nx : Nat) : callP Try.prog keepT (n + 1) Y 20 [] h nx =
    let h1 := AHeap.put h (nx + 1) (some ⟨[(.int .u8 1), (.int .u8 0), (.int .u8 0), (.int .u8 0)], 1, true⟩)
    ((callP Try.prog keepT n) Y 21 [(.slice (some ((nx + 1), 0)) 4 true)] h1 (nx + 9)).bind fun r2 =>
    (asTup 2 r2.1).bind fun d3 =>
    (asAgg 4 (d3.getD 0 .bad)).bind fun d4 =>
    (asI .i64 (d4.getD 0 .bad)).bind fun n5 =>
    (asI .i64 (d4.getD 1 .bad)).bind fun n6 =>
    (asI .i64 (d4.getD 2 .bad)).bind fun n7 =>
    (asI .i64 (d4.getD 3 .bad)).bind fun n8 =>
    (asI .i64 (d3.getD 1 .bad)).bind fun n9 =>
    let h10 := AHeap.put r2.2.1 (nx + 6) (some ⟨[(.int .i64 0), (.int .i64 0), (.int .i64 0), (.int .i64 0)], 4, true⟩)
    (stA h10 (nx + 6) 0 (.agg [(.int .i64 n5), (.int .i64 n6), (.int .i64 n7), (.int .i64 n8)]) 4).bind fun b11 =>
    let h12 := AHeap.put h10 (nx + 6) (some b11)
    if ((n9 : Int) == 0) = true then
    ((ldR h12 (nx + 6) 0 4).bind fun l13 =>
    (asAgg 4 (AV.agg l13)).bind fun d14 =>
    (asI .i64 (d14.getD 0 .bad)).bind fun n15 =>
    (asI .i64 (d14.getD 1 .bad)).bind fun n16 =>
    (asI .i64 (d14.getD 2 .bad)).bind fun n17 =>
    (asI .i64 (d14.getD 3 .bad)).bind fun n18 =>
    some ((.bool (eqCells [(.int .i64 n15), (.int .i64 n16), (.int .i64 n17), (.int .i64 n18)] [(.int .i64 1), (.int .i64 1), (.int .i64 1), (.int .i64 1)])), h12, (r2.2.2 + 8)))
    else
    (some ((.bool false), h12, (r2.2.2 + 8))) := F20_eq' go1 n Y h nx

noncomputable def c21 : Code := (Try.f21.body).getD .skip

noncomputable def r21 : List ResultVar := Try.f21.results.toList

theorem F21_eq' (J : StepF (AV × AHeap × Nat) → StepF (AV × AHeap × Nat)) (n : Nat) (Y : YldF) (x0a : Option (Nat × Nat)) (x0n : Nat) (x0c : Bool) (h : AHeap) (nx : Nat) : rootJ J Try.prog keepT (callP Try.prog keepT n) Y n 21 [(.slice x0a x0n x0c)] h nx =
    let h1 := AHeap.put h nx (some ⟨[(.int .i64 0), (.int .i64 0), (.int .i64 0), (.int .i64 0)], 4, true⟩)
    ((callP Try.prog keepT n) Y 24 [(.agg [(.int .i64 0), (.int .i64 0), (.int .i64 0), (.int .i64 0)]), (.slice x0a x0n x0c)] h1 (nx + 9)).bind fun r2 =>
    (asTup 2 r2.1).bind fun d3 =>
    (asAgg 4 (d3.getD 0 .bad)).bind fun d4 =>
    (asI .i64 (d4.getD 0 .bad)).bind fun n5 =>
    (asI .i64 (d4.getD 1 .bad)).bind fun n6 =>
    (asI .i64 (d4.getD 2 .bad)).bind fun n7 =>
    (asI .i64 (d4.getD 3 .bad)).bind fun n8 =>
    (asI .i64 (d3.getD 1 .bad)).bind fun n9 =>
    (stA r2.2.1 nx 0 (.agg [(.int .i64 n5), (.int .i64 n6), (.int .i64 n7), (.int .i64 n8)]) 4).bind fun b10 =>
    let h11 := AHeap.put r2.2.1 nx (some b10)
    (ldR h11 nx 0 4).bind fun l12 =>
    (asAgg 4 (AV.agg l12)).bind fun d13 =>
    (asI .i64 (d13.getD 0 .bad)).bind fun n14 =>
    (asI .i64 (d13.getD 1 .bad)).bind fun n15 =>
    (asI .i64 (d13.getD 2 .bad)).bind fun n16 =>
    (asI .i64 (d13.getD 3 .bad)).bind fun n17 =>
    some ((.tuple [(.agg [(.int .i64 n14), (.int .i64 n15), (.int .i64 n16), (.int .i64 n17)]), (.int .i64 n9)]), h11, r2.2.2) := by kernel_rfl

/-- quickset/flet.Of -/
theorem F21_eq (n : Nat) (Y : YldF) (x0a : Option (Nat × Nat)) (x0n : Nat) (x0c : Bool) (h : AHeap) (nx : Nat) : callP Try.prog keepT (n + 1) Y 21 [(.slice x0a x0n x0c)] h nx =
    let h1 := AHeap.put h nx (some ⟨[(.int .i64 0), (.int .i64 0), (.int .i64 0), (.int .i64 0)], 4, true⟩)
    ((callP Try.prog keepT n) Y 24 [(.agg [(.int .i64 0), (.int .i64 0), (.int .i64 0), (.int .i64 0)]), (.slice x0a x0n x0c)] h1 (nx + 9)).bind fun r2 =>
    (asTup 2 r2.1).bind fun d3 =>
    (asAgg 4 (d3.getD 0 .bad)).bind fun d4 =>
    (asI .i64 (d4.getD 0 .bad)).bind fun n5 =>
    (asI .i64 (d4.getD 1 .bad)).bind fun n6 =>
    (asI .i64 (d4.getD 2 .bad)).bind fun n7 =>
    (asI .i64 (d4.getD 3 .bad)).bind fun n8 =>
    (asI .i64 (d3.getD 1 .bad)).bind fun n9 =>
    (stA r2.2.1 nx 0 (.agg [(.int .i64 n5), (.int .i64 n6), (.int .i64 n7), (.int .i64 n8)]) 4).bind fun b10 =>
    let h11 := AHeap.put r2.2.1 nx (some b10)
    (ldR h11 nx 0 4).bind fun l12 =>
    (asAgg 4 (AV.agg l12)).bind fun d13 =>
    (asI .i64 (d13.getD 0 .bad)).bind fun n14 =>
    (asI .i64 (d13.getD 1 .bad)).bind fun n15 =>
    (asI .i64 (d13.getD 2 .bad)).bind fun n16 =>
    (asI .i64 (d13.getD 3 .bad)).bind fun n17 =>
    some ((.tuple [(.agg [(.int .i64 n14), (.int .i64 n15), (.int .i64 n16), (.int .i64 n17)]), (.int .i64 n9)]), h11, r2.2.2) := F21_eq' go1 n Y x0a x0n x0c h nx

noncomputable def c22 : Code := (Try.f22.body).getD .skip

noncomputable def r22 : List ResultVar := Try.f22.results.toList

noncomputable def F22_L1' (W J : StepF (AV × AHeap × Nat) → StepF (AV × AHeap × Nat)) (call : YldF → CallF) (Y : YldF) (lf : Nat) (n0 : Nat) (x0a : Option (Nat × Nat)) (x0n : Nat) (x0c : Bool) (x1a : Option (Nat × Nat)) (x1n : Nat) (x1c : Bool) (x5 : Int) (h : AHeap) (nx : Nat) : Option (AV × AHeap × Nat) :=
  goK W J drawK (machOf Try.prog) call Y (keepT 22) lf c22 [1, 1, 0, 1, 0, 9] [n0] (retK (machOf Try.prog) ⟨c22, 26, r22, keepT 22⟩) ⟨26, mkL [(0, (.slice x0a x0n x0c)), (1, (.slice x1a x1n x1c)), (5, (.int .i64 x5))]⟩ h nx

noncomputable def F22_L1 (call : YldF → CallF) (Y : YldF) (lf : Nat) (n0 : Nat) (x0a : Option (Nat × Nat)) (x0n : Nat) (x0c : Bool) (x1a : Option (Nat × Nat)) (x1n : Nat) (x1c : Bool) (x5 : Int) (h : AHeap) (nx : Nat) : Option (AV × AHeap × Nat) := F22_L1' go1 go1 call Y lf n0 x0a x0n x0c x1a x1n x1c x5 h nx

theorem F22_L1_eq' (J : StepF (AV × AHeap × Nat) → StepF (AV × AHeap × Nat)) (call : YldF → CallF) (Y : YldF) (lf : Nat) (n0 : Nat) (x0a : Option (Nat × Nat)) (x0n : Nat) (x0c : Bool) (x1a : Option (Nat × Nat)) (x1n : Nat) (x1c : Bool) (x5 : Int) (h : AHeap) (nx : Nat) : F22_L1' go1 J call Y lf (n0 + 1) x0a x0n x0c x1a x1n x1c x5 h nx =
    if (decide ((x5 : Int) < ((x0n : Nat) : Int))) = true then
    ((x0a).bind fun p1 =>
    if 0 ≤ (x5 : Int) ∧ x5 < ((x0n : Nat) : Int) then
    ((ldA h p1.1 (p1.2 + Int.toNat x5 * 1)).bind fun v2 =>
    (asI .u8 v2).bind fun n3 =>
    (x1a).bind fun p4 =>
    if 0 ≤ (x5 : Int) ∧ x5 < ((x1n : Nat) : Int) then
    ((ldA h p4.1 (p4.2 + Int.toNat x5 * 1)).bind fun v5 =>
    (asI .u8 v5).bind fun n6 =>
    if ((n3 : Int) != n6) = true then
    (some ((.bool false), h, (nx + 14)))
    else
    (F22_L1' J J call Y lf n0 x0a x0n x0c x1a x1n x1c (wrapA .i64 (x5 + 1)) h (nx + 16)))
    else none)
    else none)
    else
    (some ((.bool true), h, (nx + 5))) := by kernel_rfl

theorem F22_L1_eq (call : YldF → CallF) (Y : YldF) (lf : Nat) (n0 : Nat) (x0a : Option (Nat × Nat)) (x0n : Nat) (x0c : Bool) (x1a : Option (Nat × Nat)) (x1n : Nat) (x1c : Bool) (x5 : Int) (h : AHeap) (nx : Nat) : F22_L1 call Y lf (n0 + 1) x0a x0n x0c x1a x1n x1c x5 h nx =
    if (decide ((x5 : Int) < ((x0n : Nat) : Int))) = true then
    ((x0a).bind fun p1 =>
    if 0 ≤ (x5 : Int) ∧ x5 < ((x0n : Nat) : Int) then
    ((ldA h p1.1 (p1.2 + Int.toNat x5 * 1)).bind fun v2 =>
    (asI .u8 v2).bind fun n3 =>
    (x1a).bind fun p4 =>
    if 0 ≤ (x5 : Int) ∧ x5 < ((x1n : Nat) : Int) then
    ((ldA h p4.1 (p4.2 + Int.toNat x5 * 1)).bind fun v5 =>
    (asI .u8 v5).bind fun n6 =>
    if ((n3 : Int) != n6) = true then
    (some ((.bool false), h, (nx + 14)))
    else
    (F22_L1 call Y lf n0 x0a x0n x0c x1a x1n x1c (wrapA .i64 (x5 + 1)) h (nx + 16)))
    else none)
    else none)
    else
    (some ((.bool true), h, (nx + 5))) := F22_L1_eq' go1 call Y lf n0 x0a x0n x0c x1a x1n x1c x5 h nx

theorem F22_L1_zero (call : YldF → CallF) (Y : YldF) (lf : Nat) (x0a : Option (Nat × Nat)) (x0n : Nat) (x0c : Bool) (x1a : Option (Nat × Nat)) (x1n : Nat) (x1c : Bool) (x5 : Int) (h : AHeap) (nx : Nat) : F22_L1 call Y lf 0 x0a x0n x0c x1a x1n x1c x5 h nx = none := by kernel_rfl

theorem F22_eq' (J : StepF (AV × AHeap × Nat) → StepF (AV × AHeap × Nat)) (n : Nat) (Y : YldF) (x0a : Option (Nat × Nat)) (x0n : Nat) (x0c : Bool) (x1a : Option (Nat × Nat)) (x1n : Nat) (x1c : Bool) (h : AHeap) (nx : Nat) : rootJ J Try.prog keepT (callP Try.prog keepT n) Y n 22 [(.slice x0a x0n x0c), (.slice x1a x1n x1c)] h nx =
    if ((((x0n : Nat) : Int) : Int) != ((x1n : Nat) : Int)) = true then
    (some ((.bool false), h, (nx + 7)))
    else
    (F22_L1' J J (callP Try.prog keepT n) Y n n x0a x0n x0c x1a x1n x1c 0 h (nx + 7)) := by kernel_rfl

/-- quickset/quicksetkeep.sameBytes -/
theorem F22_eq (n : Nat) (Y : YldF) (x0a : Option (Nat × Nat)) (x0n : Nat) (x0c : Bool) (x1a : Option (Nat × Nat)) (x1n : Nat) (x1c : Bool) (h : AHeap) (nx : Nat) : callP Try.prog keepT (n + 1) Y 22 [(.slice x0a x0n x0c), (.slice x1a x1n x1c)] h nx =
    if ((((x0n : Nat) : Int) : Int) != ((x1n : Nat) : Int)) = true then
    (some ((.bool false), h, (nx + 7)))
    else
    (F22_L1 (callP Try.prog keepT n) Y n n x0a x0n x0c x1a x1n x1c 0 h (nx + 7)) := F22_eq' go1 n Y x0a x0n x0c x1a x1n x1c h nx

noncomputable def c23 : Code := (Try.f23.body).getD .skip

noncomputable def r23 : List ResultVar := Try.f23.results.toList

noncomputable def F23_J1' (W J : StepF (AV × AHeap × Nat) → StepF (AV × AHeap × Nat)) (call : YldF → CallF) (Y : YldF) (lf : Nat) (x0 : Int) (x1 : Int) (x2 : Int) (x3 : Int) (h : AHeap) (nx : Nat) : Option (AV × AHeap × Nat) :=
  goK W J drawK (machOf Try.prog) call Y (keepT 23) lf c23 [1, 1, 1] [] (retK (machOf Try.prog) ⟨c23, 85, r23, keepT 23⟩) ⟨85, mkL [(0, (.int .i64 x0)), (1, (.int .i64 x1)), (2, (.int .i64 x2)), (3, (.int .i64 x3))]⟩ h nx

noncomputable def F23_J1 (call : YldF → CallF) (Y : YldF) (lf : Nat) (x0 : Int) (x1 : Int) (x2 : Int) (x3 : Int) (h : AHeap) (nx : Nat) : Option (AV × AHeap × Nat) := F23_J1' go1 go1 call Y lf x0 x1 x2 x3 h nx

noncomputable def F23_J2' (W J : StepF (AV × AHeap × Nat) → StepF (AV × AHeap × Nat)) (call : YldF → CallF) (Y : YldF) (lf : Nat) (x0 : Int) (x1 : Int) (x2 : Int) (x11 : Int) (x13 : Int) (h : AHeap) (nx : Nat) : Option (AV × AHeap × Nat) :=
  goK W J drawK (machOf Try.prog) call Y (keepT 23) lf c23 [1, 1, 1, 1, 1, 1] [] (retK (machOf Try.prog) ⟨c23, 85, r23, keepT 23⟩) ⟨85, mkL [(0, (.int .i64 x0)), (1, (.int .i64 x1)), (2, (.int .i64 x2)), (11, (.int .i64 x11)), (13, (.int .i64 x13))]⟩ h nx

noncomputable def F23_J2 (call : YldF → CallF) (Y : YldF) (lf : Nat) (x0 : Int) (x1 : Int) (x2 : Int) (x11 : Int) (x13 : Int) (h : AHeap) (nx : Nat) : Option (AV × AHeap × Nat) := F23_J2' go1 go1 call Y lf x0 x1 x2 x11 x13 h nx

noncomputable def F23_J3' (W J : StepF (AV × AHeap × Nat) → StepF (AV × AHeap × Nat)) (call : YldF → CallF) (Y : YldF) (lf : Nat) (x0 : Int) (x1 : Int) (x2 : Int) (x11 : Int) (x13 : Int) (x14 : Int) (h : AHeap) (nx : Nat) : Option (AV × AHeap × Nat) :=
  goK W J drawK (machOf Try.prog) call Y (keepT 23) lf c23 [1, 1, 1, 1, 1, 1, 1, 1] [] (retK (machOf Try.prog) ⟨c23, 85, r23, keepT 23⟩) ⟨85, mkL [(0, (.int .i64 x0)), (1, (.int .i64 x1)), (2, (.int .i64 x2)), (11, (.int .i64 x11)), (13, (.int .i64 x13)), (14, (.int .i64 x14))]⟩ h nx

noncomputable def F23_J3 (call : YldF → CallF) (Y : YldF) (lf : Nat) (x0 : Int) (x1 : Int) (x2 : Int) (x11 : Int) (x13 : Int) (x14 : Int) (h : AHeap) (nx : Nat) : Option (AV × AHeap × Nat) := F23_J3' go1 go1 call Y lf x0 x1 x2 x11 x13 x14 h nx

noncomputable def F23_L4' (W J : StepF (AV × AHeap × Nat) → StepF (AV × AHeap × Nat)) (call : YldF → CallF) (Y : YldF) (lf : Nat) (n0 : Nat) (x0 : Int) (x1 : Int) (x2 : Int) (x11 : Int) (x13 : Int) (x15a : Option (Nat × Nat)) (x15n : Nat) (x15c : Bool) (x53 : Int) (x54 : Int) (h : AHeap) (nx : Nat) : Option (AV × AHeap × Nat) :=
  goK W J drawK (machOf Try.prog) call Y (keepT 23) lf c23 [1, 1, 1, 1, 1, 1, 1, 1, 1, 0, 1, 0, 9] [n0] (retK (machOf Try.prog) ⟨c23, 85, r23, keepT 23⟩) ⟨85, mkL [(0, (.int .i64 x0)), (1, (.int .i64 x1)), (2, (.int .i64 x2)), (11, (.int .i64 x11)), (13, (.int .i64 x13)), (15, (.slice x15a x15n x15c)), (53, (.int .i64 x53)), (54, (.int .i64 x54))]⟩ h nx

noncomputable def F23_L4 (call : YldF → CallF) (Y : YldF) (lf : Nat) (n0 : Nat) (x0 : Int) (x1 : Int) (x2 : Int) (x11 : Int) (x13 : Int) (x15a : Option (Nat × Nat)) (x15n : Nat) (x15c : Bool) (x53 : Int) (x54 : Int) (h : AHeap) (nx : Nat) : Option (AV × AHeap × Nat) := F23_L4' go1 go1 call Y lf n0 x0 x1 x2 x11 x13 x15a x15n x15c x53 x54 h nx

noncomputable def F23_J5' (W J : StepF (AV × AHeap × Nat) → StepF (AV × AHeap × Nat)) (call : YldF → CallF) (Y : YldF) (lf : Nat) (n0 : Nat) (x0 : Int) (x1 : Int) (x2 : Int) (x11 : Int) (x13 : Int) (x15a : Option (Nat × Nat)) (x15n : Nat) (x15c : Bool) (x17 : Option (Nat × Nat)) (x53 : Int) (x54 : Int) (h : AHeap) (nx : Nat) : Option (AV × AHeap × Nat) :=
  goK W J drawK (machOf Try.prog) call Y (keepT 23) lf c23 [1, 1, 1, 1, 1, 1, 1, 1, 1, 0, 1, 0, 0, 1, 1, 0, 0, 1, 1, 1] [n0] (retK (machOf Try.prog) ⟨c23, 85, r23, keepT 23⟩) ⟨85, mkL [(0, (.int .i64 x0)), (1, (.int .i64 x1)), (2, (.int .i64 x2)), (11, (.int .i64 x11)), (13, (.int .i64 x13)), (15, (.slice x15a x15n x15c)), (17, (.ptr x17)), (53, (.int .i64 x53)), (54, (.int .i64 x54))]⟩ h nx

noncomputable def F23_J5 (call : YldF → CallF) (Y : YldF) (lf : Nat) (n0 : Nat) (x0 : Int) (x1 : Int) (x2 : Int) (x11 : Int) (x13 : Int) (x15a : Option (Nat × Nat)) (x15n : Nat) (x15c : Bool) (x17 : Option (Nat × Nat)) (x53 : Int) (x54 : Int) (h : AHeap) (nx : Nat) : Option (AV × AHeap × Nat) := F23_J5' go1 go1 call Y lf n0 x0 x1 x2 x11 x13 x15a x15n x15c x17 x53 x54 h nx

theorem F23_J1_eq' (J : StepF (AV × AHeap × Nat) → StepF (AV × AHeap × Nat)) (call : YldF → CallF) (Y : YldF) (lf : Nat) (x0 : Int) (x1 : Int) (x2 : Int) (x3 : Int) (h : AHeap) (nx : Nat) : F23_J1' go1 J call Y lf x0 x1 x2 x3 h nx =
    if ((wrapA .i64 (x0 - x1)) : Int) = 0 then none else
    (if ((wrapA .i64 (x0 - x1)) : Int) = 0 then none else
    (if (decide (((Int.tmod x3 (wrapA .i64 (x0 - x1))) : Int) > 0)) = true then
    (F23_J2' J J call Y lf x0 x1 x2 (wrapA .i64 (Int.tdiv x3 (wrapA .i64 (x0 - x1)))) (wrapA .i64 ((Int.tmod x3 (wrapA .i64 (x0 - x1))) + x1)) h (nx + 19))
    else
    (F23_J2' J J call Y lf x0 x1 x2 (wrapA .i64 (Int.tdiv x3 (wrapA .i64 (x0 - x1)))) 0 h (nx + 15)))) := by kernel_rfl

theorem F23_J1_eq (call : YldF → CallF) (Y : YldF) (lf : Nat) (x0 : Int) (x1 : Int) (x2 : Int) (x3 : Int) (h : AHeap) (nx : Nat) : F23_J1 call Y lf x0 x1 x2 x3 h nx =
    if ((wrapA .i64 (x0 - x1)) : Int) = 0 then none else
    (if ((wrapA .i64 (x0 - x1)) : Int) = 0 then none else
    (if (decide (((Int.tmod x3 (wrapA .i64 (x0 - x1))) : Int) > 0)) = true then
    (F23_J2 call Y lf x0 x1 x2 (wrapA .i64 (Int.tdiv x3 (wrapA .i64 (x0 - x1)))) (wrapA .i64 ((Int.tmod x3 (wrapA .i64 (x0 - x1))) + x1)) h (nx + 19))
    else
    (F23_J2 call Y lf x0 x1 x2 (wrapA .i64 (Int.tdiv x3 (wrapA .i64 (x0 - x1)))) 0 h (nx + 15)))) := F23_J1_eq' go1 call Y lf x0 x1 x2 x3 h nx

theorem F23_J2_eq' (J : StepF (AV × AHeap × Nat) → StepF (AV × AHeap × Nat)) (call : YldF → CallF) (Y : YldF) (lf : Nat) (x0 : Int) (x1 : Int) (x2 : Int) (x11 : Int) (x13 : Int) (h : AHeap) (nx : Nat) : F23_J2' go1 J call Y lf x0 x1 x2 x11 x13 h nx =
    if ((x11 : Int) == 0) = true then
    (F23_J3' J J call Y lf x0 x1 x2 x11 x13 x13 h (nx + 6))
    else
    (F23_J3' J J call Y lf x0 x1 x2 x11 x13 x0 h (nx + 4)) := by kernel_rfl

theorem F23_J2_eq (call : YldF → CallF) (Y : YldF) (lf : Nat) (x0 : Int) (x1 : Int) (x2 : Int) (x11 : Int) (x13 : Int) (h : AHeap) (nx : Nat) : F23_J2 call Y lf x0 x1 x2 x11 x13 h nx =
    if ((x11 : Int) == 0) = true then
    (F23_J3 call Y lf x0 x1 x2 x11 x13 x13 h (nx + 6))
    else
    (F23_J3 call Y lf x0 x1 x2 x11 x13 x0 h (nx + 4)) := F23_J2_eq' go1 call Y lf x0 x1 x2 x11 x13 h nx

theorem F23_J3_eq' (J : StepF (AV × AHeap × Nat) → StepF (AV × AHeap × Nat)) (call : YldF → CallF) (Y : YldF) (lf : Nat) (x0 : Int) (x1 : Int) (x2 : Int) (x11 : Int) (x13 : Int) (x14 : Int) (h : AHeap) (nx : Nat) : F23_J3' go1 J call Y lf x0 x1 x2 x11 x13 x14 h nx =
    F23_L4' J J call Y lf lf x0 x1 x2 x11 x13 none 0 false x14 0 h (nx + 3) := by kernel_rfl

theorem F23_J3_eq (call : YldF → CallF) (Y : YldF) (lf : Nat) (x0 : Int) (x1 : Int) (x2 : Int) (x11 : Int) (x13 : Int) (x14 : Int) (h : AHeap) (nx : Nat) : F23_J3 call Y lf x0 x1 x2 x11 x13 x14 h nx =
    F23_L4 call Y lf lf x0 x1 x2 x11 x13 none 0 false x14 0 h (nx + 3) := F23_J3_eq' go1 call Y lf x0 x1 x2 x11 x13 x14 h nx

theorem F23_L4_eq' (J : StepF (AV × AHeap × Nat) → StepF (AV × AHeap × Nat)) (call : YldF → CallF) (Y : YldF) (lf : Nat) (n0 : Nat) (x0 : Int) (x1 : Int) (x2 : Int) (x11 : Int) (x13 : Int) (x15a : Option (Nat × Nat)) (x15n : Nat) (x15c : Bool) (x53 : Int) (x54 : Int) (h : AHeap) (nx : Nat) : F23_L4' go1 J call Y lf (n0 + 1) x0 x1 x2 x11 x13 x15a x15n x15c x53 x54 h nx =
    if (decide ((x54 : Int) < x53)) = true then
    (if (x0 : Int) = 0 then none else
    (if (x0 : Int) = 0 then none else
    (let h1 := AHeap.put h (nx + 18) (some ⟨[(.int .i64 0), (.int .i64 0), (.int .i64 0), (.bool false)], 4, true⟩)
    (stA h1 (nx + 18) 0 (.agg [(.int .i64 (Int.tmod (wrapA .i64 (x2 + x54)) x0)), (.int .i64 (wrapA .i64 (Int.tdiv (wrapA .i64 (x2 + x54)) x0))), (.int .i64 x11), (.bool (decide ((x54 : Int) < x1)))]) 4).bind fun b2 =>
    let h3 := AHeap.put h1 (nx + 18) (some b2)
    if (decide ((x54 : Int) < x13)) = true then
    ((ldA h3 (nx + 18) 2).bind fun v4 =>
    (asI .i64 v4).bind fun n5 =>
    (stA h3 (nx + 18) 2 (.int .i64 (wrapA .i64 (n5 + 1))) 1).bind fun b6 =>
    let h7 := AHeap.put h3 (nx + 18) (some b6)
    F23_J5' J J call Y lf n0 x0 x1 x2 x11 x13 x15a x15n x15c (some ((nx + 18), 0)) x53 x54 h7 (nx + 28))
    else
    (F23_J5' J J call Y lf n0 x0 x1 x2 x11 x13 x15a x15n x15c (some ((nx + 18), 0)) x53 x54 h3 (nx + 23)))))
    else
    (some ((.tuple [(.slice x15a x15n x15c), (.int .i64 0)]), h, (nx + 4))) := by kernel_rfl

theorem F23_L4_eq (call : YldF → CallF) (Y : YldF) (lf : Nat) (n0 : Nat) (x0 : Int) (x1 : Int) (x2 : Int) (x11 : Int) (x13 : Int) (x15a : Option (Nat × Nat)) (x15n : Nat) (x15c : Bool) (x53 : Int) (x54 : Int) (h : AHeap) (nx : Nat) : F23_L4 call Y lf (n0 + 1) x0 x1 x2 x11 x13 x15a x15n x15c x53 x54 h nx =
    if (decide ((x54 : Int) < x53)) = true then
    (if (x0 : Int) = 0 then none else
    (if (x0 : Int) = 0 then none else
    (let h1 := AHeap.put h (nx + 18) (some ⟨[(.int .i64 0), (.int .i64 0), (.int .i64 0), (.bool false)], 4, true⟩)
    (stA h1 (nx + 18) 0 (.agg [(.int .i64 (Int.tmod (wrapA .i64 (x2 + x54)) x0)), (.int .i64 (wrapA .i64 (Int.tdiv (wrapA .i64 (x2 + x54)) x0))), (.int .i64 x11), (.bool (decide ((x54 : Int) < x1)))]) 4).bind fun b2 =>
    let h3 := AHeap.put h1 (nx + 18) (some b2)
    if (decide ((x54 : Int) < x13)) = true then
    ((ldA h3 (nx + 18) 2).bind fun v4 =>
    (asI .i64 v4).bind fun n5 =>
    (stA h3 (nx + 18) 2 (.int .i64 (wrapA .i64 (n5 + 1))) 1).bind fun b6 =>
    let h7 := AHeap.put h3 (nx + 18) (some b6)
    F23_J5 call Y lf n0 x0 x1 x2 x11 x13 x15a x15n x15c (some ((nx + 18), 0)) x53 x54 h7 (nx + 28))
    else
    (F23_J5 call Y lf n0 x0 x1 x2 x11 x13 x15a x15n x15c (some ((nx + 18), 0)) x53 x54 h3 (nx + 23)))))
    else
    (some ((.tuple [(.slice x15a x15n x15c), (.int .i64 0)]), h, (nx + 4))) := F23_L4_eq' go1 call Y lf n0 x0 x1 x2 x11 x13 x15a x15n x15c x53 x54 h nx

theorem F23_L4_zero (call : YldF → CallF) (Y : YldF) (lf : Nat) (x0 : Int) (x1 : Int) (x2 : Int) (x11 : Int) (x13 : Int) (x15a : Option (Nat × Nat)) (x15n : Nat) (x15c : Bool) (x53 : Int) (x54 : Int) (h : AHeap) (nx : Nat) : F23_L4 call Y lf 0 x0 x1 x2 x11 x13 x15a x15n x15c x53 x54 h nx = none := by kernel_rfl

theorem F23_J5_eq' (J : StepF (AV × AHeap × Nat) → StepF (AV × AHeap × Nat)) (call : YldF → CallF) (Y : YldF) (lf : Nat) (n0 : Nat) (x0 : Int) (x1 : Int) (x2 : Int) (x11 : Int) (x13 : Int) (x15a : Option (Nat × Nat)) (x15n : Nat) (x15c : Bool) (x17 : Option (Nat × Nat)) (x53 : Int) (x54 : Int) (h : AHeap) (nx : Nat) : F23_J5' go1 J call Y lf n0 x0 x1 x2 x11 x13 x15a x15n x15c x17 x53 x54 h nx =
    (x17).bind fun p1 =>
    (ldR h p1.1 p1.2 4).bind fun l2 =>
    (asAgg 4 (AV.agg l2)).bind fun d3 =>
    (asI .i64 (d3.getD 0 .bad)).bind fun n4 =>
    (asI .i64 (d3.getD 1 .bad)).bind fun n5 =>
    (asI .i64 (d3.getD 2 .bad)).bind fun n6 =>
    (asB (d3.getD 3 .bad)).bind fun t7 =>
    let h8 := AHeap.put h (nx + 2) (some ⟨[(.int .i64 n4), (.int .i64 n5), (.int .i64 n6), (.bool t7)], 4, true⟩)
    (srcS h8 (some ((nx + 2), 0)) 1 4).bind fun q9 =>
    (appD h8 x15a x15n x15c 4 32 (nx + 3) q9).bind fun e10 =>
    let h11 := AHeap.puts h8 e10.sets
    F23_L4' J J call Y lf n0 x0 x1 x2 x11 x13 e10.a e10.n e10.c x53 (wrapA .i64 (x54 + 1)) h11 (nx + 7) := by kernel_rfl

theorem F23_J5_eq (call : YldF → CallF) (Y : YldF) (lf : Nat) (n0 : Nat) (x0 : Int) (x1 : Int) (x2 : Int) (x11 : Int) (x13 : Int) (x15a : Option (Nat × Nat)) (x15n : Nat) (x15c : Bool) (x17 : Option (Nat × Nat)) (x53 : Int) (x54 : Int) (h : AHeap) (nx : Nat) : F23_J5 call Y lf n0 x0 x1 x2 x11 x13 x15a x15n x15c x17 x53 x54 h nx =
    (x17).bind fun p1 =>
    (ldR h p1.1 p1.2 4).bind fun l2 =>
    (asAgg 4 (AV.agg l2)).bind fun d3 =>
    (asI .i64 (d3.getD 0 .bad)).bind fun n4 =>
    (asI .i64 (d3.getD 1 .bad)).bind fun n5 =>
    (asI .i64 (d3.getD 2 .bad)).bind fun n6 =>
    (asB (d3.getD 3 .bad)).bind fun t7 =>
    let h8 := AHeap.put h (nx + 2) (some ⟨[(.int .i64 n4), (.int .i64 n5), (.int .i64 n6), (.bool t7)], 4, true⟩)
    (srcS h8 (some ((nx + 2), 0)) 1 4).bind fun q9 =>
    (appD h8 x15a x15n x15c 4 32 (nx + 3) q9).bind fun e10 =>
    let h11 := AHeap.puts h8 e10.sets
    F23_L4 call Y lf n0 x0 x1 x2 x11 x13 e10.a e10.n e10.c x53 (wrapA .i64 (x54 + 1)) h11 (nx + 7) := F23_J5_eq' go1 call Y lf n0 x0 x1 x2 x11 x13 x15a x15n x15c x17 x53 x54 h nx

theorem F23_eq' (J : StepF (AV × AHeap × Nat) → StepF (AV × AHeap × Nat)) (n : Nat) (Y : YldF) (x0 : Int) (x1 : Int) (x2 : Int) (x3 : Int) (h : AHeap) (nx : Nat) : rootJ J Try.prog keepT (callP Try.prog keepT n) Y n 23 [(.int .i64 x0), (.int .i64 x1), (.int .i64 x2), (.int .i64 x3)] h nx =
    let h1 := AHeap.put h (nx + 5) (some ⟨[(.int .i64 0), (.int .i64 0)], 2, true⟩)
    (stA h1 (nx + 5) 0 (.agg [(.int .i64 x0), (.int .i64 x1)]) 2).bind fun b2 =>
    let h3 := AHeap.put h1 (nx + 5) (some b2)
    (ldR h3 (nx + 5) 0 2).bind fun l4 =>
    (asAgg 2 (AV.agg l4)).bind fun d5 =>
    (asI .i64 (d5.getD 0 .bad)).bind fun n6 =>
    (asI .i64 (d5.getD 1 .bad)).bind fun n7 =>
    ((callP Try.prog keepT n) Y 33 [(.agg [(.int .i64 n6), (.int .i64 n7)])] h3 (nx + 20)).bind fun r8 =>
    (asB r8.1).bind fun t9 =>
    if (!t9) = true then
    (some ((.tuple [(.slice none 0 false), (.int .i64 2)]), r8.2.1, (r8.2.2 + 2)))
    else
    (((callP Try.prog keepT n) Y 34 [(.int .i64 x3)] r8.2.1 r8.2.2).bind fun r10 =>
    (asB r10.1).bind fun t11 =>
    if (!t11) = true then
    (some ((.tuple [(.slice none 0 false), (.int .i64 2)]), r10.2.1, (r10.2.2 + 2)))
    else
    (((callP Try.prog keepT n) Y 32 [(.int .i64 x2)] r10.2.1 r10.2.2).bind fun r12 =>
    (asB r12.1).bind fun t13 =>
    if (!t13) = true then
    (some ((.tuple [(.slice none 0 false), (.int .i64 2)]), r12.2.1, (r12.2.2 + 2)))
    else
    (F23_J1' J J (callP Try.prog keepT n) Y n x0 x1 x2 x3 r12.2.1 r12.2.2))) := by kernel_rfl

/-- quickset/geom.Columns -/
theorem F23_eq (n : Nat) (Y : YldF) (x0 : Int) (x1 : Int) (x2 : Int) (x3 : Int) (h : AHeap) (nx : Nat) : callP Try.prog keepT (n + 1) Y 23 [(.int .i64 x0), (.int .i64 x1), (.int .i64 x2), (.int .i64 x3)] h nx =
    let h1 := AHeap.put h (nx + 5) (some ⟨[(.int .i64 0), (.int .i64 0)], 2, true⟩)
    (stA h1 (nx + 5) 0 (.agg [(.int .i64 x0), (.int .i64 x1)]) 2).bind fun b2 =>
    let h3 := AHeap.put h1 (nx + 5) (some b2)
    (ldR h3 (nx + 5) 0 2).bind fun l4 =>
    (asAgg 2 (AV.agg l4)).bind fun d5 =>
    (asI .i64 (d5.getD 0 .bad)).bind fun n6 =>
    (asI .i64 (d5.getD 1 .bad)).bind fun n7 =>
    ((callP Try.prog keepT n) Y 33 [(.agg [(.int .i64 n6), (.int .i64 n7)])] h3 (nx + 20)).bind fun r8 =>
    (asB r8.1).bind fun t9 =>
    if (!t9) = true then
    (some ((.tuple [(.slice none 0 false), (.int .i64 2)]), r8.2.1, (r8.2.2 + 2)))
    else
    (((callP Try.prog keepT n) Y 34 [(.int .i64 x3)] r8.2.1 r8.2.2).bind fun r10 =>
    (asB r10.1).bind fun t11 =>
    if (!t11) = true then
    (some ((.tuple [(.slice none 0 false), (.int .i64 2)]), r10.2.1, (r10.2.2 + 2)))
    else
    (((callP Try.prog keepT n) Y 32 [(.int .i64 x2)] r10.2.1 r10.2.2).bind fun r12 =>
    (asB r12.1).bind fun t13 =>
    if (!t13) = true then
    (some ((.tuple [(.slice none 0 false), (.int .i64 2)]), r12.2.1, (r12.2.2 + 2)))
    else
    (F23_J1 (callP Try.prog keepT n) Y n x0 x1 x2 x3 r12.2.1 r12.2.2))) := F23_eq' go1 n Y x0 x1 x2 x3 h nx

noncomputable def c24 : Code := (Try.f24.body).getD .skip

noncomputable def r24 : List ResultVar := Try.f24.results.toList

noncomputable def F24_L1' (W J : StepF (AV × AHeap × Nat) → StepF (AV × AHeap × Nat)) (call : YldF → CallF) (Y : YldF) (lf : Nat) (n0 : Nat) (x1a : Option (Nat × Nat)) (x1n : Nat) (x1c : Bool) (x4 : Option (Nat × Nat)) (x6 : Option (Nat × Nat)) (h : AHeap) (nx : Nat) : Option (AV × AHeap × Nat) :=
  goK W J drawK (machOf Try.prog) call Y (keepT 24) lf c24 [1, 1, 1, 0, 0, 9] [n0] (retK (machOf Try.prog) ⟨c24, 45, r24, keepT 24⟩) ⟨45, mkL [(1, (.slice x1a x1n x1c)), (4, (.ptr x4)), (6, (.ptr x6))]⟩ h nx

noncomputable def F24_L1 (call : YldF → CallF) (Y : YldF) (lf : Nat) (n0 : Nat) (x1a : Option (Nat × Nat)) (x1n : Nat) (x1c : Bool) (x4 : Option (Nat × Nat)) (x6 : Option (Nat × Nat)) (h : AHeap) (nx : Nat) : Option (AV × AHeap × Nat) := F24_L1' go1 go1 call Y lf n0 x1a x1n x1c x4 x6 h nx

theorem F24_L1_eq' (J : StepF (AV × AHeap × Nat) → StepF (AV × AHeap × Nat)) (call : YldF → CallF) (Y : YldF) (lf : Nat) (n0 : Nat) (x1a : Option (Nat × Nat)) (x1n : Nat) (x1c : Bool) (x4 : Option (Nat × Nat)) (x6 : Option (Nat × Nat)) (h : AHeap) (nx : Nat) : F24_L1' go1 J call Y lf (n0 + 1) x1a x1n x1c x4 x6 h nx =
    if (decide ((((x1n : Nat) : Int) : Int) > 0)) = true then
    ((x6).bind fun p1 =>
    (ldR h p1.1 p1.2 4).bind fun l2 =>
    (x1a).bind fun p3 =>
    if 0 ≤ (0 : Int) ∧ 0 < ((x1n : Nat) : Int) then
    ((ldA h p3.1 (p3.2 + Int.toNat 0 * 1)).bind fun v4 =>
    (asI .u8 v4).bind fun n5 =>
    (x1a).bind fun p6 =>
    if 0 ≤ (1 : Int) ∧ 1 < ((x1n : Nat) : Int) then
    ((ldA h p6.1 (p6.2 + Int.toNat 1 * 1)).bind fun v7 =>
    (asI .u8 v7).bind fun n8 =>
    (x1a).bind fun p9 =>
    if 0 ≤ (2 : Int) ∧ 2 < ((x1n : Nat) : Int) then
    ((ldA h p9.1 (p9.2 + Int.toNat 2 * 1)).bind fun v10 =>
    (asI .u8 v10).bind fun n11 =>
    (x1a).bind fun p12 =>
    if 0 ≤ (3 : Int) ∧ 3 < ((x1n : Nat) : Int) then
    ((ldA h p12.1 (p12.2 + Int.toNat 3 * 1)).bind fun v13 =>
    (asI .u8 v13).bind fun n14 =>
    (call Y 39 [(.agg l2), (.int .i64 (bits .or .i64 (bits .or .i64 (bits .or .i64 (wrapA .i64 n5) (wrapA .i64 ((wrapA .i64 n8) * (2:Int) ^ min (Int.toNat 8) (IntKind.bits .i64)))) (wrapA .i64 ((wrapA .i64 n11) * (2:Int) ^ min (Int.toNat 16) (IntKind.bits .i64)))) (wrapA .i64 ((wrapA .i64 n14) * (2:Int) ^ min (Int.toNat 24) (IntKind.bits .i64)))))] h (nx + 28)).bind fun r15 =>
    (asRow r15.1).bind fun d16 =>
    (x6).bind fun p17 =>
    (stA r15.2.1 p17.1 p17.2 (.agg d16) 4).bind fun b18 =>
    let h19 := AHeap.put r15.2.1 p17.1 (some b18)
    (cutA h19 x1a x1n x1c 1 (some (.int .i64 4)) none none).bind fun s20 =>
    F24_L1' J J call Y lf n0 s20.1 s20.2.1 s20.2.2 x4 x6 h19 (r15.2.2 + 3))
    else none)
    else none)
    else none)
    else none)
    else
    ((x6).bind fun p21 =>
    (ldR h p21.1 p21.2 4).bind fun l22 =>
    (call Y 40 [(.agg l22)] h (nx + 7)).bind fun r23 =>
    (asAgg 4 r23.1).bind fun d24 =>
    (asI .i64 (d24.getD 0 .bad)).bind fun n25 =>
    (asI .i64 (d24.getD 1 .bad)).bind fun n26 =>
    (asI .i64 (d24.getD 2 .bad)).bind fun n27 =>
    (asI .i64 (d24.getD 3 .bad)).bind fun n28 =>
    (x4).bind fun p29 =>
    (stA r23.2.1 p29.1 p29.2 (.agg [(.int .i64 n25), (.int .i64 n26), (.int .i64 n27), (.int .i64 n28)]) 4).bind fun b30 =>
    let h31 := AHeap.put r23.2.1 p29.1 (some b30)
    (x4).bind fun p32 =>
    (ldR h31 p32.1 p32.2 4).bind fun l33 =>
    (asAgg 4 (AV.agg l33)).bind fun d34 =>
    (asI .i64 (d34.getD 0 .bad)).bind fun n35 =>
    (asI .i64 (d34.getD 1 .bad)).bind fun n36 =>
    (asI .i64 (d34.getD 2 .bad)).bind fun n37 =>
    (asI .i64 (d34.getD 3 .bad)).bind fun n38 =>
    some ((.tuple [(.agg [(.int .i64 n35), (.int .i64 n36), (.int .i64 n37), (.int .i64 n38)]), (.int .i64 0)]), h31, r23.2.2)) := by kernel_rfl

theorem F24_L1_eq (call : YldF → CallF) (Y : YldF) (lf : Nat) (n0 : Nat) (x1a : Option (Nat × Nat)) (x1n : Nat) (x1c : Bool) (x4 : Option (Nat × Nat)) (x6 : Option (Nat × Nat)) (h : AHeap) (nx : Nat) : F24_L1 call Y lf (n0 + 1) x1a x1n x1c x4 x6 h nx =
    if (decide ((((x1n : Nat) : Int) : Int) > 0)) = true then
    ((x6).bind fun p1 =>
    (ldR h p1.1 p1.2 4).bind fun l2 =>
    (x1a).bind fun p3 =>
    if 0 ≤ (0 : Int) ∧ 0 < ((x1n : Nat) : Int) then
    ((ldA h p3.1 (p3.2 + Int.toNat 0 * 1)).bind fun v4 =>
    (asI .u8 v4).bind fun n5 =>
    (x1a).bind fun p6 =>
    if 0 ≤ (1 : Int) ∧ 1 < ((x1n : Nat) : Int) then
    ((ldA h p6.1 (p6.2 + Int.toNat 1 * 1)).bind fun v7 =>
    (asI .u8 v7).bind fun n8 =>
    (x1a).bind fun p9 =>
    if 0 ≤ (2 : Int) ∧ 2 < ((x1n : Nat) : Int) then
    ((ldA h p9.1 (p9.2 + Int.toNat 2 * 1)).bind fun v10 =>
    (asI .u8 v10).bind fun n11 =>
    (x1a).bind fun p12 =>
    if 0 ≤ (3 : Int) ∧ 3 < ((x1n : Nat) : Int) then
    ((ldA h p12.1 (p12.2 + Int.toNat 3 * 1)).bind fun v13 =>
    (asI .u8 v13).bind fun n14 =>
    (call Y 39 [(.agg l2), (.int .i64 (bits .or .i64 (bits .or .i64 (bits .or .i64 (wrapA .i64 n5) (wrapA .i64 ((wrapA .i64 n8) * (2:Int) ^ min (Int.toNat 8) (IntKind.bits .i64)))) (wrapA .i64 ((wrapA .i64 n11) * (2:Int) ^ min (Int.toNat 16) (IntKind.bits .i64)))) (wrapA .i64 ((wrapA .i64 n14) * (2:Int) ^ min (Int.toNat 24) (IntKind.bits .i64)))))] h (nx + 28)).bind fun r15 =>
    (asRow r15.1).bind fun d16 =>
    (x6).bind fun p17 =>
    (stA r15.2.1 p17.1 p17.2 (.agg d16) 4).bind fun b18 =>
    let h19 := AHeap.put r15.2.1 p17.1 (some b18)
    (cutA h19 x1a x1n x1c 1 (some (.int .i64 4)) none none).bind fun s20 =>
    F24_L1 call Y lf n0 s20.1 s20.2.1 s20.2.2 x4 x6 h19 (r15.2.2 + 3))
    else none)
    else none)
    else none)
    else none)
    else
    ((x6).bind fun p21 =>
    (ldR h p21.1 p21.2 4).bind fun l22 =>
    (call Y 40 [(.agg l22)] h (nx + 7)).bind fun r23 =>
    (asAgg 4 r23.1).bind fun d24 =>
    (asI .i64 (d24.getD 0 .bad)).bind fun n25 =>
    (asI .i64 (d24.getD 1 .bad)).bind fun n26 =>
    (asI .i64 (d24.getD 2 .bad)).bind fun n27 =>
    (asI .i64 (d24.getD 3 .bad)).bind fun n28 =>
    (x4).bind fun p29 =>
    (stA r23.2.1 p29.1 p29.2 (.agg [(.int .i64 n25), (.int .i64 n26), (.int .i64 n27), (.int .i64 n28)]) 4).bind fun b30 =>
    let h31 := AHeap.put r23.2.1 p29.1 (some b30)
    (x4).bind fun p32 =>
    (ldR h31 p32.1 p32.2 4).bind fun l33 =>
    (asAgg 4 (AV.agg l33)).bind fun d34 =>
    (asI .i64 (d34.getD 0 .bad)).bind fun n35 =>
    (asI .i64 (d34.getD 1 .bad)).bind fun n36 =>
    (asI .i64 (d34.getD 2 .bad)).bind fun n37 =>
    (asI .i64 (d34.getD 3 .bad)).bind fun n38 =>
    some ((.tuple [(.agg [(.int .i64 n35), (.int .i64 n36), (.int .i64 n37), (.int .i64 n38)]), (.int .i64 0)]), h31, r23.2.2)) := F24_L1_eq' go1 call Y lf n0 x1a x1n x1c x4 x6 h nx

theorem F24_L1_zero (call : YldF → CallF) (Y : YldF) (lf : Nat) (x1a : Option (Nat × Nat)) (x1n : Nat) (x1c : Bool) (x4 : Option (Nat × Nat)) (x6 : Option (Nat × Nat)) (h : AHeap) (nx : Nat) : F24_L1 call Y lf 0 x1a x1n x1c x4 x6 h nx = none := by kernel_rfl

theorem F24_eq' (J : StepF (AV × AHeap × Nat) → StepF (AV × AHeap × Nat)) (n : Nat) (Y : YldF) (x0_0 : Int) (x0_1 : Int) (x0_2 : Int) (x0_3 : Int) (x1a : Option (Nat × Nat)) (x1n : Nat) (x1c : Bool) (h : AHeap) (nx : Nat) : rootJ J Try.prog keepT (callP Try.prog keepT n) Y n 24 [(.agg [(.int .i64 x0_0), (.int .i64 x0_1), (.int .i64 x0_2), (.int .i64 x0_3)]), (.slice x1a x1n x1c)] h nx =
    let h1 := AHeap.put h nx (some ⟨[(.int .i64 x0_0), (.int .i64 x0_1), (.int .i64 x0_2), (.int .i64 x0_3)], 4, true⟩)
    let h2 := AHeap.put h1 (nx + 1) (some ⟨[(.int .i64 0), (.int .i64 0), (.int .i64 0), (.int .i64 0)], 4, true⟩)
    if (((Int.tmod ((x1n : Nat) : Int) 4) : Int) != 0) = true then
    ((stA h2 (nx + 1) 0 (.agg [(.int .i64 0), (.int .i64 0), (.int .i64 0), (.int .i64 0)]) 4).bind fun b3 =>
    let h4 := AHeap.put h2 (nx + 1) (some b3)
    (ldR h4 (nx + 1) 0 4).bind fun l5 =>
    (asAgg 4 (AV.agg l5)).bind fun d6 =>
    (asI .i64 (d6.getD 0 .bad)).bind fun n7 =>
    (asI .i64 (d6.getD 1 .bad)).bind fun n8 =>
    (asI .i64 (d6.getD 2 .bad)).bind fun n9 =>
    (asI .i64 (d6.getD 3 .bad)).bind fun n10 =>
    some ((.tuple [(.agg [(.int .i64 n7), (.int .i64 n8), (.int .i64 n9), (.int .i64 n10)]), (.int .i64 4)]), h4, (nx + 10)))
    else
    ((ldR h2 nx 0 4).bind fun l11 =>
    (asAgg 4 (AV.agg l11)).bind fun d12 =>
    (asI .i64 (d12.getD 0 .bad)).bind fun n13 =>
    (asI .i64 (d12.getD 1 .bad)).bind fun n14 =>
    (asI .i64 (d12.getD 2 .bad)).bind fun n15 =>
    (asI .i64 (d12.getD 3 .bad)).bind fun n16 =>
    ((callP Try.prog keepT n) Y 38 [(.agg [(.int .i64 n13), (.int .i64 n14), (.int .i64 n15), (.int .i64 n16)])] h2 (nx + 11)).bind fun r17 =>
    (asRow r17.1).bind fun d18 =>
    let h19 := AHeap.put r17.2.1 (nx + 9) (some ⟨[(.int .i64 0), (.int .i64 0), (.int .i64 0), (.int .i64 0)], 1, true⟩)
    (stA h19 (nx + 9) 0 (.agg d18) 4).bind fun b20 =>
    let h21 := AHeap.put h19 (nx + 9) (some b20)
    F24_L1' J J (callP Try.prog keepT n) Y n n x1a x1n x1c (some ((nx + 1), 0)) (some ((nx + 9), 0)) h21 r17.2.2) := by kernel_rfl

/-- quickset/flet.More -/
theorem F24_eq (n : Nat) (Y : YldF) (x0_0 : Int) (x0_1 : Int) (x0_2 : Int) (x0_3 : Int) (x1a : Option (Nat × Nat)) (x1n : Nat) (x1c : Bool) (h : AHeap) (nx : Nat) : callP Try.prog keepT (n + 1) Y 24 [(.agg [(.int .i64 x0_0), (.int .i64 x0_1), (.int .i64 x0_2), (.int .i64 x0_3)]), (.slice x1a x1n x1c)] h nx =
    let h1 := AHeap.put h nx (some ⟨[(.int .i64 x0_0), (.int .i64 x0_1), (.int .i64 x0_2), (.int .i64 x0_3)], 4, true⟩)
    let h2 := AHeap.put h1 (nx + 1) (some ⟨[(.int .i64 0), (.int .i64 0), (.int .i64 0), (.int .i64 0)], 4, true⟩)
    if (((Int.tmod ((x1n : Nat) : Int) 4) : Int) != 0) = true then
    ((stA h2 (nx + 1) 0 (.agg [(.int .i64 0), (.int .i64 0), (.int .i64 0), (.int .i64 0)]) 4).bind fun b3 =>
    let h4 := AHeap.put h2 (nx + 1) (some b3)
    (ldR h4 (nx + 1) 0 4).bind fun l5 =>
    (asAgg 4 (AV.agg l5)).bind fun d6 =>
    (asI .i64 (d6.getD 0 .bad)).bind fun n7 =>
    (asI .i64 (d6.getD 1 .bad)).bind fun n8 =>
    (asI .i64 (d6.getD 2 .bad)).bind fun n9 =>
    (asI .i64 (d6.getD 3 .bad)).bind fun n10 =>
    some ((.tuple [(.agg [(.int .i64 n7), (.int .i64 n8), (.int .i64 n9), (.int .i64 n10)]), (.int .i64 4)]), h4, (nx + 10)))
    else
    ((ldR h2 nx 0 4).bind fun l11 =>
    (asAgg 4 (AV.agg l11)).bind fun d12 =>
    (asI .i64 (d12.getD 0 .bad)).bind fun n13 =>
    (asI .i64 (d12.getD 1 .bad)).bind fun n14 =>
    (asI .i64 (d12.getD 2 .bad)).bind fun n15 =>
    (asI .i64 (d12.getD 3 .bad)).bind fun n16 =>
    ((callP Try.prog keepT n) Y 38 [(.agg [(.int .i64 n13), (.int .i64 n14), (.int .i64 n15), (.int .i64 n16)])] h2 (nx + 11)).bind fun r17 =>
    (asRow r17.1).bind fun d18 =>
    let h19 := AHeap.put r17.2.1 (nx + 9) (some ⟨[(.int .i64 0), (.int .i64 0), (.int .i64 0), (.int .i64 0)], 1, true⟩)
    (stA h19 (nx + 9) 0 (.agg d18) 4).bind fun b20 =>
    let h21 := AHeap.put h19 (nx + 9) (some b20)
    F24_L1 (callP Try.prog keepT n) Y n n x1a x1n x1c (some ((nx + 1), 0)) (some ((nx + 9), 0)) h21 r17.2.2) := F24_eq' go1 n Y x0_0 x0_1 x0_2 x0_3 x1a x1n x1c h nx

noncomputable def c25 : Code := (Try.f25.body).getD .skip

noncomputable def r25 : List ResultVar := Try.f25.results.toList

noncomputable def F25_J1' (W J : StepF (AV × AHeap × Nat) → StepF (AV × AHeap × Nat)) (call : YldF → CallF) (Y : YldF) (lf : Nat) (x2 : Int) (x3 : Option (Nat × Nat)) (x4 : Option (Nat × Nat)) (x6 : Option (Nat × Nat)) (h : AHeap) (nx : Nat) : Option (AV × AHeap × Nat) :=
  goK W J drawK (machOf Try.prog) call Y (keepT 25) lf c25 [1, 1] [] (retK (machOf Try.prog) ⟨c25, 65, r25, keepT 25⟩) ⟨65, mkL [(2, (.int .i64 x2)), (3, (.ptr x3)), (4, (.ptr x4)), (6, (.ptr x6))]⟩ h nx

noncomputable def F25_J1 (call : YldF → CallF) (Y : YldF) (lf : Nat) (x2 : Int) (x3 : Option (Nat × Nat)) (x4 : Option (Nat × Nat)) (x6 : Option (Nat × Nat)) (h : AHeap) (nx : Nat) : Option (AV × AHeap × Nat) := F25_J1' go1 go1 call Y lf x2 x3 x4 x6 h nx

noncomputable def F25_L2' (W J : StepF (AV × AHeap × Nat) → StepF (AV × AHeap × Nat)) (call : YldF → CallF) (Y : YldF) (lf : Nat) (n0 : Nat) (x6 : Option (Nat × Nat)) (x8 : Option (Nat × Nat)) (x9 : Option (Nat × Nat)) (x10 : Option (Nat × Nat)) (x40 : Int) (h : AHeap) (nx : Nat) : Option (AV × AHeap × Nat) :=
  goK W J drawK (machOf Try.prog) call Y (keepT 25) lf c25 [1, 1, 1, 1, 0, 1, 0, 9] [n0] (retK (machOf Try.prog) ⟨c25, 65, r25, keepT 25⟩) ⟨65, mkL [(6, (.ptr x6)), (8, (.ptr x8)), (9, (.ptr x9)), (10, (.ptr x10)), (40, (.int .i64 x40))]⟩ h nx

noncomputable def F25_L2 (call : YldF → CallF) (Y : YldF) (lf : Nat) (n0 : Nat) (x6 : Option (Nat × Nat)) (x8 : Option (Nat × Nat)) (x9 : Option (Nat × Nat)) (x10 : Option (Nat × Nat)) (x40 : Int) (h : AHeap) (nx : Nat) : Option (AV × AHeap × Nat) := F25_L2' go1 go1 call Y lf n0 x6 x8 x9 x10 x40 h nx

noncomputable def F25_L3' (W J : StepF (AV × AHeap × Nat) → StepF (AV × AHeap × Nat)) (call : YldF → CallF) (Y : YldF) (lf : Nat) (n0 : Nat) (n1 : Nat) (x6 : Option (Nat × Nat)) (x8 : Option (Nat × Nat)) (x9 : Option (Nat × Nat)) (x10 : Option (Nat × Nat)) (x11 : Int) (x12 : Int) (x40 : Int) (h : AHeap) (nx : Nat) : Option (AV × AHeap × Nat) :=
  goK W J drawK (machOf Try.prog) call Y (keepT 25) lf c25 [1, 1, 1, 1, 0, 1, 0, 0, 1, 1, 0, 0, 1, 1, 0, 9] [n0, n1] (retK (machOf Try.prog) ⟨c25, 65, r25, keepT 25⟩) ⟨65, mkL [(6, (.ptr x6)), (8, (.ptr x8)), (9, (.ptr x9)), (10, (.ptr x10)), (11, (.int .i64 x11)), (12, (.int .i64 x12)), (40, (.int .i64 x40))]⟩ h nx

noncomputable def F25_L3 (call : YldF → CallF) (Y : YldF) (lf : Nat) (n0 : Nat) (n1 : Nat) (x6 : Option (Nat × Nat)) (x8 : Option (Nat × Nat)) (x9 : Option (Nat × Nat)) (x10 : Option (Nat × Nat)) (x11 : Int) (x12 : Int) (x40 : Int) (h : AHeap) (nx : Nat) : Option (AV × AHeap × Nat) := F25_L3' go1 go1 call Y lf n0 n1 x6 x8 x9 x10 x11 x12 x40 h nx

theorem F25_J1_eq' (J : StepF (AV × AHeap × Nat) → StepF (AV × AHeap × Nat)) (call : YldF → CallF) (Y : YldF) (lf : Nat) (x2 : Int) (x3 : Option (Nat × Nat)) (x4 : Option (Nat × Nat)) (x6 : Option (Nat × Nat)) (h : AHeap) (nx : Nat) : F25_J1' go1 J call Y lf x2 x3 x4 x6 h nx =
    (x3).bind fun p1 =>
    (ldR h p1.1 p1.2 4).bind fun l2 =>
    (asAgg 4 (AV.agg l2)).bind fun d3 =>
    (asI .i64 (d3.getD 0 .bad)).bind fun n4 =>
    (asI .i64 (d3.getD 1 .bad)).bind fun n5 =>
    (asI .i64 (d3.getD 2 .bad)).bind fun n6 =>
    (asI .i64 (d3.getD 3 .bad)).bind fun n7 =>
    (call Y 38 [(.agg [(.int .i64 n4), (.int .i64 n5), (.int .i64 n6), (.int .i64 n7)])] h (nx + 8)).bind fun r8 =>
    (asRow r8.1).bind fun d9 =>
    (x4).bind fun p10 =>
    (ldR r8.2.1 p10.1 p10.2 4).bind fun l11 =>
    (asAgg 4 (AV.agg l11)).bind fun d12 =>
    (asI .i64 (d12.getD 0 .bad)).bind fun n13 =>
    (asI .i64 (d12.getD 1 .bad)).bind fun n14 =>
    (asI .i64 (d12.getD 2 .bad)).bind fun n15 =>
    (asI .i64 (d12.getD 3 .bad)).bind fun n16 =>
    (call Y 38 [(.agg [(.int .i64 n13), (.int .i64 n14), (.int .i64 n15), (.int .i64 n16)])] r8.2.1 r8.2.2).bind fun r17 =>
    (asRow r17.1).bind fun d18 =>
    let h19 := AHeap.put r17.2.1 (nx + 4) (some ⟨[(.int .i64 0), (.int .i64 0), (.int .i64 0), (.int .i64 0)], 1, true⟩)
    let h20 := AHeap.put h19 (nx + 5) (some ⟨[(.int .i64 0), (.int .i64 0), (.int .i64 0), (.int .i64 0)], 1, true⟩)
    (stA h20 (nx + 4) 0 (.agg d9) 4).bind fun b21 =>
    let h22 := AHeap.put h20 (nx + 4) (some b21)
    (stA h22 (nx + 5) 0 (.agg d18) 4).bind fun b23 =>
    let h24 := AHeap.put h22 (nx + 5) (some b23)
    ifApart [([(nx + 4)], [p1.1]), ([(nx + 5)], [p1.1]), ([(nx + 4)], [p10.1]), ([(nx + 5)], [p10.1])]
    (ifKept [(h, r8.2.1, [p10.1])]
    (ifRob (callC (call Y) Y) [⟨(.fn 38), [(.agg [(.int .i64 n4), (.int .i64 n5), (.int .i64 n6), (.int .i64 n7)])], (.agg d9), h, r8.2.1, (nx + 8), r8.2.2, [(nx + 4), (nx + 5)]⟩, ⟨(.fn 38), [(.agg [(.int .i64 n13), (.int .i64 n14), (.int .i64 n15), (.int .i64 n16)])], (.agg d18), r8.2.1, r17.2.1, r8.2.2, r17.2.2, [(nx + 4), (nx + 5)]⟩]
    (let h25 := AHeap.put h24 (r17.2.2 + 16) (some ⟨[(.int .i64 0), (.int .i64 0), (.int .i64 0), (.int .i64 0)], 1, true⟩)
    (stA h25 (r17.2.2 + 16) 0 (.agg [(.int .i64 1), (.int .i64 x2), (.int .i64 (wrapA .i64 (Int.tdiv (wrapA .i64 (x2 * (wrapA .i64 (x2 + 1)))) 2))), (.int .i64 (wrapA .i64 (Int.tdiv (wrapA .i64 ((wrapA .i64 (Int.tdiv (wrapA .i64 (x2 * (wrapA .i64 (x2 + 1)))) 2)) * (wrapA .i64 (x2 + 2)))) 3)))]) 4).bind fun b26 =>
    let h27 := AHeap.put h25 (r17.2.2 + 16) (some b26)
    F25_L2' J J call Y lf lf x6 (some ((nx + 4), 0)) (some ((nx + 5), 0)) (some ((r17.2.2 + 16), 0)) 0 h27 (r17.2.2 + 19)))) := by kernel_rfl

theorem F25_J1_eq (call : YldF → CallF) (Y : YldF) (lf : Nat) (x2 : Int) (x3 : Option (Nat × Nat)) (x4 : Option (Nat × Nat)) (x6 : Option (Nat × Nat)) (h : AHeap) (nx : Nat) : F25_J1 call Y lf x2 x3 x4 x6 h nx =
    (x3).bind fun p1 =>
    (ldR h p1.1 p1.2 4).bind fun l2 =>
    (asAgg 4 (AV.agg l2)).bind fun d3 =>
    (asI .i64 (d3.getD 0 .bad)).bind fun n4 =>
    (asI .i64 (d3.getD 1 .bad)).bind fun n5 =>
    (asI .i64 (d3.getD 2 .bad)).bind fun n6 =>
    (asI .i64 (d3.getD 3 .bad)).bind fun n7 =>
    (call Y 38 [(.agg [(.int .i64 n4), (.int .i64 n5), (.int .i64 n6), (.int .i64 n7)])] h (nx + 8)).bind fun r8 =>
    (asRow r8.1).bind fun d9 =>
    (x4).bind fun p10 =>
    (ldR r8.2.1 p10.1 p10.2 4).bind fun l11 =>
    (asAgg 4 (AV.agg l11)).bind fun d12 =>
    (asI .i64 (d12.getD 0 .bad)).bind fun n13 =>
    (asI .i64 (d12.getD 1 .bad)).bind fun n14 =>
    (asI .i64 (d12.getD 2 .bad)).bind fun n15 =>
    (asI .i64 (d12.getD 3 .bad)).bind fun n16 =>
    (call Y 38 [(.agg [(.int .i64 n13), (.int .i64 n14), (.int .i64 n15), (.int .i64 n16)])] r8.2.1 r8.2.2).bind fun r17 =>
    (asRow r17.1).bind fun d18 =>
    let h19 := AHeap.put r17.2.1 (nx + 4) (some ⟨[(.int .i64 0), (.int .i64 0), (.int .i64 0), (.int .i64 0)], 1, true⟩)
    let h20 := AHeap.put h19 (nx + 5) (some ⟨[(.int .i64 0), (.int .i64 0), (.int .i64 0), (.int .i64 0)], 1, true⟩)
    (stA h20 (nx + 4) 0 (.agg d9) 4).bind fun b21 =>
    let h22 := AHeap.put h20 (nx + 4) (some b21)
    (stA h22 (nx + 5) 0 (.agg d18) 4).bind fun b23 =>
    let h24 := AHeap.put h22 (nx + 5) (some b23)
    ifApart [([(nx + 4)], [p1.1]), ([(nx + 5)], [p1.1]), ([(nx + 4)], [p10.1]), ([(nx + 5)], [p10.1])]
    (ifKept [(h, r8.2.1, [p10.1])]
    (ifRob (callC (call Y) Y) [⟨(.fn 38), [(.agg [(.int .i64 n4), (.int .i64 n5), (.int .i64 n6), (.int .i64 n7)])], (.agg d9), h, r8.2.1, (nx + 8), r8.2.2, [(nx + 4), (nx + 5)]⟩, ⟨(.fn 38), [(.agg [(.int .i64 n13), (.int .i64 n14), (.int .i64 n15), (.int .i64 n16)])], (.agg d18), r8.2.1, r17.2.1, r8.2.2, r17.2.2, [(nx + 4), (nx + 5)]⟩]
    (let h25 := AHeap.put h24 (r17.2.2 + 16) (some ⟨[(.int .i64 0), (.int .i64 0), (.int .i64 0), (.int .i64 0)], 1, true⟩)
    (stA h25 (r17.2.2 + 16) 0 (.agg [(.int .i64 1), (.int .i64 x2), (.int .i64 (wrapA .i64 (Int.tdiv (wrapA .i64 (x2 * (wrapA .i64 (x2 + 1)))) 2))), (.int .i64 (wrapA .i64 (Int.tdiv (wrapA .i64 ((wrapA .i64 (Int.tdiv (wrapA .i64 (x2 * (wrapA .i64 (x2 + 1)))) 2)) * (wrapA .i64 (x2 + 2)))) 3)))]) 4).bind fun b26 =>
    let h27 := AHeap.put h25 (r17.2.2 + 16) (some b26)
    F25_L2 call Y lf lf x6 (some ((nx + 4), 0)) (some ((nx + 5), 0)) (some ((r17.2.2 + 16), 0)) 0 h27 (r17.2.2 + 19)))) := F25_J1_eq' go1 call Y lf x2 x3 x4 x6 h nx

theorem F25_L2_eq' (J : StepF (AV × AHeap × Nat) → StepF (AV × AHeap × Nat)) (call : YldF → CallF) (Y : YldF) (lf : Nat) (n0 : Nat) (x6 : Option (Nat × Nat)) (x8 : Option (Nat × Nat)) (x9 : Option (Nat × Nat)) (x10 : Option (Nat × Nat)) (x40 : Int) (h : AHeap) (nx : Nat) : F25_L2' go1 J call Y lf (n0 + 1) x6 x8 x9 x10 x40 h nx =
    if (decide ((x40 : Int) < 4)) = true then
    (F25_L3' J J call Y lf n0 lf x6 x8 x9 x10 x40 0 x40 h (nx + 4))
    else
    ((x9).bind fun p1 =>
    (ldR h p1.1 p1.2 4).bind fun l2 =>
    (call Y 40 [(.agg l2)] h (nx + 5)).bind fun r3 =>
    (asAgg 4 r3.1).bind fun d4 =>
    (asI .i64 (d4.getD 0 .bad)).bind fun n5 =>
    (asI .i64 (d4.getD 1 .bad)).bind fun n6 =>
    (asI .i64 (d4.getD 2 .bad)).bind fun n7 =>
    (asI .i64 (d4.getD 3 .bad)).bind fun n8 =>
    (x6).bind fun p9 =>
    (stA r3.2.1 p9.1 p9.2 (.agg [(.int .i64 n5), (.int .i64 n6), (.int .i64 n7), (.int .i64 n8)]) 4).bind fun b10 =>
    let h11 := AHeap.put r3.2.1 p9.1 (some b10)
    (x6).bind fun p12 =>
    (ldR h11 p12.1 p12.2 4).bind fun l13 =>
    (asAgg 4 (AV.agg l13)).bind fun d14 =>
    (asI .i64 (d14.getD 0 .bad)).bind fun n15 =>
    (asI .i64 (d14.getD 1 .bad)).bind fun n16 =>
    (asI .i64 (d14.getD 2 .bad)).bind fun n17 =>
    (asI .i64 (d14.getD 3 .bad)).bind fun n18 =>
    some ((.tuple [(.agg [(.int .i64 n15), (.int .i64 n16), (.int .i64 n17), (.int .i64 n18)]), (.int .i64 0)]), h11, r3.2.2)) := by kernel_rfl

theorem F25_L2_eq (call : YldF → CallF) (Y : YldF) (lf : Nat) (n0 : Nat) (x6 : Option (Nat × Nat)) (x8 : Option (Nat × Nat)) (x9 : Option (Nat × Nat)) (x10 : Option (Nat × Nat)) (x40 : Int) (h : AHeap) (nx : Nat) : F25_L2 call Y lf (n0 + 1) x6 x8 x9 x10 x40 h nx =
    if (decide ((x40 : Int) < 4)) = true then
    (F25_L3 call Y lf n0 lf x6 x8 x9 x10 x40 0 x40 h (nx + 4))
    else
    ((x9).bind fun p1 =>
    (ldR h p1.1 p1.2 4).bind fun l2 =>
    (call Y 40 [(.agg l2)] h (nx + 5)).bind fun r3 =>
    (asAgg 4 r3.1).bind fun d4 =>
    (asI .i64 (d4.getD 0 .bad)).bind fun n5 =>
    (asI .i64 (d4.getD 1 .bad)).bind fun n6 =>
    (asI .i64 (d4.getD 2 .bad)).bind fun n7 =>
    (asI .i64 (d4.getD 3 .bad)).bind fun n8 =>
    (x6).bind fun p9 =>
    (stA r3.2.1 p9.1 p9.2 (.agg [(.int .i64 n5), (.int .i64 n6), (.int .i64 n7), (.int .i64 n8)]) 4).bind fun b10 =>
    let h11 := AHeap.put r3.2.1 p9.1 (some b10)
    (x6).bind fun p12 =>
    (ldR h11 p12.1 p12.2 4).bind fun l13 =>
    (asAgg 4 (AV.agg l13)).bind fun d14 =>
    (asI .i64 (d14.getD 0 .bad)).bind fun n15 =>
    (asI .i64 (d14.getD 1 .bad)).bind fun n16 =>
    (asI .i64 (d14.getD 2 .bad)).bind fun n17 =>
    (asI .i64 (d14.getD 3 .bad)).bind fun n18 =>
    some ((.tuple [(.agg [(.int .i64 n15), (.int .i64 n16), (.int .i64 n17), (.int .i64 n18)]), (.int .i64 0)]), h11, r3.2.2)) := F25_L2_eq' go1 call Y lf n0 x6 x8 x9 x10 x40 h nx

theorem F25_L2_zero (call : YldF → CallF) (Y : YldF) (lf : Nat) (x6 : Option (Nat × Nat)) (x8 : Option (Nat × Nat)) (x9 : Option (Nat × Nat)) (x10 : Option (Nat × Nat)) (x40 : Int) (h : AHeap) (nx : Nat) : F25_L2 call Y lf 0 x6 x8 x9 x10 x40 h nx = none := by kernel_rfl

theorem F25_L3_eq' (J : StepF (AV × AHeap × Nat) → StepF (AV × AHeap × Nat)) (call : YldF → CallF) (Y : YldF) (lf : Nat) (n0 : Nat) (n1 : Nat) (x6 : Option (Nat × Nat)) (x8 : Option (Nat × Nat)) (x9 : Option (Nat × Nat)) (x10 : Option (Nat × Nat)) (x11 : Int) (x12 : Int) (x40 : Int) (h : AHeap) (nx : Nat) : F25_L3' go1 J call Y lf n0 (n1 + 1) x6 x8 x9 x10 x11 x12 x40 h nx =
    if (decide ((x12 : Int) ≤ x11)) = true then
    ((x9).bind fun p1 =>
    if 0 ≤ (x11 : Int) ∧ x11 < ((4 : Nat) : Int) then
    ((ldA h p1.1 (p1.2 + Int.toNat x11 * 1)).bind fun v2 =>
    (asI .i64 v2).bind fun n3 =>
    (x10).bind fun p4 =>
    if 0 ≤ ((wrapA .i64 (x11 - x12)) : Int) ∧ (wrapA .i64 (x11 - x12)) < ((4 : Nat) : Int) then
    ((ldA h p4.1 (p4.2 + Int.toNat (wrapA .i64 (x11 - x12)) * 1)).bind fun v5 =>
    (asI .i64 v5).bind fun n6 =>
    (x8).bind fun p7 =>
    if 0 ≤ (x12 : Int) ∧ x12 < ((4 : Nat) : Int) then
    ((ldA h p7.1 (p7.2 + Int.toNat x12 * 1)).bind fun v8 =>
    (asI .i64 v8).bind fun n9 =>
    (x9).bind fun p10 =>
    if 0 ≤ (x11 : Int) ∧ x11 < ((4 : Nat) : Int) then
    ((stA h p10.1 (p10.2 + Int.toNat x11 * 1) (.int .i64 (wrapA .i64 (n3 + (wrapA .i64 (n6 * n9))))) 1).bind fun b11 =>
    let h12 := AHeap.put h p10.1 (some b11)
    F25_L3' J J call Y lf n0 n1 x6 x8 x9 x10 x11 (wrapA .i64 (x12 + 1)) x40 h12 (nx + 21))
    else none)
    else none)
    else none)
    else none)
    else
    (F25_L2' J J call Y lf n0 x6 x8 x9 x10 (wrapA .i64 (x40 + 1)) h (nx + 5)) := by kernel_rfl

theorem F25_L3_eq (call : YldF → CallF) (Y : YldF) (lf : Nat) (n0 : Nat) (n1 : Nat) (x6 : Option (Nat × Nat)) (x8 : Option (Nat × Nat)) (x9 : Option (Nat × Nat)) (x10 : Option (Nat × Nat)) (x11 : Int) (x12 : Int) (x40 : Int) (h : AHeap) (nx : Nat) : F25_L3 call Y lf n0 (n1 + 1) x6 x8 x9 x10 x11 x12 x40 h nx =
    if (decide ((x12 : Int) ≤ x11)) = true then
    ((x9).bind fun p1 =>
    if 0 ≤ (x11 : Int) ∧ x11 < ((4 : Nat) : Int) then
    ((ldA h p1.1 (p1.2 + Int.toNat x11 * 1)).bind fun v2 =>
    (asI .i64 v2).bind fun n3 =>
    (x10).bind fun p4 =>
    if 0 ≤ ((wrapA .i64 (x11 - x12)) : Int) ∧ (wrapA .i64 (x11 - x12)) < ((4 : Nat) : Int) then
    ((ldA h p4.1 (p4.2 + Int.toNat (wrapA .i64 (x11 - x12)) * 1)).bind fun v5 =>
    (asI .i64 v5).bind fun n6 =>
    (x8).bind fun p7 =>
    if 0 ≤ (x12 : Int) ∧ x12 < ((4 : Nat) : Int) then
    ((ldA h p7.1 (p7.2 + Int.toNat x12 * 1)).bind fun v8 =>
    (asI .i64 v8).bind fun n9 =>
    (x9).bind fun p10 =>
    if 0 ≤ (x11 : Int) ∧ x11 < ((4 : Nat) : Int) then
    ((stA h p10.1 (p10.2 + Int.toNat x11 * 1) (.int .i64 (wrapA .i64 (n3 + (wrapA .i64 (n6 * n9))))) 1).bind fun b11 =>
    let h12 := AHeap.put h p10.1 (some b11)
    F25_L3 call Y lf n0 n1 x6 x8 x9 x10 x11 (wrapA .i64 (x12 + 1)) x40 h12 (nx + 21))
    else none)
    else none)
    else none)
    else none)
    else
    (F25_L2 call Y lf n0 x6 x8 x9 x10 (wrapA .i64 (x40 + 1)) h (nx + 5)) := F25_L3_eq' go1 call Y lf n0 n1 x6 x8 x9 x10 x11 x12 x40 h nx

theorem F25_L3_zero (call : YldF → CallF) (Y : YldF) (lf : Nat) (n0 : Nat) (x6 : Option (Nat × Nat)) (x8 : Option (Nat × Nat)) (x9 : Option (Nat × Nat)) (x10 : Option (Nat × Nat)) (x11 : Int) (x12 : Int) (x40 : Int) (h : AHeap) (nx : Nat) : F25_L3 call Y lf n0 0 x6 x8 x9 x10 x11 x12 x40 h nx = none := by kernel_rfl

theorem F25_eq' (J : StepF (AV × AHeap × Nat) → StepF (AV × AHeap × Nat)) (n : Nat) (Y : YldF) (x0_0 : Int) (x0_1 : Int) (x0_2 : Int) (x0_3 : Int) (x1_0 : Int) (x1_1 : Int) (x1_2 : Int) (x1_3 : Int) (x2 : Int) (h : AHeap) (nx : Nat) : rootJ J Try.prog keepT (callP Try.prog keepT n) Y n 25 [(.agg [(.int .i64 x0_0), (.int .i64 x0_1), (.int .i64 x0_2), (.int .i64 x0_3)]), (.agg [(.int .i64 x1_0), (.int .i64 x1_1), (.int .i64 x1_2), (.int .i64 x1_3)]), (.int .i64 x2)] h nx =
    let h1 := AHeap.put h nx (some ⟨[(.int .i64 x0_0), (.int .i64 x0_1), (.int .i64 x0_2), (.int .i64 x0_3)], 4, true⟩)
    let h2 := AHeap.put h1 (nx + 1) (some ⟨[(.int .i64 x1_0), (.int .i64 x1_1), (.int .i64 x1_2), (.int .i64 x1_3)], 4, true⟩)
    let h3 := AHeap.put h2 (nx + 2) (some ⟨[(.int .i64 0), (.int .i64 0), (.int .i64 0), (.int .i64 0)], 4, true⟩)
    if (decide ((x2 : Int) < 0)) = true then
    ((stA h3 (nx + 2) 0 (.agg [(.int .i64 0), (.int .i64 0), (.int .i64 0), (.int .i64 0)]) 4).bind fun b4 =>
    let h5 := AHeap.put h3 (nx + 2) (some b4)
    (ldR h5 (nx + 2) 0 4).bind fun l6 =>
    (asAgg 4 (AV.agg l6)).bind fun d7 =>
    (asI .i64 (d7.getD 0 .bad)).bind fun n8 =>
    (asI .i64 (d7.getD 1 .bad)).bind fun n9 =>
    (asI .i64 (d7.getD 2 .bad)).bind fun n10 =>
    (asI .i64 (d7.getD 3 .bad)).bind fun n11 =>
    some ((.tuple [(.agg [(.int .i64 n8), (.int .i64 n9), (.int .i64 n10), (.int .i64 n11)]), (.int .i64 2)]), h5, (nx + 13)))
    else
    (if (decide ((x2 : Int) > 1048576)) = true then
    ((stA h3 (nx + 2) 0 (.agg [(.int .i64 0), (.int .i64 0), (.int .i64 0), (.int .i64 0)]) 4).bind fun b12 =>
    let h13 := AHeap.put h3 (nx + 2) (some b12)
    (ldR h13 (nx + 2) 0 4).bind fun l14 =>
    (asAgg 4 (AV.agg l14)).bind fun d15 =>
    (asI .i64 (d15.getD 0 .bad)).bind fun n16 =>
    (asI .i64 (d15.getD 1 .bad)).bind fun n17 =>
    (asI .i64 (d15.getD 2 .bad)).bind fun n18 =>
    (asI .i64 (d15.getD 3 .bad)).bind fun n19 =>
    some ((.tuple [(.agg [(.int .i64 n16), (.int .i64 n17), (.int .i64 n18), (.int .i64 n19)]), (.int .i64 2)]), h13, (nx + 13)))
    else
    (F25_J1' J J (callP Try.prog keepT n) Y n x2 (some (nx, 0)) (some ((nx + 1), 0)) (some ((nx + 2), 0)) h3 (nx + 10))) := by kernel_rfl

/-- quickset/flet.Join -/
theorem F25_eq (n : Nat) (Y : YldF) (x0_0 : Int) (x0_1 : Int) (x0_2 : Int) (x0_3 : Int) (x1_0 : Int) (x1_1 : Int) (x1_2 : Int) (x1_3 : Int) (x2 : Int) (h : AHeap) (nx : Nat) : callP Try.prog keepT (n + 1) Y 25 [(.agg [(.int .i64 x0_0), (.int .i64 x0_1), (.int .i64 x0_2), (.int .i64 x0_3)]), (.agg [(.int .i64 x1_0), (.int .i64 x1_1), (.int .i64 x1_2), (.int .i64 x1_3)]), (.int .i64 x2)] h nx =
    let h1 := AHeap.put h nx (some ⟨[(.int .i64 x0_0), (.int .i64 x0_1), (.int .i64 x0_2), (.int .i64 x0_3)], 4, true⟩)
    let h2 := AHeap.put h1 (nx + 1) (some ⟨[(.int .i64 x1_0), (.int .i64 x1_1), (.int .i64 x1_2), (.int .i64 x1_3)], 4, true⟩)
    let h3 := AHeap.put h2 (nx + 2) (some ⟨[(.int .i64 0), (.int .i64 0), (.int .i64 0), (.int .i64 0)], 4, true⟩)
    if (decide ((x2 : Int) < 0)) = true then
    ((stA h3 (nx + 2) 0 (.agg [(.int .i64 0), (.int .i64 0), (.int .i64 0), (.int .i64 0)]) 4).bind fun b4 =>
    let h5 := AHeap.put h3 (nx + 2) (some b4)
    (ldR h5 (nx + 2) 0 4).bind fun l6 =>
    (asAgg 4 (AV.agg l6)).bind fun d7 =>
    (asI .i64 (d7.getD 0 .bad)).bind fun n8 =>
    (asI .i64 (d7.getD 1 .bad)).bind fun n9 =>
    (asI .i64 (d7.getD 2 .bad)).bind fun n10 =>
    (asI .i64 (d7.getD 3 .bad)).bind fun n11 =>
    some ((.tuple [(.agg [(.int .i64 n8), (.int .i64 n9), (.int .i64 n10), (.int .i64 n11)]), (.int .i64 2)]), h5, (nx + 13)))
    else
    (if (decide ((x2 : Int) > 1048576)) = true then
    ((stA h3 (nx + 2) 0 (.agg [(.int .i64 0), (.int .i64 0), (.int .i64 0), (.int .i64 0)]) 4).bind fun b12 =>
    let h13 := AHeap.put h3 (nx + 2) (some b12)
    (ldR h13 (nx + 2) 0 4).bind fun l14 =>
    (asAgg 4 (AV.agg l14)).bind fun d15 =>
    (asI .i64 (d15.getD 0 .bad)).bind fun n16 =>
    (asI .i64 (d15.getD 1 .bad)).bind fun n17 =>
    (asI .i64 (d15.getD 2 .bad)).bind fun n18 =>
    (asI .i64 (d15.getD 3 .bad)).bind fun n19 =>
    some ((.tuple [(.agg [(.int .i64 n16), (.int .i64 n17), (.int .i64 n18), (.int .i64 n19)]), (.int .i64 2)]), h13, (nx + 13)))
    else
    (F25_J1 (callP Try.prog keepT n) Y n x2 (some (nx, 0)) (some ((nx + 1), 0)) (some ((nx + 2), 0)) h3 (nx + 10))) := F25_eq' go1 n Y x0_0 x0_1 x0_2 x0_3 x1_0 x1_1 x1_2 x1_3 x2 h nx

noncomputable def c26 : Code := (Try.f26.body).getD .skip

noncomputable def r26 : List ResultVar := Try.f26.results.toList

noncomputable def F26_L1' (W J : StepF (AV × AHeap × Nat) → StepF (AV × AHeap × Nat)) (call : YldF → CallF) (Y : YldF) (lf : Nat) (n0 : Nat) (x0a : Option (Nat × Nat)) (x0n : Nat) (x0c : Bool) (x1 : Int) (x2 : Int) (x7a : Option (Nat × Nat)) (x7n : Nat) (x7c : Bool) (x8 : Int) (x9 : Int) (h : AHeap) (nx : Nat) : Option (AV × AHeap × Nat) :=
  goK W J drawK (machOf Try.prog) call Y (keepT 26) lf c26 [1, 1, 1, 0, 1, 0, 9] [n0] (retK (machOf Try.prog) ⟨c26, 56, r26, keepT 26⟩) ⟨56, mkL [(0, (.slice x0a x0n x0c)), (1, (.int .i64 x1)), (2, (.int .i64 x2)), (7, (.slice x7a x7n x7c)), (8, (.int .i64 x8)), (9, (.int .i64 x9))]⟩ h nx

noncomputable def F26_L1 (call : YldF → CallF) (Y : YldF) (lf : Nat) (n0 : Nat) (x0a : Option (Nat × Nat)) (x0n : Nat) (x0c : Bool) (x1 : Int) (x2 : Int) (x7a : Option (Nat × Nat)) (x7n : Nat) (x7c : Bool) (x8 : Int) (x9 : Int) (h : AHeap) (nx : Nat) : Option (AV × AHeap × Nat) := F26_L1' go1 go1 call Y lf n0 x0a x0n x0c x1 x2 x7a x7n x7c x8 x9 h nx

noncomputable def F26_J2' (W J : StepF (AV × AHeap × Nat) → StepF (AV × AHeap × Nat)) (call : YldF → CallF) (Y : YldF) (lf : Nat) (n0 : Nat) (x0a : Option (Nat × Nat)) (x0n : Nat) (x0c : Bool) (x1 : Int) (x2 : Int) (x7a : Option (Nat × Nat)) (x7n : Nat) (x7c : Bool) (x8 : Int) (x9 : Int) (h : AHeap) (nx : Nat) : Option (AV × AHeap × Nat) :=
  goK W J drawK (machOf Try.prog) call Y (keepT 26) lf c26 [1, 1, 1, 0, 1, 0, 0, 1] [n0] (retK (machOf Try.prog) ⟨c26, 56, r26, keepT 26⟩) ⟨56, mkL [(0, (.slice x0a x0n x0c)), (1, (.int .i64 x1)), (2, (.int .i64 x2)), (7, (.slice x7a x7n x7c)), (8, (.int .i64 x8)), (9, (.int .i64 x9))]⟩ h nx

noncomputable def F26_J2 (call : YldF → CallF) (Y : YldF) (lf : Nat) (n0 : Nat) (x0a : Option (Nat × Nat)) (x0n : Nat) (x0c : Bool) (x1 : Int) (x2 : Int) (x7a : Option (Nat × Nat)) (x7n : Nat) (x7c : Bool) (x8 : Int) (x9 : Int) (h : AHeap) (nx : Nat) : Option (AV × AHeap × Nat) := F26_J2' go1 go1 call Y lf n0 x0a x0n x0c x1 x2 x7a x7n x7c x8 x9 h nx

noncomputable def F26_J3' (W J : StepF (AV × AHeap × Nat) → StepF (AV × AHeap × Nat)) (call : YldF → CallF) (Y : YldF) (lf : Nat) (x2 : Int) (x7a : Option (Nat × Nat)) (x7n : Nat) (x7c : Bool) (h : AHeap) (nx : Nat) : Option (AV × AHeap × Nat) :=
  goK W J drawK (machOf Try.prog) call Y (keepT 26) lf c26 [1, 1, 1, 1] [] (retK (machOf Try.prog) ⟨c26, 56, r26, keepT 26⟩) ⟨56, mkL [(2, (.int .i64 x2)), (7, (.slice x7a x7n x7c))]⟩ h nx

noncomputable def F26_J3 (call : YldF → CallF) (Y : YldF) (lf : Nat) (x2 : Int) (x7a : Option (Nat × Nat)) (x7n : Nat) (x7c : Bool) (h : AHeap) (nx : Nat) : Option (AV × AHeap × Nat) := F26_J3' go1 go1 call Y lf x2 x7a x7n x7c h nx

noncomputable def F26_L4' (W J : StepF (AV × AHeap × Nat) → StepF (AV × AHeap × Nat)) (call : YldF → CallF) (Y : YldF) (lf : Nat) (n0 : Nat) (x2 : Int) (x7a : Option (Nat × Nat)) (x7n : Nat) (x7c : Bool) (x11a : Option (Nat × Nat)) (x11n : Nat) (x11c : Bool) (x12 : Int) (h : AHeap) (nx : Nat) : Option (AV × AHeap × Nat) :=
  goK W J drawK (machOf Try.prog) call Y (keepT 26) lf c26 [1, 1, 1, 1, 1, 0, 1, 0, 9] [n0] (retK (machOf Try.prog) ⟨c26, 56, r26, keepT 26⟩) ⟨56, mkL [(2, (.int .i64 x2)), (7, (.slice x7a x7n x7c)), (11, (.slice x11a x11n x11c)), (12, (.int .i64 x12))]⟩ h nx

noncomputable def F26_L4 (call : YldF → CallF) (Y : YldF) (lf : Nat) (n0 : Nat) (x2 : Int) (x7a : Option (Nat × Nat)) (x7n : Nat) (x7c : Bool) (x11a : Option (Nat × Nat)) (x11n : Nat) (x11c : Bool) (x12 : Int) (h : AHeap) (nx : Nat) : Option (AV × AHeap × Nat) := F26_L4' go1 go1 call Y lf n0 x2 x7a x7n x7c x11a x11n x11c x12 h nx

theorem F26_L1_eq' (J : StepF (AV × AHeap × Nat) → StepF (AV × AHeap × Nat)) (call : YldF → CallF) (Y : YldF) (lf : Nat) (n0 : Nat) (x0a : Option (Nat × Nat)) (x0n : Nat) (x0c : Bool) (x1 : Int) (x2 : Int) (x7a : Option (Nat × Nat)) (x7n : Nat) (x7c : Bool) (x8 : Int) (x9 : Int) (h : AHeap) (nx : Nat) : F26_L1' go1 J call Y lf (n0 + 1) x0a x0n x0c x1 x2 x7a x7n x7c x8 x9 h nx =
    if (decide ((x9 : Int) < ((x0n : Nat) : Int))) = true then
    (if (decide ((x8 : Int) < x1)) = true then
    (F26_J2' J J call Y lf n0 x0a x0n x0c x1 x2 x7a x7n x7c x8 x9 h (nx + 9))
    else
    (F26_J3' J J call Y lf x2 x7a x7n x7c h (nx + 9)))
    else
    (F26_J3' J J call Y lf x2 x7a x7n x7c h (nx + 9)) := by kernel_rfl

theorem F26_L1_eq (call : YldF → CallF) (Y : YldF) (lf : Nat) (n0 : Nat) (x0a : Option (Nat × Nat)) (x0n : Nat) (x0c : Bool) (x1 : Int) (x2 : Int) (x7a : Option (Nat × Nat)) (x7n : Nat) (x7c : Bool) (x8 : Int) (x9 : Int) (h : AHeap) (nx : Nat) : F26_L1 call Y lf (n0 + 1) x0a x0n x0c x1 x2 x7a x7n x7c x8 x9 h nx =
    if (decide ((x9 : Int) < ((x0n : Nat) : Int))) = true then
    (if (decide ((x8 : Int) < x1)) = true then
    (F26_J2 call Y lf n0 x0a x0n x0c x1 x2 x7a x7n x7c x8 x9 h (nx + 9))
    else
    (F26_J3 call Y lf x2 x7a x7n x7c h (nx + 9)))
    else
    (F26_J3 call Y lf x2 x7a x7n x7c h (nx + 9)) := F26_L1_eq' go1 call Y lf n0 x0a x0n x0c x1 x2 x7a x7n x7c x8 x9 h nx

theorem F26_L1_zero (call : YldF → CallF) (Y : YldF) (lf : Nat) (x0a : Option (Nat × Nat)) (x0n : Nat) (x0c : Bool) (x1 : Int) (x2 : Int) (x7a : Option (Nat × Nat)) (x7n : Nat) (x7c : Bool) (x8 : Int) (x9 : Int) (h : AHeap) (nx : Nat) : F26_L1 call Y lf 0 x0a x0n x0c x1 x2 x7a x7n x7c x8 x9 h nx = none := by kernel_rfl

theorem F26_J2_eq' (J : StepF (AV × AHeap × Nat) → StepF (AV × AHeap × Nat)) (call : YldF → CallF) (Y : YldF) (lf : Nat) (n0 : Nat) (x0a : Option (Nat × Nat)) (x0n : Nat) (x0c : Bool) (x1 : Int) (x2 : Int) (x7a : Option (Nat × Nat)) (x7n : Nat) (x7c : Bool) (x8 : Int) (x9 : Int) (h : AHeap) (nx : Nat) : F26_J2' go1 J call Y lf n0 x0a x0n x0c x1 x2 x7a x7n x7c x8 x9 h nx =
    (x0a).bind fun p1 =>
    if 0 ≤ (x9 : Int) ∧ x9 < ((x0n : Nat) : Int) then
    ((ldA h p1.1 (p1.2 + Int.toNat x9 * 1)).bind fun v2 =>
    (asI .i64 v2).bind fun n3 =>
    (call Y 15 [(.int .i64 n3), (.int .i64 x2)] h (nx + 7)).bind fun r4 =>
    (asI .i64 r4.1).bind fun n5 =>
    (x7a).bind fun p6 =>
    if 0 ≤ (n5 : Int) ∧ n5 < ((x7n : Nat) : Int) then
    ((ldA r4.2.1 p6.1 (p6.2 + Int.toNat n5 * 1)).bind fun v7 =>
    (asB v7).bind fun t8 =>
    if (!t8) = true then
    ((x7a).bind fun p9 =>
    if 0 ≤ (n5 : Int) ∧ n5 < ((x7n : Nat) : Int) then
    ((stA r4.2.1 p9.1 (p9.2 + Int.toNat n5 * 1) (.bool true) 1).bind fun b10 =>
    let h11 := AHeap.put r4.2.1 p9.1 (some b10)
    F26_L1' J J call Y lf n0 x0a x0n x0c x1 x2 x7a x7n x7c (wrapA .i64 (x8 + 1)) (wrapA .i64 (x9 + 1)) h11 (r4.2.2 + 15))
    else none)
    else
    (F26_L1' J J call Y lf n0 x0a x0n x0c x1 x2 x7a x7n x7c x8 (wrapA .i64 (x9 + 1)) r4.2.1 (r4.2.2 + 8)))
    else none)
    else none := by kernel_rfl

theorem F26_J2_eq (call : YldF → CallF) (Y : YldF) (lf : Nat) (n0 : Nat) (x0a : Option (Nat × Nat)) (x0n : Nat) (x0c : Bool) (x1 : Int) (x2 : Int) (x7a : Option (Nat × Nat)) (x7n : Nat) (x7c : Bool) (x8 : Int) (x9 : Int) (h : AHeap) (nx : Nat) : F26_J2 call Y lf n0 x0a x0n x0c x1 x2 x7a x7n x7c x8 x9 h nx =
    (x0a).bind fun p1 =>
    if 0 ≤ (x9 : Int) ∧ x9 < ((x0n : Nat) : Int) then
    ((ldA h p1.1 (p1.2 + Int.toNat x9 * 1)).bind fun v2 =>
    (asI .i64 v2).bind fun n3 =>
    (call Y 15 [(.int .i64 n3), (.int .i64 x2)] h (nx + 7)).bind fun r4 =>
    (asI .i64 r4.1).bind fun n5 =>
    (x7a).bind fun p6 =>
    if 0 ≤ (n5 : Int) ∧ n5 < ((x7n : Nat) : Int) then
    ((ldA r4.2.1 p6.1 (p6.2 + Int.toNat n5 * 1)).bind fun v7 =>
    (asB v7).bind fun t8 =>
    if (!t8) = true then
    ((x7a).bind fun p9 =>
    if 0 ≤ (n5 : Int) ∧ n5 < ((x7n : Nat) : Int) then
    ((stA r4.2.1 p9.1 (p9.2 + Int.toNat n5 * 1) (.bool true) 1).bind fun b10 =>
    let h11 := AHeap.put r4.2.1 p9.1 (some b10)
    F26_L1 call Y lf n0 x0a x0n x0c x1 x2 x7a x7n x7c (wrapA .i64 (x8 + 1)) (wrapA .i64 (x9 + 1)) h11 (r4.2.2 + 15))
    else none)
    else
    (F26_L1 call Y lf n0 x0a x0n x0c x1 x2 x7a x7n x7c x8 (wrapA .i64 (x9 + 1)) r4.2.1 (r4.2.2 + 8)))
    else none)
    else none := F26_J2_eq' go1 call Y lf n0 x0a x0n x0c x1 x2 x7a x7n x7c x8 x9 h nx

theorem F26_J3_eq' (J : StepF (AV × AHeap × Nat) → StepF (AV × AHeap × Nat)) (call : YldF → CallF) (Y : YldF) (lf : Nat) (x2 : Int) (x7a : Option (Nat × Nat)) (x7n : Nat) (x7c : Bool) (h : AHeap) (nx : Nat) : F26_J3' go1 J call Y lf x2 x7a x7n x7c h nx =
    F26_L4' J J call Y lf lf x2 x7a x7n x7c none 0 false 0 h (nx + 2) := by kernel_rfl

theorem F26_J3_eq (call : YldF → CallF) (Y : YldF) (lf : Nat) (x2 : Int) (x7a : Option (Nat × Nat)) (x7n : Nat) (x7c : Bool) (h : AHeap) (nx : Nat) : F26_J3 call Y lf x2 x7a x7n x7c h nx =
    F26_L4 call Y lf lf x2 x7a x7n x7c none 0 false 0 h (nx + 2) := F26_J3_eq' go1 call Y lf x2 x7a x7n x7c h nx

theorem F26_L4_eq' (J : StepF (AV × AHeap × Nat) → StepF (AV × AHeap × Nat)) (call : YldF → CallF) (Y : YldF) (lf : Nat) (n0 : Nat) (x2 : Int) (x7a : Option (Nat × Nat)) (x7n : Nat) (x7c : Bool) (x11a : Option (Nat × Nat)) (x11n : Nat) (x11c : Bool) (x12 : Int) (h : AHeap) (nx : Nat) : F26_L4' go1 J call Y lf (n0 + 1) x2 x7a x7n x7c x11a x11n x11c x12 h nx =
    if (decide ((x12 : Int) < x2)) = true then
    ((x7a).bind fun p1 =>
    if 0 ≤ (x12 : Int) ∧ x12 < ((x7n : Nat) : Int) then
    ((ldA h p1.1 (p1.2 + Int.toNat x12 * 1)).bind fun v2 =>
    (asB v2).bind fun t3 =>
    if t3 = true then
    (let h4 := AHeap.put h (nx + 9) (some ⟨[(.int .i64 x12)], 1, true⟩)
    (srcS h4 (some ((nx + 9), 0)) 1 1).bind fun q5 =>
    (appD h4 x11a x11n x11c 1 8 (nx + 10) q5).bind fun e6 =>
    let h7 := AHeap.puts h4 e6.sets
    F26_L4' J J call Y lf n0 x2 x7a x7n x7c e6.a e6.n e6.c (wrapA .i64 (x12 + 1)) h7 (nx + 15))
    else
    (F26_L4' J J call Y lf n0 x2 x7a x7n x7c x11a x11n x11c (wrapA .i64 (x12 + 1)) h (nx + 10)))
    else none)
    else
    (some ((.slice x11a x11n x11c), h, (nx + 5))) := by kernel_rfl

theorem F26_L4_eq (call : YldF → CallF) (Y : YldF) (lf : Nat) (n0 : Nat) (x2 : Int) (x7a : Option (Nat × Nat)) (x7n : Nat) (x7c : Bool) (x11a : Option (Nat × Nat)) (x11n : Nat) (x11c : Bool) (x12 : Int) (h : AHeap) (nx : Nat) : F26_L4 call Y lf (n0 + 1) x2 x7a x7n x7c x11a x11n x11c x12 h nx =
    if (decide ((x12 : Int) < x2)) = true then
    ((x7a).bind fun p1 =>
    if 0 ≤ (x12 : Int) ∧ x12 < ((x7n : Nat) : Int) then
    ((ldA h p1.1 (p1.2 + Int.toNat x12 * 1)).bind fun v2 =>
    (asB v2).bind fun t3 =>
    if t3 = true then
    (let h4 := AHeap.put h (nx + 9) (some ⟨[(.int .i64 x12)], 1, true⟩)
    (srcS h4 (some ((nx + 9), 0)) 1 1).bind fun q5 =>
    (appD h4 x11a x11n x11c 1 8 (nx + 10) q5).bind fun e6 =>
    let h7 := AHeap.puts h4 e6.sets
    F26_L4 call Y lf n0 x2 x7a x7n x7c e6.a e6.n e6.c (wrapA .i64 (x12 + 1)) h7 (nx + 15))
    else
    (F26_L4 call Y lf n0 x2 x7a x7n x7c x11a x11n x11c (wrapA .i64 (x12 + 1)) h (nx + 10)))
    else none)
    else
    (some ((.slice x11a x11n x11c), h, (nx + 5))) := F26_L4_eq' go1 call Y lf n0 x2 x7a x7n x7c x11a x11n x11c x12 h nx

theorem F26_L4_zero (call : YldF → CallF) (Y : YldF) (lf : Nat) (x2 : Int) (x7a : Option (Nat × Nat)) (x7n : Nat) (x7c : Bool) (x11a : Option (Nat × Nat)) (x11n : Nat) (x11c : Bool) (x12 : Int) (h : AHeap) (nx : Nat) : F26_L4 call Y lf 0 x2 x7a x7n x7c x11a x11n x11c x12 h nx = none := by kernel_rfl

theorem F26_eq' (J : StepF (AV × AHeap × Nat) → StepF (AV × AHeap × Nat)) (n : Nat) (Y : YldF) (x0a : Option (Nat × Nat)) (x0n : Nat) (x0c : Bool) (x1 : Int) (x2 : Int) (h : AHeap) (nx : Nat) : rootJ J Try.prog keepT (callP Try.prog keepT n) Y n 26 [(.slice x0a x0n x0c), (.int .i64 x1), (.int .i64 x2)] h nx =
    if (decide (0 ≤ (x2 : Int)) && decide ((x2 : Int) ≤ x2) && decide (((1 : Nat) : Int) * x2 ≤ 281474976710656) && decide ((x2 : Int) ≤ 9223372036854775807) && 1 != 0) = true then
    (let h1 := AHeap.put h (nx + 2) (some ⟨(madeA [(.bool false)] (Int.toNat x2 * 1)), 1, true⟩)
    F26_L1' J J (callP Try.prog keepT n) Y n n x0a x0n x0c x1 x2 (some ((nx + 2), 0)) (Int.toNat x2) (x2 == x2) 0 0 h1 (nx + 6))
    else none := by kernel_rfl

/-- quickset/quicksetkeep.Several -/
theorem F26_eq (n : Nat) (Y : YldF) (x0a : Option (Nat × Nat)) (x0n : Nat) (x0c : Bool) (x1 : Int) (x2 : Int) (h : AHeap) (nx : Nat) : callP Try.prog keepT (n + 1) Y 26 [(.slice x0a x0n x0c), (.int .i64 x1), (.int .i64 x2)] h nx =
    if (decide (0 ≤ (x2 : Int)) && decide ((x2 : Int) ≤ x2) && decide (((1 : Nat) : Int) * x2 ≤ 281474976710656) && decide ((x2 : Int) ≤ 9223372036854775807) && 1 != 0) = true then
    (let h1 := AHeap.put h (nx + 2) (some ⟨(madeA [(.bool false)] (Int.toNat x2 * 1)), 1, true⟩)
    F26_L1 (callP Try.prog keepT n) Y n n x0a x0n x0c x1 x2 (some ((nx + 2), 0)) (Int.toNat x2) (x2 == x2) 0 0 h1 (nx + 6))
    else none := F26_eq' go1 n Y x0a x0n x0c x1 x2 h nx

end Go.Proofs.Ytdjbhonncjcbjaa.T
