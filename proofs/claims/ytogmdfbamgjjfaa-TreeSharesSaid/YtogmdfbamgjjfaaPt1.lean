/- Printed by mp.py: functions of the program as plain Lean, each by the kernel. -/
import Derived.Test.YtogmdfbamgjjfaaTG
import Derived.Test.YtogmdfbamgjjfaaProg
import Derived.KernelRfl
set_option linter.unusedVariables false
set_option linter.unusedSimpArgs false
namespace Go.Proofs.Ytogmdfbamgjjfaa.T
open Go Go.RowKit Go.Proofs
set_option maxRecDepth 100000

def keepT : Nat → Keep := keepOf [(3, [(0, false, [0, 1, 2, 3]), (1, false, [0, 1, 2, 3]), (2, false, [1, 2, 3, 9]), (3, false, [1, 2, 9, 10]), (4, false, [9, 10, 11]), (5, false, [9, 11, 12, 13]), (6, false, [11, 12, 13, 14, 15]), (7, false, []), (8, true, [11, 12, 14]), (9, false, [11, 12, 14, 16]), (10, false, [11, 12, 14, 16]), (11, false, [11, 12, 14, 16]), (12, false, [11, 12, 14, 16, 17]), (13, false, [11, 12, 14, 16]), (14, true, [11, 12, 14, 16, 17]), (15, false, [11, 12, 14, 16]), (16, true, [11, 12, 14, 16, 17]), (17, false, []), (18, false, [])]),
  (4, [(0, false, [0, 1, 2, 3]), (1, false, [0, 1, 2, 3]), (2, false, [1, 2, 3, 9]), (3, false, [1, 2, 9, 10]), (4, false, [9, 10, 11]), (5, false, [10, 11, 12]), (6, false, [11, 12, 13, 14]), (7, false, [11, 12, 13, 14, 15, 16]), (8, false, [11, 12, 13, 14, 15, 16, 18]), (9, false, [11, 12, 13, 14, 15, 16, 18, 20]), (10, false, []), (11, true, [11, 12, 13, 15]), (12, false, [11, 12, 13, 15, 21]), (13, false, [11, 12, 13, 15, 21, 22]), (14, false, [11, 12, 13, 15]), (15, false, [11, 12, 13, 15, 21]), (16, true, [11, 12, 15, 21, 22]), (17, false, [11, 12, 21, 22, 23]), (18, false, [11, 12, 21, 22, 23, 24]), (19, false, [11, 12, 21, 22, 23, 24]), (20, false, [11, 12, 21, 22, 23, 24]), (21, false, [11, 12, 21, 22, 23, 24, 25]), (22, true, [11, 12, 21, 22, 23, 24, 25, 26]), (23, false, []), (24, true, [11, 12, 21, 22, 23, 24, 25]), (25, false, [11, 12, 21, 22, 23, 24, 25]), (26, false, [11, 12, 21, 22, 23, 24, 25, 27]), (27, false, [11, 12, 21, 22, 23, 24, 25, 27, 28]), (28, false, [11, 12, 21, 22, 23, 24, 25, 27, 28]), (29, false, [11, 12, 21, 22, 23, 24, 25, 27, 28]), (30, false, [11, 12, 21, 22, 23, 24, 27]), (31, false, []), (32, false, [])]),
  (5, [(0, false, [0, 1]), (1, false, [0, 1]), (2, false, [1, 5]), (3, false, [5, 6]), (4, false, [5, 6, 7, 8]), (5, false, [7, 8, 9, 10]), (6, false, [7, 8, 9, 10, 11, 12]), (7, false, []), (8, true, [7, 9, 11]), (9, false, [7, 9, 11, 13]), (10, false, [7, 9, 11, 13]), (11, false, [7, 9, 11, 13]), (12, false, []), (13, false, [7, 9]), (14, false, []), (15, true, []), (16, false, [14, 15])]),
  (6, [(0, false, [0, 1, 2]), (1, false, [0, 1, 2]), (2, false, [1, 2, 7]), (3, false, [1, 7, 8]), (4, false, [7, 8, 9]), (5, false, [7, 8, 9, 10, 11]), (6, false, [7, 8, 9, 10, 11, 12, 13]), (7, false, [8, 9, 10, 11, 12, 13, 14, 15]), (8, false, [10, 11, 12, 13, 14, 15, 16, 17]), (9, false, []), (10, true, [10, 14, 16]), (11, false, [10, 14, 16, 18, 19]), (12, false, [10, 14, 18, 19, 20, 21])]),
  (7, [(0, false, [0, 1]), (1, false, [0, 1]), (2, false, [0, 1, 5]), (3, false, [0, 1, 5, 6]), (4, false, [0, 1, 5, 6]), (5, true, [0, 1, 5, 6]), (6, false, [0, 1, 5, 6, 7]), (7, false, [0, 1, 5, 6, 7]), (8, true, [0, 1, 5, 6, 7]), (9, false, [5])]),
  (8, [(0, false, [0, 1]), (1, false, [0, 1]), (2, false, [0, 1]), (3, false, [0, 1]), (4, false, [0])]),
  (9, [(0, false, [0, 1]), (1, false, [0, 1]), (2, false, []), (3, false, [0, 1])]),
  (10, [(0, false, [0, 1]), (1, false, [0, 1]), (2, false, [0, 6, 7]), (3, false, []), (4, true, [0, 6]), (5, false, [8])]),
  (11, [(0, false, [0, 1]), (1, false, [0, 1]), (2, false, [1, 7, 8]), (3, false, [8]), (4, false, [1, 7]), (5, false, []), (6, true, [1, 7]), (7, false, [1, 7, 9]), (8, false, [1, 7, 9, 10]), (9, false, [9, 10, 11]), (10, false, [9, 10, 11]), (11, true, [9, 10]), (12, false, [9, 10, 12]), (13, false, [9, 10, 12]), (14, false, [9, 10, 12]), (15, false, [9, 10, 12, 13]), (16, false, [9, 10, 12, 13, 14]), (17, false, [9, 10, 12, 13, 14]), (18, false, [9, 10, 12, 14]), (19, false, [9, 10, 12, 13, 14]), (20, false, [9, 10, 12, 14, 93, 94]), (21, false, [9, 10, 12, 14, 93, 94]), (22, false, [9, 10, 12, 14, 16, 93, 94]), (23, false, [9, 10, 12, 14, 16, 17, 93, 94]), (24, false, [9, 10, 12, 14, 16, 93, 94]), (25, false, [9, 10, 12, 14, 16, 17, 93, 94]), (26, true, [9, 10, 12, 14, 17, 93, 94]), (27, false, [9, 10, 12, 14, 93, 94]), (28, false, [9, 10, 12, 14]), (29, false, [9])]),
  (12, [(0, false, [0]), (1, false, [0]), (2, false, []), (3, false, [0]), (4, false, []), (5, true, [0]), (6, false, [0, 4]), (7, false, [0, 4, 5]), (8, false, []), (9, false, [4, 5]), (10, false, [4, 5, 6]), (11, false, [4, 5, 6]), (12, false, [4, 5, 6]), (13, false, []), (14, false, [4])]),
  (13, [(0, false, [0, 1, 2]), (1, false, [0, 1, 2]), (2, false, [0, 2, 7]), (3, false, [0, 2, 7, 8]), (4, false, [0, 2, 7, 8, 9]), (5, false, [0, 2, 7, 8, 9]), (6, false, [0, 2, 7, 8, 9]), (7, false, [0, 2, 7, 8, 9]), (8, false, [8])]),
  (14, [(0, false, [0]), (1, false, [0])]),
  (15, [(0, false, [0, 1]), (1, false, [0, 1]), (2, false, []), (3, false, [0, 1]), (4, false, [0, 1, 5]), (5, false, [0, 1, 5]), (6, false, [0, 1, 5]), (7, false, []), (8, false, [])]),
  (16, [(0, false, [0]), (1, false, [0]), (2, false, [4, 6])]),
  (17, [(0, false, [0]), (1, false, [0]), (2, false, []), (3, false, [0]), (4, false, [0, 5]), (5, false, [0, 5, 6]), (6, false, [5, 6, 15, 16, 17]), (7, false, [5, 6, 15, 16, 17]), (8, false, [5, 6, 8, 15, 16, 17]), (9, false, [5, 6, 15, 16, 17]), (10, false, [5, 6])]),
  (18, [(0, false, [0]), (1, false, [0]), (2, false, []), (3, false, [0])]),
  (19, [(0, false, [0, 1, 2, 3, 4]), (1, false, [0, 1, 2, 3, 4]), (2, false, [0, 1, 2, 3, 4, 11]), (3, false, []), (4, true, [0, 1, 2, 3, 4, 11]), (5, false, [2, 3, 11]), (6, false, []), (7, true, [2, 3, 11]), (8, false, [2, 3, 11, 12]), (9, false, [2, 3, 11, 12]), (10, true, [2, 3, 11, 12]), (11, false, []), (12, false, [0, 1, 2, 3, 4, 11]), (13, false, []), (14, true, [0, 1, 2, 3, 4, 11]), (15, false, [0, 1, 2, 3, 4, 11, 13]), (16, false, [0, 1, 2, 3, 4, 11, 13]), (17, false, [0, 1, 2, 3, 4, 11, 13]), (18, false, [0, 1, 2, 3, 4, 11, 13, 14]), (19, false, [0, 1, 2, 3, 4, 11, 13, 14]), (20, false, []), (21, true, [0, 1, 2, 3, 4, 11, 13, 14]), (22, false, [0, 1, 2, 3, 4, 11, 13, 14]), (23, false, []), (24, false, [])]),
  (20, [(0, false, [0, 1]), (1, false, [0, 3, 4]), (2, false, [4]), (3, true, [0, 3, 4]), (4, false, [4]), (5, true, [0, 3, 4]), (6, false, [0, 3, 4, 5]), (7, false, [0, 3, 4, 5, 39]), (8, false, [0, 3, 4, 5]), (9, false, [4]), (10, false, [0, 3, 4, 5]), (11, false, [4]), (12, true, [0, 3, 4, 5]), (13, false, [0, 3, 4, 5]), (14, false, [0, 3, 4, 5, 6]), (15, false, [0, 3, 4, 5, 39]), (16, false, [0, 3, 4, 5]), (17, false, [4]), (18, true, [0, 3, 4, 5]), (19, false, [3, 4, 5]), (20, false, [4]), (21, true, [3, 4, 5])]),
  (21, [(0, false, [0]), (1, false, [0, 2])]),
  (22, [(0, false, [0]), (1, false, [0]), (2, false, [0, 3]), (3, false, [0, 3]), (4, false, [3])]),
  (23, [(0, false, [0, 1]), (1, false, [0, 3, 4]), (2, false, [0, 3, 4])]),
  (24, [(0, false, [0, 1, 2, 3, 4, 5]), (1, false, [0, 1, 2, 3, 4, 5]), (2, false, [1]), (3, true, [0, 1, 2, 3, 4, 5]), (4, false, [0, 1, 2, 3, 4, 5]), (5, true, [0, 1, 2, 3, 4, 5]), (6, false, [1, 3, 4, 5]), (7, false, [1, 3, 4, 5, 52]), (8, false, [1, 3, 4, 5, 52]), (9, false, [1, 3, 4, 5, 13, 52]), (10, false, [1, 3, 4, 5, 13, 14, 52]), (11, false, [1, 3, 4, 5, 13, 14, 52]), (12, false, [1, 3, 4, 5, 52]), (13, false, [1]), (14, false, [0, 1, 2, 3, 4, 5]), (15, false, [0, 1, 2, 3, 4, 5, 82, 83]), (16, false, [0, 1, 2, 3, 4, 5, 82, 83]), (17, false, [0, 1, 2, 3, 4, 5, 15, 16, 82, 83]), (18, false, [0, 1, 2, 3, 4, 5, 82, 83]), (19, false, [1])]),
  (25, [(0, false, [0, 1, 2]), (1, false, [0, 2, 4]), (2, false, [0, 2, 7]), (3, false, []), (4, false, [0, 2, 7]), (5, false, [0, 2, 7]), (6, false, [0, 2, 7, 8]), (7, false, [0, 2, 8]), (8, false, [7])]),
  (26, [(0, false, [0, 1, 2]), (1, false, [0, 2, 4, 6]), (2, false, [0, 2, 4, 6, 7]), (3, false, [0, 2, 6, 7, 8]), (4, true, [0, 2, 6, 7, 8]), (5, true, [0, 2, 6, 7, 8]), (6, false, [0, 2, 6, 7, 8]), (7, false, [0, 2, 6, 7]), (8, true, [2, 6, 8])]),
  (27, [(0, false, [0, 1, 2]), (1, false, [1, 2, 3]), (2, false, []), (3, false, [1, 2, 3]), (4, false, [1, 3, 7]), (5, false, [7])]),
  (28, [(0, false, [0]), (1, false, [0])]),
  (29, [(0, false, [0, 1, 2]), (1, false, [0, 1, 2]), (2, false, [0, 1, 7]), (3, false, [0, 1, 7]), (4, true, [0, 7]), (5, false, [0, 7]), (6, false, [7])]),
  (30, [(0, false, [0, 1, 2, 3]), (1, false, [0, 1, 2, 3]), (2, false, []), (3, false, [0, 1, 2, 3]), (4, false, [1]), (5, true, [0, 1, 2, 3]), (6, false, [0, 1, 2, 3]), (7, false, [1, 2, 3]), (8, false, [1]), (9, false, [0, 1, 2, 3]), (10, false, [0, 1, 2, 3, 53, 54]), (11, false, [0, 1, 2, 3, 53, 54]), (12, false, [0, 1, 2, 3, 9, 10, 53, 54]), (13, false, [0, 1, 2, 3, 53, 54]), (14, false, [1])]),
  (31, [(0, false, [0, 1, 2, 3]), (1, true, [0, 1, 2, 3]), (2, false, [0, 1, 2, 3]), (3, false, [1, 2, 3, 42, 43]), (4, false, [1, 2, 3, 42, 43]), (5, false, [1, 2, 3, 8, 9, 42, 43]), (6, false, [1, 2, 3, 9, 10, 42, 43]), (7, false, [1, 2, 3, 9, 10, 42, 43]), (8, false, [1, 2, 3, 42, 43]), (9, false, [0, 1, 2, 3]), (10, false, [0, 1, 2, 3, 68, 69]), (11, false, [0, 1, 2, 3, 68, 69]), (12, false, [0, 1, 2, 3, 11, 12, 68, 69]), (13, false, [0, 1, 2, 3, 68, 69])])]

noncomputable def c3 : Code := (Try.f3.body).getD .skip

noncomputable def r3 : List ResultVar := Try.f3.results.toList

noncomputable def F3_J1' (W J : StepF (AV × AHeap × Nat) → StepF (AV × AHeap × Nat)) (call : YldF → CallF) (Y : YldF) (lf : Nat) (x11 : Option (Nat × Nat)) (x12a : Option (Nat × Nat)) (x12n : Nat) (x12c : Bool) (x14a : Option (Nat × Nat)) (x14n : Nat) (x14c : Bool) (h : AHeap) (nx : Nat) : Option (AV × AHeap × Nat) :=
  goK W J drawK (machOf Try.prog) call Y (keepT 3) lf c3 [1, 1, 1, 1, 1, 1, 1] [] (retK (machOf Try.prog) ⟨c3, 111, r3, keepT 3⟩) ⟨111, mkL [(11, (.ptr x11)), (12, (.slice x12a x12n x12c)), (14, (.slice x14a x14n x14c))]⟩ h nx

noncomputable def F3_J1 (call : YldF → CallF) (Y : YldF) (lf : Nat) (x11 : Option (Nat × Nat)) (x12a : Option (Nat × Nat)) (x12n : Nat) (x12c : Bool) (x14a : Option (Nat × Nat)) (x14n : Nat) (x14c : Bool) (h : AHeap) (nx : Nat) : Option (AV × AHeap × Nat) := F3_J1' go1 go1 call Y lf x11 x12a x12n x12c x14a x14n x14c h nx

noncomputable def F3_L2' (W J : StepF (AV × AHeap × Nat) → StepF (AV × AHeap × Nat)) (call : YldF → CallF) (Y : YldF) (lf : Nat) (n0 : Nat) (x11 : Option (Nat × Nat)) (x12a : Option (Nat × Nat)) (x12n : Nat) (x12c : Bool) (x14a : Option (Nat × Nat)) (x14n : Nat) (x14c : Bool) (x16 : Int) (h : AHeap) (nx : Nat) : Option (AV × AHeap × Nat) :=
  goK W J drawK (machOf Try.prog) call Y (keepT 3) lf c3 [1, 1, 1, 1, 1, 1, 1, 0, 1, 0, 9] [n0] (retK (machOf Try.prog) ⟨c3, 111, r3, keepT 3⟩) ⟨111, mkL [(11, (.ptr x11)), (12, (.slice x12a x12n x12c)), (14, (.slice x14a x14n x14c)), (16, (.int .i64 x16))]⟩ h nx

noncomputable def F3_L2 (call : YldF → CallF) (Y : YldF) (lf : Nat) (n0 : Nat) (x11 : Option (Nat × Nat)) (x12a : Option (Nat × Nat)) (x12n : Nat) (x12c : Bool) (x14a : Option (Nat × Nat)) (x14n : Nat) (x14c : Bool) (x16 : Int) (h : AHeap) (nx : Nat) : Option (AV × AHeap × Nat) := F3_L2' go1 go1 call Y lf n0 x11 x12a x12n x12c x14a x14n x14c x16 h nx

noncomputable def F3_J3' (W J : StepF (AV × AHeap × Nat) → StepF (AV × AHeap × Nat)) (call : YldF → CallF) (Y : YldF) (lf : Nat) (n0 : Nat) (x11 : Option (Nat × Nat)) (x12a : Option (Nat × Nat)) (x12n : Nat) (x12c : Bool) (x14a : Option (Nat × Nat)) (x14n : Nat) (x14c : Bool) (x16 : Int) (x17 : Int) (h : AHeap) (nx : Nat) : Option (AV × AHeap × Nat) :=
  goK W J drawK (machOf Try.prog) call Y (keepT 3) lf c3 [1, 1, 1, 1, 1, 1, 1, 0, 1, 0, 0, 1, 0, 0, 1, 1] [n0] (retK (machOf Try.prog) ⟨c3, 111, r3, keepT 3⟩) ⟨111, mkL [(11, (.ptr x11)), (12, (.slice x12a x12n x12c)), (14, (.slice x14a x14n x14c)), (16, (.int .i64 x16)), (17, (.int .u8 x17))]⟩ h nx

noncomputable def F3_J3 (call : YldF → CallF) (Y : YldF) (lf : Nat) (n0 : Nat) (x11 : Option (Nat × Nat)) (x12a : Option (Nat × Nat)) (x12n : Nat) (x12c : Bool) (x14a : Option (Nat × Nat)) (x14n : Nat) (x14c : Bool) (x16 : Int) (x17 : Int) (h : AHeap) (nx : Nat) : Option (AV × AHeap × Nat) := F3_J3' go1 go1 call Y lf n0 x11 x12a x12n x12c x14a x14n x14c x16 x17 h nx

noncomputable def F3_J4' (W J : StepF (AV × AHeap × Nat) → StepF (AV × AHeap × Nat)) (call : YldF → CallF) (Y : YldF) (lf : Nat) (n0 : Nat) (x11 : Option (Nat × Nat)) (x12a : Option (Nat × Nat)) (x12n : Nat) (x12c : Bool) (x14a : Option (Nat × Nat)) (x14n : Nat) (x14c : Bool) (x16 : Int) (x17 : Int) (h : AHeap) (nx : Nat) : Option (AV × AHeap × Nat) :=
  goK W J drawK (machOf Try.prog) call Y (keepT 3) lf c3 [1, 1, 1, 1, 1, 1, 1, 0, 1, 0, 0, 1, 0, 0, 1, 1, 1] [n0] (retK (machOf Try.prog) ⟨c3, 111, r3, keepT 3⟩) ⟨111, mkL [(11, (.ptr x11)), (12, (.slice x12a x12n x12c)), (14, (.slice x14a x14n x14c)), (16, (.int .i64 x16)), (17, (.int .u8 x17))]⟩ h nx

noncomputable def F3_J4 (call : YldF → CallF) (Y : YldF) (lf : Nat) (n0 : Nat) (x11 : Option (Nat × Nat)) (x12a : Option (Nat × Nat)) (x12n : Nat) (x12c : Bool) (x14a : Option (Nat × Nat)) (x14n : Nat) (x14c : Bool) (x16 : Int) (x17 : Int) (h : AHeap) (nx : Nat) : Option (AV × AHeap × Nat) := F3_J4' go1 go1 call Y lf n0 x11 x12a x12n x12c x14a x14n x14c x16 x17 h nx

theorem F3_J1_eq' (J : StepF (AV × AHeap × Nat) → StepF (AV × AHeap × Nat)) (call : YldF → CallF) (Y : YldF) (lf : Nat) (x11 : Option (Nat × Nat)) (x12a : Option (Nat × Nat)) (x12n : Nat) (x12c : Bool) (x14a : Option (Nat × Nat)) (x14n : Nat) (x14c : Bool) (h : AHeap) (nx : Nat) : F3_J1' go1 J call Y lf x11 x12a x12n x12c x14a x14n x14c h nx =
    F3_L2' J J call Y lf lf x11 x12a x12n x12c x14a x14n x14c 0 h (nx + 1) := by kernel_rfl

theorem F3_J1_eq (call : YldF → CallF) (Y : YldF) (lf : Nat) (x11 : Option (Nat × Nat)) (x12a : Option (Nat × Nat)) (x12n : Nat) (x12c : Bool) (x14a : Option (Nat × Nat)) (x14n : Nat) (x14c : Bool) (h : AHeap) (nx : Nat) : F3_J1 call Y lf x11 x12a x12n x12c x14a x14n x14c h nx =
    F3_L2 call Y lf lf x11 x12a x12n x12c x14a x14n x14c 0 h (nx + 1) := F3_J1_eq' go1 call Y lf x11 x12a x12n x12c x14a x14n x14c h nx

theorem F3_L2_eq' (J : StepF (AV × AHeap × Nat) → StepF (AV × AHeap × Nat)) (call : YldF → CallF) (Y : YldF) (lf : Nat) (n0 : Nat) (x11 : Option (Nat × Nat)) (x12a : Option (Nat × Nat)) (x12n : Nat) (x12c : Bool) (x14a : Option (Nat × Nat)) (x14n : Nat) (x14c : Bool) (x16 : Int) (h : AHeap) (nx : Nat) : F3_L2' go1 J call Y lf (n0 + 1) x11 x12a x12n x12c x14a x14n x14c x16 h nx =
    if (decide ((x16 : Int) < ((x14n : Nat) : Int))) = true then
    (if (decide ((x16 : Int) < ((x12n : Nat) : Int))) = true then
    ((x12a).bind fun p1 =>
    if 0 ≤ (x16 : Int) ∧ x16 < ((x12n : Nat) : Int) then
    ((ldA h p1.1 (p1.2 + Int.toNat x16 * 1)).bind fun v2 =>
    (asI .u8 v2).bind fun n3 =>
    F3_J3' J J call Y lf n0 x11 x12a x12n x12c x14a x14n x14c x16 n3 h (nx + 14))
    else none)
    else
    (F3_J3' J J call Y lf n0 x11 x12a x12n x12c x14a x14n x14c x16 0 h (nx + 9)))
    else
    (some ((.bool true), h, (nx + 5))) := by kernel_rfl

theorem F3_L2_eq (call : YldF → CallF) (Y : YldF) (lf : Nat) (n0 : Nat) (x11 : Option (Nat × Nat)) (x12a : Option (Nat × Nat)) (x12n : Nat) (x12c : Bool) (x14a : Option (Nat × Nat)) (x14n : Nat) (x14c : Bool) (x16 : Int) (h : AHeap) (nx : Nat) : F3_L2 call Y lf (n0 + 1) x11 x12a x12n x12c x14a x14n x14c x16 h nx =
    if (decide ((x16 : Int) < ((x14n : Nat) : Int))) = true then
    (if (decide ((x16 : Int) < ((x12n : Nat) : Int))) = true then
    ((x12a).bind fun p1 =>
    if 0 ≤ (x16 : Int) ∧ x16 < ((x12n : Nat) : Int) then
    ((ldA h p1.1 (p1.2 + Int.toNat x16 * 1)).bind fun v2 =>
    (asI .u8 v2).bind fun n3 =>
    F3_J3 call Y lf n0 x11 x12a x12n x12c x14a x14n x14c x16 n3 h (nx + 14))
    else none)
    else
    (F3_J3 call Y lf n0 x11 x12a x12n x12c x14a x14n x14c x16 0 h (nx + 9)))
    else
    (some ((.bool true), h, (nx + 5))) := F3_L2_eq' go1 call Y lf n0 x11 x12a x12n x12c x14a x14n x14c x16 h nx

theorem F3_L2_zero (call : YldF → CallF) (Y : YldF) (lf : Nat) (x11 : Option (Nat × Nat)) (x12a : Option (Nat × Nat)) (x12n : Nat) (x12c : Bool) (x14a : Option (Nat × Nat)) (x14n : Nat) (x14c : Bool) (x16 : Int) (h : AHeap) (nx : Nat) : F3_L2 call Y lf 0 x11 x12a x12n x12c x14a x14n x14c x16 h nx = none := by kernel_rfl

theorem F3_J3_eq' (J : StepF (AV × AHeap × Nat) → StepF (AV × AHeap × Nat)) (call : YldF → CallF) (Y : YldF) (lf : Nat) (n0 : Nat) (x11 : Option (Nat × Nat)) (x12a : Option (Nat × Nat)) (x12n : Nat) (x12c : Bool) (x14a : Option (Nat × Nat)) (x14n : Nat) (x14c : Bool) (x16 : Int) (x17 : Int) (h : AHeap) (nx : Nat) : F3_J3' go1 J call Y lf n0 x11 x12a x12n x12c x14a x14n x14c x16 x17 h nx =
    (x11).bind fun p1 =>
    (ldA h p1.1 (p1.2 + 2)).bind fun v2 =>
    (asI .i64 v2).bind fun n3 =>
    if (decide ((x16 : Int) ≥ n3)) = true then
    ((x11).bind fun p4 =>
    (ldA h p4.1 (p4.2 + 2)).bind fun v5 =>
    (asI .i64 v5).bind fun n6 =>
    (x11).bind fun p7 =>
    (ldA h p7.1 (p7.2 + 4)).bind fun v8 =>
    (asSl v8).bind fun s9 =>
    if (decide ((x16 : Int) < (wrapA .i64 (n6 + ((s9.2.1 : Nat) : Int))))) = true then
    ((x11).bind fun p10 =>
    (ldA h p10.1 (p10.2 + 4)).bind fun v11 =>
    (asSl v11).bind fun s12 =>
    (x11).bind fun p13 =>
    (ldA h p13.1 (p13.2 + 2)).bind fun v14 =>
    (asI .i64 v14).bind fun n15 =>
    (s12.1).bind fun p16 =>
    if 0 ≤ ((wrapA .i64 (x16 - n15)) : Int) ∧ (wrapA .i64 (x16 - n15)) < ((s12.2.1 : Nat) : Int) then
    ((ldA h p16.1 (p16.2 + Int.toNat (wrapA .i64 (x16 - n15)) * 1)).bind fun v17 =>
    (asI .u8 v17).bind fun n18 =>
    F3_J4' J J call Y lf n0 x11 x12a x12n x12c x14a x14n x14c x16 n18 h (nx + 23))
    else none)
    else
    (F3_J4' J J call Y lf n0 x11 x12a x12n x12c x14a x14n x14c x16 x17 h (nx + 14)))
    else
    (F3_J4' J J call Y lf n0 x11 x12a x12n x12c x14a x14n x14c x16 x17 h (nx + 14)) := by kernel_rfl

theorem F3_J3_eq (call : YldF → CallF) (Y : YldF) (lf : Nat) (n0 : Nat) (x11 : Option (Nat × Nat)) (x12a : Option (Nat × Nat)) (x12n : Nat) (x12c : Bool) (x14a : Option (Nat × Nat)) (x14n : Nat) (x14c : Bool) (x16 : Int) (x17 : Int) (h : AHeap) (nx : Nat) : F3_J3 call Y lf n0 x11 x12a x12n x12c x14a x14n x14c x16 x17 h nx =
    (x11).bind fun p1 =>
    (ldA h p1.1 (p1.2 + 2)).bind fun v2 =>
    (asI .i64 v2).bind fun n3 =>
    if (decide ((x16 : Int) ≥ n3)) = true then
    ((x11).bind fun p4 =>
    (ldA h p4.1 (p4.2 + 2)).bind fun v5 =>
    (asI .i64 v5).bind fun n6 =>
    (x11).bind fun p7 =>
    (ldA h p7.1 (p7.2 + 4)).bind fun v8 =>
    (asSl v8).bind fun s9 =>
    if (decide ((x16 : Int) < (wrapA .i64 (n6 + ((s9.2.1 : Nat) : Int))))) = true then
    ((x11).bind fun p10 =>
    (ldA h p10.1 (p10.2 + 4)).bind fun v11 =>
    (asSl v11).bind fun s12 =>
    (x11).bind fun p13 =>
    (ldA h p13.1 (p13.2 + 2)).bind fun v14 =>
    (asI .i64 v14).bind fun n15 =>
    (s12.1).bind fun p16 =>
    if 0 ≤ ((wrapA .i64 (x16 - n15)) : Int) ∧ (wrapA .i64 (x16 - n15)) < ((s12.2.1 : Nat) : Int) then
    ((ldA h p16.1 (p16.2 + Int.toNat (wrapA .i64 (x16 - n15)) * 1)).bind fun v17 =>
    (asI .u8 v17).bind fun n18 =>
    F3_J4 call Y lf n0 x11 x12a x12n x12c x14a x14n x14c x16 n18 h (nx + 23))
    else none)
    else
    (F3_J4 call Y lf n0 x11 x12a x12n x12c x14a x14n x14c x16 x17 h (nx + 14)))
    else
    (F3_J4 call Y lf n0 x11 x12a x12n x12c x14a x14n x14c x16 x17 h (nx + 14)) := F3_J3_eq' go1 call Y lf n0 x11 x12a x12n x12c x14a x14n x14c x16 x17 h nx

theorem F3_J4_eq' (J : StepF (AV × AHeap × Nat) → StepF (AV × AHeap × Nat)) (call : YldF → CallF) (Y : YldF) (lf : Nat) (n0 : Nat) (x11 : Option (Nat × Nat)) (x12a : Option (Nat × Nat)) (x12n : Nat) (x12c : Bool) (x14a : Option (Nat × Nat)) (x14n : Nat) (x14c : Bool) (x16 : Int) (x17 : Int) (h : AHeap) (nx : Nat) : F3_J4' go1 J call Y lf n0 x11 x12a x12n x12c x14a x14n x14c x16 x17 h nx =
    (x14a).bind fun p1 =>
    if 0 ≤ (x16 : Int) ∧ x16 < ((x14n : Nat) : Int) then
    ((ldA h p1.1 (p1.2 + Int.toNat x16 * 1)).bind fun v2 =>
    (asI .u8 v2).bind fun n3 =>
    if ((n3 : Int) != x17) = true then
    (some ((.bool false), h, (nx + 7)))
    else
    (F3_L2' J J call Y lf n0 x11 x12a x12n x12c x14a x14n x14c (wrapA .i64 (x16 + 1)) h (nx + 9)))
    else none := by kernel_rfl

theorem F3_J4_eq (call : YldF → CallF) (Y : YldF) (lf : Nat) (n0 : Nat) (x11 : Option (Nat × Nat)) (x12a : Option (Nat × Nat)) (x12n : Nat) (x12c : Bool) (x14a : Option (Nat × Nat)) (x14n : Nat) (x14c : Bool) (x16 : Int) (x17 : Int) (h : AHeap) (nx : Nat) : F3_J4 call Y lf n0 x11 x12a x12n x12c x14a x14n x14c x16 x17 h nx =
    (x14a).bind fun p1 =>
    if 0 ≤ (x16 : Int) ∧ x16 < ((x14n : Nat) : Int) then
    ((ldA h p1.1 (p1.2 + Int.toNat x16 * 1)).bind fun v2 =>
    (asI .u8 v2).bind fun n3 =>
    if ((n3 : Int) != x17) = true then
    (some ((.bool false), h, (nx + 7)))
    else
    (F3_L2 call Y lf n0 x11 x12a x12n x12c x14a x14n x14c (wrapA .i64 (x16 + 1)) h (nx + 9)))
    else none := F3_J4_eq' go1 call Y lf n0 x11 x12a x12n x12c x14a x14n x14c x16 x17 h nx

theorem F3_eq' (J : StepF (AV × AHeap × Nat) → StepF (AV × AHeap × Nat)) (n : Nat) (Y : YldF) (x0a : Option (Nat × Nat)) (x0n : Nat) (x0c : Bool) (x1 : Int) (x2a : Option (Nat × Nat)) (x2n : Nat) (x2c : Bool) (x3 : Int) (h : AHeap) (nx : Nat) : rootJ J Try.prog keepT (callP Try.prog keepT n) Y n 3 [(.slice x0a x0n x0c), (.int .i64 x1), (.slice x2a x2n x2c), (.int .i64 x3)] h nx =
    ((callP Try.prog keepT n) Y 7 [(.slice x0a x0n x0c), (.int .i64 20)] h (nx + 4)).bind fun r1 =>
    (asSl r1.1).bind fun s2 =>
    ((callP Try.prog keepT n) Y 8 [(.int .i64 x3), (.int .i64 (wrapA .i64 (((s2.2.1 : Nat) : Int) + 1)))] r1.2.1 (r1.2.2 + 6)).bind fun r3 =>
    (asI .i64 r3.1).bind fun n4 =>
    ((callP Try.prog keepT n) Y 8 [(.int .i64 x1), (.int .i64 3000)] r3.2.1 (r3.2.2 + 8)).bind fun r5 =>
    (asI .i64 r5.1).bind fun n6 =>
    ((callP Try.prog keepT n) Y 9 [(.slice x2a x2n x2c), (.int .i64 400)] r5.2.1 r5.2.2).bind fun r7 =>
    (asSl r7.1).bind fun s8 =>
    let h9 := AHeap.put r7.2.1 (r3.2.2 + 6) (some ⟨[(.int .i64 0), (.int .i64 0), (.int .i64 0), (.int .i64 0), (.slice none 0 false)], 5, true⟩)
    (stA h9 (r3.2.2 + 6) 0 (.agg [(.int .i64 1), (.int .i64 n4), (.int .i64 n6), (.int .i64 0), (.slice s8.1 s8.2.1 s8.2.2)]) 5).bind fun b10 =>
    let h11 := AHeap.put h9 (r3.2.2 + 6) (some b10)
    ((callP Try.prog keepT n) Y 10 [(.slice s2.1 s2.2.1 s2.2.2), (.int .i64 n4)] h11 (r7.2.2 + 8)).bind fun r12 =>
    (asTup 2 r12.1).bind fun d13 =>
    (asSl (d13.getD 0 .bad)).bind fun s14 =>
    (asB (d13.getD 1 .bad)).bind fun t15 =>
    (srcS r12.2.1 s2.1 s2.2.1 5).bind fun q16 =>
    (appD r12.2.1 none 0 false 5 56 (r12.2.2 + 1) q16).bind fun e17 =>
    let h18 := AHeap.puts r12.2.1 e17.sets
    (ldR h18 (r3.2.2 + 6) 0 5).bind fun l19 =>
    (asAgg 5 (AV.agg l19)).bind fun d20 =>
    (asI .i64 (d20.getD 0 .bad)).bind fun n21 =>
    (asI .i64 (d20.getD 1 .bad)).bind fun n22 =>
    (asI .i64 (d20.getD 2 .bad)).bind fun n23 =>
    (asI .i64 (d20.getD 3 .bad)).bind fun n24 =>
    (asSl (d20.getD 4 .bad)).bind fun s25 =>
    let h26 := AHeap.put h18 (r12.2.2 + 3) (some ⟨[(.int .i64 n21), (.int .i64 n22), (.int .i64 n23), (.int .i64 n24), (.slice s25.1 s25.2.1 s25.2.2)], 5, true⟩)
    (srcS h26 (some ((r12.2.2 + 3), 0)) 1 5).bind fun q27 =>
    (appD h26 e17.a e17.n e17.c 5 56 (r12.2.2 + 4) q27).bind fun e28 =>
    let h29 := AHeap.puts h26 e28.sets
    ((callP Try.prog keepT n) Y 10 [(.slice e28.a e28.n e28.c), (.int .i64 (wrapA .i64 (((s2.2.1 : Nat) : Int) + 1)))] h29 (r12.2.2 + 14)).bind fun r30 =>
    (asTup 2 r30.1).bind fun d31 =>
    (asSl (d31.getD 0 .bad)).bind fun s32 =>
    (asB (d31.getD 1 .bad)).bind fun t33 =>
    ifApart [((idsOf e17.sets), [(r3.2.2 + 6)]), ([(r12.2.2 + 3)], e17.reads)]
    (if (!t15) = true then
    (some ((.bool false), r30.2.1, (r30.2.2 + 21)))
    else
    (if (!t33) = true then
    (some ((.bool false), r30.2.1, (r30.2.2 + 21)))
    else
    ((ldA r30.2.1 (r3.2.2 + 6) 2).bind fun v34 =>
    (asI .i64 v34).bind fun n35 =>
    (ldA r30.2.1 (r3.2.2 + 6) 4).bind fun v36 =>
    (asSl v36).bind fun s37 =>
    if ((((s32.2.1 : Nat) : Int) : Int) != (if (wrapA .i64 (n35 + ((s37.2.1 : Nat) : Int))) > ((s14.2.1 : Nat) : Int) then (wrapA .i64 (n35 + ((s37.2.1 : Nat) : Int))) else ((s14.2.1 : Nat) : Int))) = true then
    (some ((.bool false), r30.2.1, (r30.2.2 + 21)))
    else
    (F3_J1' J J (callP Try.prog keepT n) Y n (some ((r3.2.2 + 6), 0)) s14.1 s14.2.1 s14.2.2 s32.1 s32.2.1 s32.2.2 r30.2.1 (r30.2.2 + 20))))) := by kernel_rfl

/-- quickset/quicksetkeep.TreeReads -/
theorem F3_eq (n : Nat) (Y : YldF) (x0a : Option (Nat × Nat)) (x0n : Nat) (x0c : Bool) (x1 : Int) (x2a : Option (Nat × Nat)) (x2n : Nat) (x2c : Bool) (x3 : Int) (h : AHeap) (nx : Nat) : callP Try.prog keepT (n + 1) Y 3 [(.slice x0a x0n x0c), (.int .i64 x1), (.slice x2a x2n x2c), (.int .i64 x3)] h nx =
    ((callP Try.prog keepT n) Y 7 [(.slice x0a x0n x0c), (.int .i64 20)] h (nx + 4)).bind fun r1 =>
    (asSl r1.1).bind fun s2 =>
    ((callP Try.prog keepT n) Y 8 [(.int .i64 x3), (.int .i64 (wrapA .i64 (((s2.2.1 : Nat) : Int) + 1)))] r1.2.1 (r1.2.2 + 6)).bind fun r3 =>
    (asI .i64 r3.1).bind fun n4 =>
    ((callP Try.prog keepT n) Y 8 [(.int .i64 x1), (.int .i64 3000)] r3.2.1 (r3.2.2 + 8)).bind fun r5 =>
    (asI .i64 r5.1).bind fun n6 =>
    ((callP Try.prog keepT n) Y 9 [(.slice x2a x2n x2c), (.int .i64 400)] r5.2.1 r5.2.2).bind fun r7 =>
    (asSl r7.1).bind fun s8 =>
    let h9 := AHeap.put r7.2.1 (r3.2.2 + 6) (some ⟨[(.int .i64 0), (.int .i64 0), (.int .i64 0), (.int .i64 0), (.slice none 0 false)], 5, true⟩)
    (stA h9 (r3.2.2 + 6) 0 (.agg [(.int .i64 1), (.int .i64 n4), (.int .i64 n6), (.int .i64 0), (.slice s8.1 s8.2.1 s8.2.2)]) 5).bind fun b10 =>
    let h11 := AHeap.put h9 (r3.2.2 + 6) (some b10)
    ((callP Try.prog keepT n) Y 10 [(.slice s2.1 s2.2.1 s2.2.2), (.int .i64 n4)] h11 (r7.2.2 + 8)).bind fun r12 =>
    (asTup 2 r12.1).bind fun d13 =>
    (asSl (d13.getD 0 .bad)).bind fun s14 =>
    (asB (d13.getD 1 .bad)).bind fun t15 =>
    (srcS r12.2.1 s2.1 s2.2.1 5).bind fun q16 =>
    (appD r12.2.1 none 0 false 5 56 (r12.2.2 + 1) q16).bind fun e17 =>
    let h18 := AHeap.puts r12.2.1 e17.sets
    (ldR h18 (r3.2.2 + 6) 0 5).bind fun l19 =>
    (asAgg 5 (AV.agg l19)).bind fun d20 =>
    (asI .i64 (d20.getD 0 .bad)).bind fun n21 =>
    (asI .i64 (d20.getD 1 .bad)).bind fun n22 =>
    (asI .i64 (d20.getD 2 .bad)).bind fun n23 =>
    (asI .i64 (d20.getD 3 .bad)).bind fun n24 =>
    (asSl (d20.getD 4 .bad)).bind fun s25 =>
    let h26 := AHeap.put h18 (r12.2.2 + 3) (some ⟨[(.int .i64 n21), (.int .i64 n22), (.int .i64 n23), (.int .i64 n24), (.slice s25.1 s25.2.1 s25.2.2)], 5, true⟩)
    (srcS h26 (some ((r12.2.2 + 3), 0)) 1 5).bind fun q27 =>
    (appD h26 e17.a e17.n e17.c 5 56 (r12.2.2 + 4) q27).bind fun e28 =>
    let h29 := AHeap.puts h26 e28.sets
    ((callP Try.prog keepT n) Y 10 [(.slice e28.a e28.n e28.c), (.int .i64 (wrapA .i64 (((s2.2.1 : Nat) : Int) + 1)))] h29 (r12.2.2 + 14)).bind fun r30 =>
    (asTup 2 r30.1).bind fun d31 =>
    (asSl (d31.getD 0 .bad)).bind fun s32 =>
    (asB (d31.getD 1 .bad)).bind fun t33 =>
    ifApart [((idsOf e17.sets), [(r3.2.2 + 6)]), ([(r12.2.2 + 3)], e17.reads)]
    (if (!t15) = true then
    (some ((.bool false), r30.2.1, (r30.2.2 + 21)))
    else
    (if (!t33) = true then
    (some ((.bool false), r30.2.1, (r30.2.2 + 21)))
    else
    ((ldA r30.2.1 (r3.2.2 + 6) 2).bind fun v34 =>
    (asI .i64 v34).bind fun n35 =>
    (ldA r30.2.1 (r3.2.2 + 6) 4).bind fun v36 =>
    (asSl v36).bind fun s37 =>
    if ((((s32.2.1 : Nat) : Int) : Int) != (if (wrapA .i64 (n35 + ((s37.2.1 : Nat) : Int))) > ((s14.2.1 : Nat) : Int) then (wrapA .i64 (n35 + ((s37.2.1 : Nat) : Int))) else ((s14.2.1 : Nat) : Int))) = true then
    (some ((.bool false), r30.2.1, (r30.2.2 + 21)))
    else
    (F3_J1 (callP Try.prog keepT n) Y n (some ((r3.2.2 + 6), 0)) s14.1 s14.2.1 s14.2.2 s32.1 s32.2.1 s32.2.2 r30.2.1 (r30.2.2 + 20))))) := F3_eq' go1 n Y x0a x0n x0c x1 x2a x2n x2c x3 h nx

noncomputable def c4 : Code := (Try.f4.body).getD .skip

noncomputable def r4 : List ResultVar := Try.f4.results.toList

noncomputable def F4_J1' (W J : StepF (AV × AHeap × Nat) → StepF (AV × AHeap × Nat)) (call : YldF → CallF) (Y : YldF) (lf : Nat) (x11 : Option (Nat × Nat)) (x12a : Option (Nat × Nat)) (x12n : Nat) (x12c : Bool) (x13a : Option (Nat × Nat)) (x13n : Nat) (x13c : Bool) (x15a : Option (Nat × Nat)) (x15n : Nat) (x15c : Bool) (h : AHeap) (nx : Nat) : Option (AV × AHeap × Nat) :=
  goK W J drawK (machOf Try.prog) call Y (keepT 4) lf c4 [1, 1, 1, 1, 1, 1, 1, 1, 1, 1] [] (retK (machOf Try.prog) ⟨c4, 216, r4, keepT 4⟩) ⟨216, mkL [(11, (.ptr x11)), (12, (.slice x12a x12n x12c)), (13, (.slice x13a x13n x13c)), (15, (.slice x15a x15n x15c))]⟩ h nx

noncomputable def F4_J1 (call : YldF → CallF) (Y : YldF) (lf : Nat) (x11 : Option (Nat × Nat)) (x12a : Option (Nat × Nat)) (x12n : Nat) (x12c : Bool) (x13a : Option (Nat × Nat)) (x13n : Nat) (x13c : Bool) (x15a : Option (Nat × Nat)) (x15n : Nat) (x15c : Bool) (h : AHeap) (nx : Nat) : Option (AV × AHeap × Nat) := F4_J1' go1 go1 call Y lf x11 x12a x12n x12c x13a x13n x13c x15a x15n x15c h nx

noncomputable def F4_J2' (W J : StepF (AV × AHeap × Nat) → StepF (AV × AHeap × Nat)) (call : YldF → CallF) (Y : YldF) (lf : Nat) (x11 : Option (Nat × Nat)) (x12a : Option (Nat × Nat)) (x12n : Nat) (x12c : Bool) (x15a : Option (Nat × Nat)) (x15n : Nat) (x15c : Bool) (x21a : Option (Nat × Nat)) (x21n : Nat) (x21c : Bool) (x22 : Int) (h : AHeap) (nx : Nat) : Option (AV × AHeap × Nat) :=
  goK W J drawK (machOf Try.prog) call Y (keepT 4) lf c4 [1, 1, 1, 1, 1, 1, 1, 1, 1, 1, 1, 1, 1] [] (retK (machOf Try.prog) ⟨c4, 216, r4, keepT 4⟩) ⟨216, mkL [(11, (.ptr x11)), (12, (.slice x12a x12n x12c)), (15, (.slice x15a x15n x15c)), (21, (.slice x21a x21n x21c)), (22, (.int .i64 x22))]⟩ h nx

noncomputable def F4_J2 (call : YldF → CallF) (Y : YldF) (lf : Nat) (x11 : Option (Nat × Nat)) (x12a : Option (Nat × Nat)) (x12n : Nat) (x12c : Bool) (x15a : Option (Nat × Nat)) (x15n : Nat) (x15c : Bool) (x21a : Option (Nat × Nat)) (x21n : Nat) (x21c : Bool) (x22 : Int) (h : AHeap) (nx : Nat) : Option (AV × AHeap × Nat) := F4_J2' go1 go1 call Y lf x11 x12a x12n x12c x15a x15n x15c x21a x21n x21c x22 h nx

noncomputable def F4_L3' (W J : StepF (AV × AHeap × Nat) → StepF (AV × AHeap × Nat)) (call : YldF → CallF) (Y : YldF) (lf : Nat) (n0 : Nat) (x11 : Option (Nat × Nat)) (x12a : Option (Nat × Nat)) (x12n : Nat) (x12c : Bool) (x21a : Option (Nat × Nat)) (x21n : Nat) (x21c : Bool) (x22 : Int) (x23a : Option (Nat × Nat)) (x23n : Nat) (x23c : Bool) (x24 : Int) (h : AHeap) (nx : Nat) : Option (AV × AHeap × Nat) :=
  goK W J drawK (machOf Try.prog) call Y (keepT 4) lf c4 [1, 1, 1, 1, 1, 1, 1, 1, 1, 1, 1, 1, 1, 1, 0, 1, 0, 9] [n0] (retK (machOf Try.prog) ⟨c4, 216, r4, keepT 4⟩) ⟨216, mkL [(11, (.ptr x11)), (12, (.slice x12a x12n x12c)), (21, (.slice x21a x21n x21c)), (22, (.int .i64 x22)), (23, (.slice x23a x23n x23c)), (24, (.int .i64 x24))]⟩ h nx

noncomputable def F4_L3 (call : YldF → CallF) (Y : YldF) (lf : Nat) (n0 : Nat) (x11 : Option (Nat × Nat)) (x12a : Option (Nat × Nat)) (x12n : Nat) (x12c : Bool) (x21a : Option (Nat × Nat)) (x21n : Nat) (x21c : Bool) (x22 : Int) (x23a : Option (Nat × Nat)) (x23n : Nat) (x23c : Bool) (x24 : Int) (h : AHeap) (nx : Nat) : Option (AV × AHeap × Nat) := F4_L3' go1 go1 call Y lf n0 x11 x12a x12n x12c x21a x21n x21c x22 x23a x23n x23c x24 h nx

noncomputable def F4_J4' (W J : StepF (AV × AHeap × Nat) → StepF (AV × AHeap × Nat)) (call : YldF → CallF) (Y : YldF) (lf : Nat) (n0 : Nat) (x11 : Option (Nat × Nat)) (x12a : Option (Nat × Nat)) (x12n : Nat) (x12c : Bool) (x21a : Option (Nat × Nat)) (x21n : Nat) (x21c : Bool) (x22 : Int) (x23a : Option (Nat × Nat)) (x23n : Nat) (x23c : Bool) (x24 : Int) (x25 : Option (Nat × Nat)) (x26 : Bool) (h : AHeap) (nx : Nat) : Option (AV × AHeap × Nat) :=
  goK W J drawK (machOf Try.prog) call Y (keepT 4) lf c4 [1, 1, 1, 1, 1, 1, 1, 1, 1, 1, 1, 1, 1, 1, 0, 1, 0, 0, 1, 0, 0, 1, 1] [n0] (retK (machOf Try.prog) ⟨c4, 216, r4, keepT 4⟩) ⟨216, mkL [(11, (.ptr x11)), (12, (.slice x12a x12n x12c)), (21, (.slice x21a x21n x21c)), (22, (.int .i64 x22)), (23, (.slice x23a x23n x23c)), (24, (.int .i64 x24)), (25, (.ptr x25)), (26, (.bool x26))]⟩ h nx

noncomputable def F4_J4 (call : YldF → CallF) (Y : YldF) (lf : Nat) (n0 : Nat) (x11 : Option (Nat × Nat)) (x12a : Option (Nat × Nat)) (x12n : Nat) (x12c : Bool) (x21a : Option (Nat × Nat)) (x21n : Nat) (x21c : Bool) (x22 : Int) (x23a : Option (Nat × Nat)) (x23n : Nat) (x23c : Bool) (x24 : Int) (x25 : Option (Nat × Nat)) (x26 : Bool) (h : AHeap) (nx : Nat) : Option (AV × AHeap × Nat) := F4_J4' go1 go1 call Y lf n0 x11 x12a x12n x12c x21a x21n x21c x22 x23a x23n x23c x24 x25 x26 h nx

noncomputable def F4_J5' (W J : StepF (AV × AHeap × Nat) → StepF (AV × AHeap × Nat)) (call : YldF → CallF) (Y : YldF) (lf : Nat) (n0 : Nat) (x11 : Option (Nat × Nat)) (x12a : Option (Nat × Nat)) (x12n : Nat) (x12c : Bool) (x21a : Option (Nat × Nat)) (x21n : Nat) (x21c : Bool) (x22 : Int) (x23a : Option (Nat × Nat)) (x23n : Nat) (x23c : Bool) (x24 : Int) (x25 : Option (Nat × Nat)) (h : AHeap) (nx : Nat) : Option (AV × AHeap × Nat) :=
  goK W J drawK (machOf Try.prog) call Y (keepT 4) lf c4 [1, 1, 1, 1, 1, 1, 1, 1, 1, 1, 1, 1, 1, 1, 0, 1, 0, 0, 1, 0, 0, 1, 1, 1] [n0] (retK (machOf Try.prog) ⟨c4, 216, r4, keepT 4⟩) ⟨216, mkL [(11, (.ptr x11)), (12, (.slice x12a x12n x12c)), (21, (.slice x21a x21n x21c)), (22, (.int .i64 x22)), (23, (.slice x23a x23n x23c)), (24, (.int .i64 x24)), (25, (.ptr x25))]⟩ h nx

noncomputable def F4_J5 (call : YldF → CallF) (Y : YldF) (lf : Nat) (n0 : Nat) (x11 : Option (Nat × Nat)) (x12a : Option (Nat × Nat)) (x12n : Nat) (x12c : Bool) (x21a : Option (Nat × Nat)) (x21n : Nat) (x21c : Bool) (x22 : Int) (x23a : Option (Nat × Nat)) (x23n : Nat) (x23c : Bool) (x24 : Int) (x25 : Option (Nat × Nat)) (h : AHeap) (nx : Nat) : Option (AV × AHeap × Nat) := F4_J5' go1 go1 call Y lf n0 x11 x12a x12n x12c x21a x21n x21c x22 x23a x23n x23c x24 x25 h nx

noncomputable def F4_L6' (W J : StepF (AV × AHeap × Nat) → StepF (AV × AHeap × Nat)) (call : YldF → CallF) (Y : YldF) (lf : Nat) (n0 : Nat) (n1 : Nat) (x11 : Option (Nat × Nat)) (x12a : Option (Nat × Nat)) (x12n : Nat) (x12c : Bool) (x21a : Option (Nat × Nat)) (x21n : Nat) (x21c : Bool) (x22 : Int) (x23a : Option (Nat × Nat)) (x23n : Nat) (x23c : Bool) (x24 : Int) (x25 : Option (Nat × Nat)) (x27 : Bool) (x28 : Int) (h : AHeap) (nx : Nat) : Option (AV × AHeap × Nat) :=
  goK W J drawK (machOf Try.prog) call Y (keepT 4) lf c4 [1, 1, 1, 1, 1, 1, 1, 1, 1, 1, 1, 1, 1, 1, 0, 1, 0, 0, 1, 0, 0, 1, 1, 1, 1, 1, 0, 1, 0, 9] [n0, n1] (retK (machOf Try.prog) ⟨c4, 216, r4, keepT 4⟩) ⟨216, mkL [(11, (.ptr x11)), (12, (.slice x12a x12n x12c)), (21, (.slice x21a x21n x21c)), (22, (.int .i64 x22)), (23, (.slice x23a x23n x23c)), (24, (.int .i64 x24)), (25, (.ptr x25)), (27, (.bool x27)), (28, (.int .i64 x28))]⟩ h nx

noncomputable def F4_L6 (call : YldF → CallF) (Y : YldF) (lf : Nat) (n0 : Nat) (n1 : Nat) (x11 : Option (Nat × Nat)) (x12a : Option (Nat × Nat)) (x12n : Nat) (x12c : Bool) (x21a : Option (Nat × Nat)) (x21n : Nat) (x21c : Bool) (x22 : Int) (x23a : Option (Nat × Nat)) (x23n : Nat) (x23c : Bool) (x24 : Int) (x25 : Option (Nat × Nat)) (x27 : Bool) (x28 : Int) (h : AHeap) (nx : Nat) : Option (AV × AHeap × Nat) := F4_L6' go1 go1 call Y lf n0 n1 x11 x12a x12n x12c x21a x21n x21c x22 x23a x23n x23c x24 x25 x27 x28 h nx

theorem F4_J1_eq' (J : StepF (AV × AHeap × Nat) → StepF (AV × AHeap × Nat)) (call : YldF → CallF) (Y : YldF) (lf : Nat) (x11 : Option (Nat × Nat)) (x12a : Option (Nat × Nat)) (x12n : Nat) (x12c : Bool) (x13a : Option (Nat × Nat)) (x13n : Nat) (x13c : Bool) (x15a : Option (Nat × Nat)) (x15n : Nat) (x15c : Bool) (h : AHeap) (nx : Nat) : F4_J1' go1 J call Y lf x11 x12a x12n x12c x13a x13n x13c x15a x15n x15c h nx =
    if (decide ((((x13n : Nat) : Int) : Int) > 0)) = true then
    ((call Y 13 [(.slice x13a x13n x13c), (.int .i64 0), (.int .i64 0)] h (nx + 8)).bind fun r1 =>
    (asSl r1.1).bind fun s2 =>
    (x13a).bind fun p3 =>
    if 0 ≤ (0 : Int) ∧ 0 < ((x13n : Nat) : Int) then
    ((ldA r1.2.1 p3.1 ((p3.2 + Int.toNat 0 * 5) + 2)).bind fun v4 =>
    (asI .i64 v4).bind fun n5 =>
    F4_J2' J J call Y lf x11 x12a x12n x12c x15a x15n x15c s2.1 s2.2.1 s2.2.2 n5 r1.2.1 (r1.2.2 + 5))
    else none)
    else
    (F4_J2' J J call Y lf x11 x12a x12n x12c x15a x15n x15c none 0 false 100 h (nx + 5)) := by kernel_rfl

theorem F4_J1_eq (call : YldF → CallF) (Y : YldF) (lf : Nat) (x11 : Option (Nat × Nat)) (x12a : Option (Nat × Nat)) (x12n : Nat) (x12c : Bool) (x13a : Option (Nat × Nat)) (x13n : Nat) (x13c : Bool) (x15a : Option (Nat × Nat)) (x15n : Nat) (x15c : Bool) (h : AHeap) (nx : Nat) : F4_J1 call Y lf x11 x12a x12n x12c x13a x13n x13c x15a x15n x15c h nx =
    if (decide ((((x13n : Nat) : Int) : Int) > 0)) = true then
    ((call Y 13 [(.slice x13a x13n x13c), (.int .i64 0), (.int .i64 0)] h (nx + 8)).bind fun r1 =>
    (asSl r1.1).bind fun s2 =>
    (x13a).bind fun p3 =>
    if 0 ≤ (0 : Int) ∧ 0 < ((x13n : Nat) : Int) then
    ((ldA r1.2.1 p3.1 ((p3.2 + Int.toNat 0 * 5) + 2)).bind fun v4 =>
    (asI .i64 v4).bind fun n5 =>
    F4_J2 call Y lf x11 x12a x12n x12c x15a x15n x15c s2.1 s2.2.1 s2.2.2 n5 r1.2.1 (r1.2.2 + 5))
    else none)
    else
    (F4_J2 call Y lf x11 x12a x12n x12c x15a x15n x15c none 0 false 100 h (nx + 5)) := F4_J1_eq' go1 call Y lf x11 x12a x12n x12c x13a x13n x13c x15a x15n x15c h nx

theorem F4_J2_eq' (J : StepF (AV × AHeap × Nat) → StepF (AV × AHeap × Nat)) (call : YldF → CallF) (Y : YldF) (lf : Nat) (x11 : Option (Nat × Nat)) (x12a : Option (Nat × Nat)) (x12n : Nat) (x12c : Bool) (x15a : Option (Nat × Nat)) (x15n : Nat) (x15c : Bool) (x21a : Option (Nat × Nat)) (x21n : Nat) (x21c : Bool) (x22 : Int) (h : AHeap) (nx : Nat) : F4_J2' go1 J call Y lf x11 x12a x12n x12c x15a x15n x15c x21a x21n x21c x22 h nx =
    (call Y 13 [(.slice x15a x15n x15c), (.int .i64 0), (.int .i64 0)] h (nx + 3)).bind fun r1 =>
    (asSl r1.1).bind fun s2 =>
    F4_L3' J J call Y lf lf x11 x12a x12n x12c x21a x21n x21c x22 s2.1 s2.2.1 s2.2.2 0 r1.2.1 (r1.2.2 + 1) := by kernel_rfl

theorem F4_J2_eq (call : YldF → CallF) (Y : YldF) (lf : Nat) (x11 : Option (Nat × Nat)) (x12a : Option (Nat × Nat)) (x12n : Nat) (x12c : Bool) (x15a : Option (Nat × Nat)) (x15n : Nat) (x15c : Bool) (x21a : Option (Nat × Nat)) (x21n : Nat) (x21c : Bool) (x22 : Int) (h : AHeap) (nx : Nat) : F4_J2 call Y lf x11 x12a x12n x12c x15a x15n x15c x21a x21n x21c x22 h nx =
    (call Y 13 [(.slice x15a x15n x15c), (.int .i64 0), (.int .i64 0)] h (nx + 3)).bind fun r1 =>
    (asSl r1.1).bind fun s2 =>
    F4_L3 call Y lf lf x11 x12a x12n x12c x21a x21n x21c x22 s2.1 s2.2.1 s2.2.2 0 r1.2.1 (r1.2.2 + 1) := F4_J2_eq' go1 call Y lf x11 x12a x12n x12c x15a x15n x15c x21a x21n x21c x22 h nx

theorem F4_L3_eq' (J : StepF (AV × AHeap × Nat) → StepF (AV × AHeap × Nat)) (call : YldF → CallF) (Y : YldF) (lf : Nat) (n0 : Nat) (x11 : Option (Nat × Nat)) (x12a : Option (Nat × Nat)) (x12n : Nat) (x12c : Bool) (x21a : Option (Nat × Nat)) (x21n : Nat) (x21c : Bool) (x22 : Int) (x23a : Option (Nat × Nat)) (x23n : Nat) (x23c : Bool) (x24 : Int) (h : AHeap) (nx : Nat) : F4_L3' go1 J call Y lf (n0 + 1) x11 x12a x12n x12c x21a x21n x21c x22 x23a x23n x23c x24 h nx =
    if (decide ((x24 : Int) < ((x23n : Nat) : Int))) = true then
    ((x23a).bind fun p1 =>
    if 0 ≤ (x24 : Int) ∧ x24 < ((x23n : Nat) : Int) then
    ((ldR h p1.1 (p1.2 + Int.toNat x24 * 5) 5).bind fun l2 =>
    (asAgg 5 (AV.agg l2)).bind fun d3 =>
    (asI .i64 (d3.getD 0 .bad)).bind fun n4 =>
    (asI .i64 (d3.getD 1 .bad)).bind fun n5 =>
    (asI .i64 (d3.getD 2 .bad)).bind fun n6 =>
    (asI .i64 (d3.getD 3 .bad)).bind fun n7 =>
    (asSl (d3.getD 4 .bad)).bind fun s8 =>
    let h9 := AHeap.put h (nx + 8) (some ⟨[(.int .i64 0), (.int .i64 0), (.int .i64 0), (.int .i64 0), (.slice none 0 false)], 5, true⟩)
    (stA h9 (nx + 8) 0 (.agg [(.int .i64 n4), (.int .i64 n5), (.int .i64 n6), (.int .i64 n7), (.slice s8.1 s8.2.1 s8.2.2)]) 5).bind fun b10 =>
    let h11 := AHeap.put h9 (nx + 8) (some b10)
    (ldA h11 (nx + 8) 1).bind fun v12 =>
    (asI .i64 v12).bind fun n13 =>
    (x11).bind fun p14 =>
    (ldA h11 p14.1 (p14.2 + 2)).bind fun v15 =>
    (asI .i64 v15).bind fun n16 =>
    (x11).bind fun p17 =>
    (ldA h11 p17.1 (p17.2 + 4)).bind fun v18 =>
    (asSl v18).bind fun s19 =>
    if (decide ((n13 : Int) < (wrapA .i64 (n16 + ((s19.2.1 : Nat) : Int))))) = true then
    ((ldA h11 (nx + 8) 1).bind fun v20 =>
    (asI .i64 v20).bind fun n21 =>
    (ldA h11 (nx + 8) 0).bind fun v22 =>
    (asI .i64 v22).bind fun n23 =>
    (call Y 14 [(.int .i64 n23)] h11 (nx + 31)).bind fun r24 =>
    (asI .i64 r24.1).bind fun n25 =>
    (x11).bind fun p26 =>
    (ldA r24.2.1 p26.1 (p26.2 + 2)).bind fun v27 =>
    (asI .i64 v27).bind fun n28 =>
    ifKept [(h11, r24.2.1, [(nx + 8)]), (h11, r24.2.1, [p26.1])]
    (F4_J4' J J call Y lf n0 x11 x12a x12n x12c x21a x21n x21c x22 x23a x23n x23c x24 (some ((nx + 8), 0)) (decide (((wrapA .i64 (n21 + n25)) : Int) > n28)) r24.2.1 r24.2.2))
    else
    (F4_J4' J J call Y lf n0 x11 x12a x12n x12c x21a x21n x21c x22 x23a x23n x23c x24 (some ((nx + 8), 0)) false h11 (nx + 31)))
    else none)
    else
    (some ((.bool true), h, (nx + 5))) := by kernel_rfl

theorem F4_L3_eq (call : YldF → CallF) (Y : YldF) (lf : Nat) (n0 : Nat) (x11 : Option (Nat × Nat)) (x12a : Option (Nat × Nat)) (x12n : Nat) (x12c : Bool) (x21a : Option (Nat × Nat)) (x21n : Nat) (x21c : Bool) (x22 : Int) (x23a : Option (Nat × Nat)) (x23n : Nat) (x23c : Bool) (x24 : Int) (h : AHeap) (nx : Nat) : F4_L3 call Y lf (n0 + 1) x11 x12a x12n x12c x21a x21n x21c x22 x23a x23n x23c x24 h nx =
    if (decide ((x24 : Int) < ((x23n : Nat) : Int))) = true then
    ((x23a).bind fun p1 =>
    if 0 ≤ (x24 : Int) ∧ x24 < ((x23n : Nat) : Int) then
    ((ldR h p1.1 (p1.2 + Int.toNat x24 * 5) 5).bind fun l2 =>
    (asAgg 5 (AV.agg l2)).bind fun d3 =>
    (asI .i64 (d3.getD 0 .bad)).bind fun n4 =>
    (asI .i64 (d3.getD 1 .bad)).bind fun n5 =>
    (asI .i64 (d3.getD 2 .bad)).bind fun n6 =>
    (asI .i64 (d3.getD 3 .bad)).bind fun n7 =>
    (asSl (d3.getD 4 .bad)).bind fun s8 =>
    let h9 := AHeap.put h (nx + 8) (some ⟨[(.int .i64 0), (.int .i64 0), (.int .i64 0), (.int .i64 0), (.slice none 0 false)], 5, true⟩)
    (stA h9 (nx + 8) 0 (.agg [(.int .i64 n4), (.int .i64 n5), (.int .i64 n6), (.int .i64 n7), (.slice s8.1 s8.2.1 s8.2.2)]) 5).bind fun b10 =>
    let h11 := AHeap.put h9 (nx + 8) (some b10)
    (ldA h11 (nx + 8) 1).bind fun v12 =>
    (asI .i64 v12).bind fun n13 =>
    (x11).bind fun p14 =>
    (ldA h11 p14.1 (p14.2 + 2)).bind fun v15 =>
    (asI .i64 v15).bind fun n16 =>
    (x11).bind fun p17 =>
    (ldA h11 p17.1 (p17.2 + 4)).bind fun v18 =>
    (asSl v18).bind fun s19 =>
    if (decide ((n13 : Int) < (wrapA .i64 (n16 + ((s19.2.1 : Nat) : Int))))) = true then
    ((ldA h11 (nx + 8) 1).bind fun v20 =>
    (asI .i64 v20).bind fun n21 =>
    (ldA h11 (nx + 8) 0).bind fun v22 =>
    (asI .i64 v22).bind fun n23 =>
    (call Y 14 [(.int .i64 n23)] h11 (nx + 31)).bind fun r24 =>
    (asI .i64 r24.1).bind fun n25 =>
    (x11).bind fun p26 =>
    (ldA r24.2.1 p26.1 (p26.2 + 2)).bind fun v27 =>
    (asI .i64 v27).bind fun n28 =>
    ifKept [(h11, r24.2.1, [(nx + 8)]), (h11, r24.2.1, [p26.1])]
    (F4_J4 call Y lf n0 x11 x12a x12n x12c x21a x21n x21c x22 x23a x23n x23c x24 (some ((nx + 8), 0)) (decide (((wrapA .i64 (n21 + n25)) : Int) > n28)) r24.2.1 r24.2.2))
    else
    (F4_J4 call Y lf n0 x11 x12a x12n x12c x21a x21n x21c x22 x23a x23n x23c x24 (some ((nx + 8), 0)) false h11 (nx + 31)))
    else none)
    else
    (some ((.bool true), h, (nx + 5))) := F4_L3_eq' go1 call Y lf n0 x11 x12a x12n x12c x21a x21n x21c x22 x23a x23n x23c x24 h nx

theorem F4_L3_zero (call : YldF → CallF) (Y : YldF) (lf : Nat) (x11 : Option (Nat × Nat)) (x12a : Option (Nat × Nat)) (x12n : Nat) (x12c : Bool) (x21a : Option (Nat × Nat)) (x21n : Nat) (x21c : Bool) (x22 : Int) (x23a : Option (Nat × Nat)) (x23n : Nat) (x23c : Bool) (x24 : Int) (h : AHeap) (nx : Nat) : F4_L3 call Y lf 0 x11 x12a x12n x12c x21a x21n x21c x22 x23a x23n x23c x24 h nx = none := by kernel_rfl

theorem F4_J4_eq' (J : StepF (AV × AHeap × Nat) → StepF (AV × AHeap × Nat)) (call : YldF → CallF) (Y : YldF) (lf : Nat) (n0 : Nat) (x11 : Option (Nat × Nat)) (x12a : Option (Nat × Nat)) (x12n : Nat) (x12c : Bool) (x21a : Option (Nat × Nat)) (x21n : Nat) (x21c : Bool) (x22 : Int) (x23a : Option (Nat × Nat)) (x23n : Nat) (x23c : Bool) (x24 : Int) (x25 : Option (Nat × Nat)) (x26 : Bool) (h : AHeap) (nx : Nat) : F4_J4' go1 J call Y lf n0 x11 x12a x12n x12c x21a x21n x21c x22 x23a x23n x23c x24 x25 x26 h nx =
    (x25).bind fun p1 =>
    (ldA h p1.1 (p1.2 + 3)).bind fun v2 =>
    (asI .i64 v2).bind fun n3 =>
    if (decide ((n3 : Int) > ((x12n : Nat) : Int))) = true then
    (some ((.bool false), h, (nx + 21)))
    else
    ((x25).bind fun p4 =>
    (ldA h p4.1 (p4.2 + 3)).bind fun v5 =>
    (asI .i64 v5).bind fun n6 =>
    if x26 = true then
    (if (!(((n6 : Int) == ((x12n : Nat) : Int)) == true)) = true then
    (some ((.bool false), h, (nx + 21)))
    else
    (F4_J5' J J call Y lf n0 x11 x12a x12n x12c x21a x21n x21c x22 x23a x23n x23c x24 x25 h (nx + 20)))
    else
    ((x25).bind fun p7 =>
    (ldA h p7.1 p7.2).bind fun v8 =>
    (asI .i64 v8).bind fun n9 =>
    if (!(((n6 : Int) == ((x12n : Nat) : Int)) == (decide ((n9 : Int) > x22)))) = true then
    (some ((.bool false), h, (nx + 21)))
    else
    (F4_J5' J J call Y lf n0 x11 x12a x12n x12c x21a x21n x21c x22 x23a x23n x23c x24 x25 h (nx + 20)))) := by kernel_rfl

theorem F4_J4_eq (call : YldF → CallF) (Y : YldF) (lf : Nat) (n0 : Nat) (x11 : Option (Nat × Nat)) (x12a : Option (Nat × Nat)) (x12n : Nat) (x12c : Bool) (x21a : Option (Nat × Nat)) (x21n : Nat) (x21c : Bool) (x22 : Int) (x23a : Option (Nat × Nat)) (x23n : Nat) (x23c : Bool) (x24 : Int) (x25 : Option (Nat × Nat)) (x26 : Bool) (h : AHeap) (nx : Nat) : F4_J4 call Y lf n0 x11 x12a x12n x12c x21a x21n x21c x22 x23a x23n x23c x24 x25 x26 h nx =
    (x25).bind fun p1 =>
    (ldA h p1.1 (p1.2 + 3)).bind fun v2 =>
    (asI .i64 v2).bind fun n3 =>
    if (decide ((n3 : Int) > ((x12n : Nat) : Int))) = true then
    (some ((.bool false), h, (nx + 21)))
    else
    ((x25).bind fun p4 =>
    (ldA h p4.1 (p4.2 + 3)).bind fun v5 =>
    (asI .i64 v5).bind fun n6 =>
    if x26 = true then
    (if (!(((n6 : Int) == ((x12n : Nat) : Int)) == true)) = true then
    (some ((.bool false), h, (nx + 21)))
    else
    (F4_J5 call Y lf n0 x11 x12a x12n x12c x21a x21n x21c x22 x23a x23n x23c x24 x25 h (nx + 20)))
    else
    ((x25).bind fun p7 =>
    (ldA h p7.1 p7.2).bind fun v8 =>
    (asI .i64 v8).bind fun n9 =>
    if (!(((n6 : Int) == ((x12n : Nat) : Int)) == (decide ((n9 : Int) > x22)))) = true then
    (some ((.bool false), h, (nx + 21)))
    else
    (F4_J5 call Y lf n0 x11 x12a x12n x12c x21a x21n x21c x22 x23a x23n x23c x24 x25 h (nx + 20)))) := F4_J4_eq' go1 call Y lf n0 x11 x12a x12n x12c x21a x21n x21c x22 x23a x23n x23c x24 x25 x26 h nx

theorem F4_J5_eq' (J : StepF (AV × AHeap × Nat) → StepF (AV × AHeap × Nat)) (call : YldF → CallF) (Y : YldF) (lf : Nat) (n0 : Nat) (x11 : Option (Nat × Nat)) (x12a : Option (Nat × Nat)) (x12n : Nat) (x12c : Bool) (x21a : Option (Nat × Nat)) (x21n : Nat) (x21c : Bool) (x22 : Int) (x23a : Option (Nat × Nat)) (x23n : Nat) (x23c : Bool) (x24 : Int) (x25 : Option (Nat × Nat)) (h : AHeap) (nx : Nat) : F4_J5' go1 J call Y lf n0 x11 x12a x12n x12c x21a x21n x21c x22 x23a x23n x23c x24 x25 h nx =
    (x25).bind fun p1 =>
    (ldA h p1.1 (p1.2 + 3)).bind fun v2 =>
    (asI .i64 v2).bind fun n3 =>
    if ((n3 : Int) == ((x12n : Nat) : Int)) = true then
    (F4_L3' J J call Y lf n0 x11 x12a x12n x12c x21a x21n x21c x22 x23a x23n x23c (wrapA .i64 (x24 + 1)) h (nx + 8))
    else
    (F4_L6' J J call Y lf n0 lf x11 x12a x12n x12c x21a x21n x21c x22 x23a x23n x23c x24 x25 false 0 h (nx + 7)) := by kernel_rfl

theorem F4_J5_eq (call : YldF → CallF) (Y : YldF) (lf : Nat) (n0 : Nat) (x11 : Option (Nat × Nat)) (x12a : Option (Nat × Nat)) (x12n : Nat) (x12c : Bool) (x21a : Option (Nat × Nat)) (x21n : Nat) (x21c : Bool) (x22 : Int) (x23a : Option (Nat × Nat)) (x23n : Nat) (x23c : Bool) (x24 : Int) (x25 : Option (Nat × Nat)) (h : AHeap) (nx : Nat) : F4_J5 call Y lf n0 x11 x12a x12n x12c x21a x21n x21c x22 x23a x23n x23c x24 x25 h nx =
    (x25).bind fun p1 =>
    (ldA h p1.1 (p1.2 + 3)).bind fun v2 =>
    (asI .i64 v2).bind fun n3 =>
    if ((n3 : Int) == ((x12n : Nat) : Int)) = true then
    (F4_L3 call Y lf n0 x11 x12a x12n x12c x21a x21n x21c x22 x23a x23n x23c (wrapA .i64 (x24 + 1)) h (nx + 8))
    else
    (F4_L6 call Y lf n0 lf x11 x12a x12n x12c x21a x21n x21c x22 x23a x23n x23c x24 x25 false 0 h (nx + 7)) := F4_J5_eq' go1 call Y lf n0 x11 x12a x12n x12c x21a x21n x21c x22 x23a x23n x23c x24 x25 h nx

theorem F4_L6_eq' (J : StepF (AV × AHeap × Nat) → StepF (AV × AHeap × Nat)) (call : YldF → CallF) (Y : YldF) (lf : Nat) (n0 : Nat) (n1 : Nat) (x11 : Option (Nat × Nat)) (x12a : Option (Nat × Nat)) (x12n : Nat) (x12c : Bool) (x21a : Option (Nat × Nat)) (x21n : Nat) (x21c : Bool) (x22 : Int) (x23a : Option (Nat × Nat)) (x23n : Nat) (x23c : Bool) (x24 : Int) (x25 : Option (Nat × Nat)) (x27 : Bool) (x28 : Int) (h : AHeap) (nx : Nat) : F4_L6' go1 J call Y lf n0 (n1 + 1) x11 x12a x12n x12c x21a x21n x21c x22 x23a x23n x23c x24 x25 x27 x28 h nx =
    if (decide ((x28 : Int) < ((x21n : Nat) : Int))) = true then
    (if x27 = true then
    (F4_L6' J J call Y lf n0 n1 x11 x12a x12n x12c x21a x21n x21c x22 x23a x23n x23c x24 x25 true (wrapA .i64 (x28 + 1)) h (nx + 59))
    else
    ((x21a).bind fun p1 =>
    if 0 ≤ (x28 : Int) ∧ x28 < ((x21n : Nat) : Int) then
    ((ldA h p1.1 (p1.2 + Int.toNat x28 * 5)).bind fun v2 =>
    (asI .i64 v2).bind fun n3 =>
    (x25).bind fun p4 =>
    (ldA h p4.1 p4.2).bind fun v5 =>
    (asI .i64 v5).bind fun n6 =>
    if ((n3 : Int) == n6) = true then
    ((x21a).bind fun p7 =>
    if 0 ≤ (x28 : Int) ∧ x28 < ((x21n : Nat) : Int) then
    ((ldA h p7.1 ((p7.2 + Int.toNat x28 * 5) + 1)).bind fun v8 =>
    (asI .i64 v8).bind fun n9 =>
    (x25).bind fun p10 =>
    (ldA h p10.1 (p10.2 + 1)).bind fun v11 =>
    (asI .i64 v11).bind fun n12 =>
    if ((n9 : Int) == n12) = true then
    ((x21a).bind fun p13 =>
    if 0 ≤ (x28 : Int) ∧ x28 < ((x21n : Nat) : Int) then
    ((ldA h p13.1 ((p13.2 + Int.toNat x28 * 5) + 2)).bind fun v14 =>
    (asI .i64 v14).bind fun n15 =>
    (x25).bind fun p16 =>
    (ldA h p16.1 (p16.2 + 2)).bind fun v17 =>
    (asI .i64 v17).bind fun n18 =>
    if ((n15 : Int) == n18) = true then
    ((x21a).bind fun p19 =>
    if 0 ≤ (x28 : Int) ∧ x28 < ((x21n : Nat) : Int) then
    ((ldA h p19.1 ((p19.2 + Int.toNat x28 * 5) + 3)).bind fun v20 =>
    (asI .i64 v20).bind fun n21 =>
    (x25).bind fun p22 =>
    (ldA h p22.1 (p22.2 + 3)).bind fun v23 =>
    (asI .i64 v23).bind fun n24 =>
    if ((n21 : Int) == n24) = true then
    ((x21a).bind fun p25 =>
    if 0 ≤ (x28 : Int) ∧ x28 < ((x21n : Nat) : Int) then
    ((ldA h p25.1 ((p25.2 + Int.toNat x28 * 5) + 4)).bind fun v26 =>
    (asSl v26).bind fun s27 =>
    (x25).bind fun p28 =>
    (ldA h p28.1 (p28.2 + 4)).bind fun v29 =>
    (asSl v29).bind fun s30 =>
    (call Y 15 [(.slice s27.1 s27.2.1 s27.2.2), (.slice s30.1 s30.2.1 s30.2.2)] h (nx + 56)).bind fun r31 =>
    (asB r31.1).bind fun t32 =>
    F4_L6' J J call Y lf n0 n1 x11 x12a x12n x12c x21a x21n x21c x22 x23a x23n x23c x24 x25 t32 (wrapA .i64 (x28 + 1)) r31.2.1 (r31.2.2 + 3))
    else none)
    else
    (F4_L6' J J call Y lf n0 n1 x11 x12a x12n x12c x21a x21n x21c x22 x23a x23n x23c x24 x25 false (wrapA .i64 (x28 + 1)) h (nx + 59)))
    else none)
    else
    (F4_L6' J J call Y lf n0 n1 x11 x12a x12n x12c x21a x21n x21c x22 x23a x23n x23c x24 x25 false (wrapA .i64 (x28 + 1)) h (nx + 59)))
    else none)
    else
    (F4_L6' J J call Y lf n0 n1 x11 x12a x12n x12c x21a x21n x21c x22 x23a x23n x23c x24 x25 false (wrapA .i64 (x28 + 1)) h (nx + 59)))
    else none)
    else
    (F4_L6' J J call Y lf n0 n1 x11 x12a x12n x12c x21a x21n x21c x22 x23a x23n x23c x24 x25 false (wrapA .i64 (x28 + 1)) h (nx + 59)))
    else none))
    else
    (if (!x27) = true then
    (some ((.bool false), h, (nx + 7)))
    else
    (F4_L3' J J call Y lf n0 x11 x12a x12n x12c x21a x21n x21c x22 x23a x23n x23c (wrapA .i64 (x24 + 1)) h (nx + 9))) := by kernel_rfl

theorem F4_L6_eq (call : YldF → CallF) (Y : YldF) (lf : Nat) (n0 : Nat) (n1 : Nat) (x11 : Option (Nat × Nat)) (x12a : Option (Nat × Nat)) (x12n : Nat) (x12c : Bool) (x21a : Option (Nat × Nat)) (x21n : Nat) (x21c : Bool) (x22 : Int) (x23a : Option (Nat × Nat)) (x23n : Nat) (x23c : Bool) (x24 : Int) (x25 : Option (Nat × Nat)) (x27 : Bool) (x28 : Int) (h : AHeap) (nx : Nat) : F4_L6 call Y lf n0 (n1 + 1) x11 x12a x12n x12c x21a x21n x21c x22 x23a x23n x23c x24 x25 x27 x28 h nx =
    if (decide ((x28 : Int) < ((x21n : Nat) : Int))) = true then
    (if x27 = true then
    (F4_L6 call Y lf n0 n1 x11 x12a x12n x12c x21a x21n x21c x22 x23a x23n x23c x24 x25 true (wrapA .i64 (x28 + 1)) h (nx + 59))
    else
    ((x21a).bind fun p1 =>
    if 0 ≤ (x28 : Int) ∧ x28 < ((x21n : Nat) : Int) then
    ((ldA h p1.1 (p1.2 + Int.toNat x28 * 5)).bind fun v2 =>
    (asI .i64 v2).bind fun n3 =>
    (x25).bind fun p4 =>
    (ldA h p4.1 p4.2).bind fun v5 =>
    (asI .i64 v5).bind fun n6 =>
    if ((n3 : Int) == n6) = true then
    ((x21a).bind fun p7 =>
    if 0 ≤ (x28 : Int) ∧ x28 < ((x21n : Nat) : Int) then
    ((ldA h p7.1 ((p7.2 + Int.toNat x28 * 5) + 1)).bind fun v8 =>
    (asI .i64 v8).bind fun n9 =>
    (x25).bind fun p10 =>
    (ldA h p10.1 (p10.2 + 1)).bind fun v11 =>
    (asI .i64 v11).bind fun n12 =>
    if ((n9 : Int) == n12) = true then
    ((x21a).bind fun p13 =>
    if 0 ≤ (x28 : Int) ∧ x28 < ((x21n : Nat) : Int) then
    ((ldA h p13.1 ((p13.2 + Int.toNat x28 * 5) + 2)).bind fun v14 =>
    (asI .i64 v14).bind fun n15 =>
    (x25).bind fun p16 =>
    (ldA h p16.1 (p16.2 + 2)).bind fun v17 =>
    (asI .i64 v17).bind fun n18 =>
    if ((n15 : Int) == n18) = true then
    ((x21a).bind fun p19 =>
    if 0 ≤ (x28 : Int) ∧ x28 < ((x21n : Nat) : Int) then
    ((ldA h p19.1 ((p19.2 + Int.toNat x28 * 5) + 3)).bind fun v20 =>
    (asI .i64 v20).bind fun n21 =>
    (x25).bind fun p22 =>
    (ldA h p22.1 (p22.2 + 3)).bind fun v23 =>
    (asI .i64 v23).bind fun n24 =>
    if ((n21 : Int) == n24) = true then
    ((x21a).bind fun p25 =>
    if 0 ≤ (x28 : Int) ∧ x28 < ((x21n : Nat) : Int) then
    ((ldA h p25.1 ((p25.2 + Int.toNat x28 * 5) + 4)).bind fun v26 =>
    (asSl v26).bind fun s27 =>
    (x25).bind fun p28 =>
    (ldA h p28.1 (p28.2 + 4)).bind fun v29 =>
    (asSl v29).bind fun s30 =>
    (call Y 15 [(.slice s27.1 s27.2.1 s27.2.2), (.slice s30.1 s30.2.1 s30.2.2)] h (nx + 56)).bind fun r31 =>
    (asB r31.1).bind fun t32 =>
    F4_L6 call Y lf n0 n1 x11 x12a x12n x12c x21a x21n x21c x22 x23a x23n x23c x24 x25 t32 (wrapA .i64 (x28 + 1)) r31.2.1 (r31.2.2 + 3))
    else none)
    else
    (F4_L6 call Y lf n0 n1 x11 x12a x12n x12c x21a x21n x21c x22 x23a x23n x23c x24 x25 false (wrapA .i64 (x28 + 1)) h (nx + 59)))
    else none)
    else
    (F4_L6 call Y lf n0 n1 x11 x12a x12n x12c x21a x21n x21c x22 x23a x23n x23c x24 x25 false (wrapA .i64 (x28 + 1)) h (nx + 59)))
    else none)
    else
    (F4_L6 call Y lf n0 n1 x11 x12a x12n x12c x21a x21n x21c x22 x23a x23n x23c x24 x25 false (wrapA .i64 (x28 + 1)) h (nx + 59)))
    else none)
    else
    (F4_L6 call Y lf n0 n1 x11 x12a x12n x12c x21a x21n x21c x22 x23a x23n x23c x24 x25 false (wrapA .i64 (x28 + 1)) h (nx + 59)))
    else none))
    else
    (if (!x27) = true then
    (some ((.bool false), h, (nx + 7)))
    else
    (F4_L3 call Y lf n0 x11 x12a x12n x12c x21a x21n x21c x22 x23a x23n x23c (wrapA .i64 (x24 + 1)) h (nx + 9))) := F4_L6_eq' go1 call Y lf n0 n1 x11 x12a x12n x12c x21a x21n x21c x22 x23a x23n x23c x24 x25 x27 x28 h nx

theorem F4_L6_zero (call : YldF → CallF) (Y : YldF) (lf : Nat) (n0 : Nat) (x11 : Option (Nat × Nat)) (x12a : Option (Nat × Nat)) (x12n : Nat) (x12c : Bool) (x21a : Option (Nat × Nat)) (x21n : Nat) (x21c : Bool) (x22 : Int) (x23a : Option (Nat × Nat)) (x23n : Nat) (x23c : Bool) (x24 : Int) (x25 : Option (Nat × Nat)) (x27 : Bool) (x28 : Int) (h : AHeap) (nx : Nat) : F4_L6 call Y lf n0 0 x11 x12a x12n x12c x21a x21n x21c x22 x23a x23n x23c x24 x25 x27 x28 h nx = none := by kernel_rfl

theorem F4_eq' (J : StepF (AV × AHeap × Nat) → StepF (AV × AHeap × Nat)) (n : Nat) (Y : YldF) (x0a : Option (Nat × Nat)) (x0n : Nat) (x0c : Bool) (x1 : Int) (x2a : Option (Nat × Nat)) (x2n : Nat) (x2c : Bool) (x3 : Int) (h : AHeap) (nx : Nat) : rootJ J Try.prog keepT (callP Try.prog keepT n) Y n 4 [(.slice x0a x0n x0c), (.int .i64 x1), (.slice x2a x2n x2c), (.int .i64 x3)] h nx =
    ((callP Try.prog keepT n) Y 7 [(.slice x0a x0n x0c), (.int .i64 20)] h (nx + 4)).bind fun r1 =>
    (asSl r1.1).bind fun s2 =>
    ((callP Try.prog keepT n) Y 8 [(.int .i64 x3), (.int .i64 (wrapA .i64 (((s2.2.1 : Nat) : Int) + 1)))] r1.2.1 (r1.2.2 + 6)).bind fun r3 =>
    (asI .i64 r3.1).bind fun n4 =>
    ((callP Try.prog keepT n) Y 8 [(.int .i64 x1), (.int .i64 3000)] r3.2.1 (r3.2.2 + 8)).bind fun r5 =>
    (asI .i64 r5.1).bind fun n6 =>
    ((callP Try.prog keepT n) Y 9 [(.slice x2a x2n x2c), (.int .i64 400)] r5.2.1 r5.2.2).bind fun r7 =>
    (asSl r7.1).bind fun s8 =>
    let h9 := AHeap.put r7.2.1 (r3.2.2 + 6) (some ⟨[(.int .i64 0), (.int .i64 0), (.int .i64 0), (.int .i64 0), (.slice none 0 false)], 5, true⟩)
    (stA h9 (r3.2.2 + 6) 0 (.agg [(.int .i64 1), (.int .i64 n4), (.int .i64 n6), (.int .i64 0), (.slice s8.1 s8.2.1 s8.2.2)]) 5).bind fun b10 =>
    let h11 := AHeap.put h9 (r3.2.2 + 6) (some b10)
    (srcS h11 s2.1 s2.2.1 5).bind fun q12 =>
    (appD h11 none 0 false 5 56 (r7.2.2 + 1) q12).bind fun e13 =>
    let h14 := AHeap.puts h11 e13.sets
    (ldR h14 (r3.2.2 + 6) 0 5).bind fun l15 =>
    (asAgg 5 (AV.agg l15)).bind fun d16 =>
    (asI .i64 (d16.getD 0 .bad)).bind fun n17 =>
    (asI .i64 (d16.getD 1 .bad)).bind fun n18 =>
    (asI .i64 (d16.getD 2 .bad)).bind fun n19 =>
    (asI .i64 (d16.getD 3 .bad)).bind fun n20 =>
    (asSl (d16.getD 4 .bad)).bind fun s21 =>
    let h22 := AHeap.put h14 (r7.2.2 + 3) (some ⟨[(.int .i64 n17), (.int .i64 n18), (.int .i64 n19), (.int .i64 n20), (.slice s21.1 s21.2.1 s21.2.2)], 5, true⟩)
    (srcS h22 (some ((r7.2.2 + 3), 0)) 1 5).bind fun q23 =>
    (appD h22 e13.a e13.n e13.c 5 56 (r7.2.2 + 4) q23).bind fun e24 =>
    let h25 := AHeap.puts h22 e24.sets
    ifApart [((idsOf e13.sets), [(r3.2.2 + 6)]), ([(r7.2.2 + 3)], e13.reads)]
    ((srcS h25 e24.a e24.n 5).bind fun q26 =>
    (appD h25 none 0 false 5 56 (r7.2.2 + 7) q26).bind fun e27 =>
    let h28 := AHeap.puts h25 e27.sets
    ((callP Try.prog keepT n) Y 11 [(.slice e27.a e27.n e27.c), (.int .i64 n4)] h28 (r7.2.2 + 15)).bind fun r29 =>
    (asTup 2 r29.1).bind fun d30 =>
    (asSl (d30.getD 0 .bad)).bind fun s31 =>
    (asI .i64 (d30.getD 1 .bad)).bind fun n32 =>
    (srcS r29.2.1 e24.a e24.n 5).bind fun q33 =>
    (appD r29.2.1 none 0 false 5 56 (r29.2.2 + 1) q33).bind fun e34 =>
    let h35 := AHeap.puts r29.2.1 e34.sets
    ((callP Try.prog keepT n) Y 11 [(.slice e34.a e34.n e34.c), (.int .i64 ((e24.n : Nat) : Int))] h35 (r29.2.2 + 10)).bind fun r36 =>
    (asTup 2 r36.1).bind fun d37 =>
    (asSl (d37.getD 0 .bad)).bind fun s38 =>
    (asI .i64 (d37.getD 1 .bad)).bind fun n39 =>
    ((callP Try.prog keepT n) Y 12 [(.slice s31.1 s31.2.1 s31.2.2)] r36.2.1 (r36.2.2 + 7)).bind fun r40 =>
    (asTup 2 r40.1).bind fun d41 =>
    (asSl (d41.getD 0 .bad)).bind fun s42 =>
    (asB (d41.getD 1 .bad)).bind fun t43 =>
    ((callP Try.prog keepT n) Y 12 [(.slice s38.1 s38.2.1 s38.2.2)] r40.2.1 (r40.2.2 + 7)).bind fun r44 =>
    (asTup 2 r44.1).bind fun d45 =>
    (asSl (d45.getD 0 .bad)).bind fun s46 =>
    (asB (d45.getD 1 .bad)).bind fun t47 =>
    if ((n32 : Int) != 0) = true then
    (some ((.bool false), r44.2.1, (r44.2.2 + 20)))
    else
    (if ((n39 : Int) != 0) = true then
    (some ((.bool false), r44.2.1, (r44.2.2 + 20)))
    else
    (if (!t43) = true then
    (some ((.bool false), r44.2.1, (r44.2.2 + 20)))
    else
    (if (!t47) = true then
    (some ((.bool false), r44.2.1, (r44.2.2 + 20)))
    else
    (if ((((s38.2.1 : Nat) : Int) : Int) == 0) = true then
    (some ((.bool false), r44.2.1, (r44.2.2 + 20)))
    else
    (F4_J1' J J (callP Try.prog keepT n) Y n (some ((r3.2.2 + 6), 0)) e24.a e24.n e24.c s31.1 s31.2.1 s31.2.2 s38.1 s38.2.1 s38.2.2 r44.2.1 (r44.2.2 + 19))))))) := by kernel_rfl

/-- quickset/quicksetkeep.TreeShares -/
theorem F4_eq (n : Nat) (Y : YldF) (x0a : Option (Nat × Nat)) (x0n : Nat) (x0c : Bool) (x1 : Int) (x2a : Option (Nat × Nat)) (x2n : Nat) (x2c : Bool) (x3 : Int) (h : AHeap) (nx : Nat) : callP Try.prog keepT (n + 1) Y 4 [(.slice x0a x0n x0c), (.int .i64 x1), (.slice x2a x2n x2c), (.int .i64 x3)] h nx =
    ((callP Try.prog keepT n) Y 7 [(.slice x0a x0n x0c), (.int .i64 20)] h (nx + 4)).bind fun r1 =>
    (asSl r1.1).bind fun s2 =>
    ((callP Try.prog keepT n) Y 8 [(.int .i64 x3), (.int .i64 (wrapA .i64 (((s2.2.1 : Nat) : Int) + 1)))] r1.2.1 (r1.2.2 + 6)).bind fun r3 =>
    (asI .i64 r3.1).bind fun n4 =>
    ((callP Try.prog keepT n) Y 8 [(.int .i64 x1), (.int .i64 3000)] r3.2.1 (r3.2.2 + 8)).bind fun r5 =>
    (asI .i64 r5.1).bind fun n6 =>
    ((callP Try.prog keepT n) Y 9 [(.slice x2a x2n x2c), (.int .i64 400)] r5.2.1 r5.2.2).bind fun r7 =>
    (asSl r7.1).bind fun s8 =>
    let h9 := AHeap.put r7.2.1 (r3.2.2 + 6) (some ⟨[(.int .i64 0), (.int .i64 0), (.int .i64 0), (.int .i64 0), (.slice none 0 false)], 5, true⟩)
    (stA h9 (r3.2.2 + 6) 0 (.agg [(.int .i64 1), (.int .i64 n4), (.int .i64 n6), (.int .i64 0), (.slice s8.1 s8.2.1 s8.2.2)]) 5).bind fun b10 =>
    let h11 := AHeap.put h9 (r3.2.2 + 6) (some b10)
    (srcS h11 s2.1 s2.2.1 5).bind fun q12 =>
    (appD h11 none 0 false 5 56 (r7.2.2 + 1) q12).bind fun e13 =>
    let h14 := AHeap.puts h11 e13.sets
    (ldR h14 (r3.2.2 + 6) 0 5).bind fun l15 =>
    (asAgg 5 (AV.agg l15)).bind fun d16 =>
    (asI .i64 (d16.getD 0 .bad)).bind fun n17 =>
    (asI .i64 (d16.getD 1 .bad)).bind fun n18 =>
    (asI .i64 (d16.getD 2 .bad)).bind fun n19 =>
    (asI .i64 (d16.getD 3 .bad)).bind fun n20 =>
    (asSl (d16.getD 4 .bad)).bind fun s21 =>
    let h22 := AHeap.put h14 (r7.2.2 + 3) (some ⟨[(.int .i64 n17), (.int .i64 n18), (.int .i64 n19), (.int .i64 n20), (.slice s21.1 s21.2.1 s21.2.2)], 5, true⟩)
    (srcS h22 (some ((r7.2.2 + 3), 0)) 1 5).bind fun q23 =>
    (appD h22 e13.a e13.n e13.c 5 56 (r7.2.2 + 4) q23).bind fun e24 =>
    let h25 := AHeap.puts h22 e24.sets
    ifApart [((idsOf e13.sets), [(r3.2.2 + 6)]), ([(r7.2.2 + 3)], e13.reads)]
    ((srcS h25 e24.a e24.n 5).bind fun q26 =>
    (appD h25 none 0 false 5 56 (r7.2.2 + 7) q26).bind fun e27 =>
    let h28 := AHeap.puts h25 e27.sets
    ((callP Try.prog keepT n) Y 11 [(.slice e27.a e27.n e27.c), (.int .i64 n4)] h28 (r7.2.2 + 15)).bind fun r29 =>
    (asTup 2 r29.1).bind fun d30 =>
    (asSl (d30.getD 0 .bad)).bind fun s31 =>
    (asI .i64 (d30.getD 1 .bad)).bind fun n32 =>
    (srcS r29.2.1 e24.a e24.n 5).bind fun q33 =>
    (appD r29.2.1 none 0 false 5 56 (r29.2.2 + 1) q33).bind fun e34 =>
    let h35 := AHeap.puts r29.2.1 e34.sets
    ((callP Try.prog keepT n) Y 11 [(.slice e34.a e34.n e34.c), (.int .i64 ((e24.n : Nat) : Int))] h35 (r29.2.2 + 10)).bind fun r36 =>
    (asTup 2 r36.1).bind fun d37 =>
    (asSl (d37.getD 0 .bad)).bind fun s38 =>
    (asI .i64 (d37.getD 1 .bad)).bind fun n39 =>
    ((callP Try.prog keepT n) Y 12 [(.slice s31.1 s31.2.1 s31.2.2)] r36.2.1 (r36.2.2 + 7)).bind fun r40 =>
    (asTup 2 r40.1).bind fun d41 =>
    (asSl (d41.getD 0 .bad)).bind fun s42 =>
    (asB (d41.getD 1 .bad)).bind fun t43 =>
    ((callP Try.prog keepT n) Y 12 [(.slice s38.1 s38.2.1 s38.2.2)] r40.2.1 (r40.2.2 + 7)).bind fun r44 =>
    (asTup 2 r44.1).bind fun d45 =>
    (asSl (d45.getD 0 .bad)).bind fun s46 =>
    (asB (d45.getD 1 .bad)).bind fun t47 =>
    if ((n32 : Int) != 0) = true then
    (some ((.bool false), r44.2.1, (r44.2.2 + 20)))
    else
    (if ((n39 : Int) != 0) = true then
    (some ((.bool false), r44.2.1, (r44.2.2 + 20)))
    else
    (if (!t43) = true then
    (some ((.bool false), r44.2.1, (r44.2.2 + 20)))
    else
    (if (!t47) = true then
    (some ((.bool false), r44.2.1, (r44.2.2 + 20)))
    else
    (if ((((s38.2.1 : Nat) : Int) : Int) == 0) = true then
    (some ((.bool false), r44.2.1, (r44.2.2 + 20)))
    else
    (F4_J1 (callP Try.prog keepT n) Y n (some ((r3.2.2 + 6), 0)) e24.a e24.n e24.c s31.1 s31.2.1 s31.2.2 s38.1 s38.2.1 s38.2.2 r44.2.1 (r44.2.2 + 19))))))) := F4_eq' go1 n Y x0a x0n x0c x1 x2a x2n x2c x3 h nx

noncomputable def c5 : Code := (Try.f5.body).getD .skip

noncomputable def r5 : List ResultVar := Try.f5.results.toList

noncomputable def F5_J1' (W J : StepF (AV × AHeap × Nat) → StepF (AV × AHeap × Nat)) (call : YldF → CallF) (Y : YldF) (lf : Nat) (x7a : Option (Nat × Nat)) (x7n : Nat) (x7c : Bool) (x9a : Option (Nat × Nat)) (x9n : Nat) (x9c : Bool) (x11a : Option (Nat × Nat)) (x11n : Nat) (x11c : Bool) (h : AHeap) (nx : Nat) : Option (AV × AHeap × Nat) :=
  goK W J drawK (machOf Try.prog) call Y (keepT 5) lf c5 [1, 1, 1, 1, 1, 1, 1] [] (retK (machOf Try.prog) ⟨c5, 136, r5, keepT 5⟩) ⟨136, mkL [(7, (.slice x7a x7n x7c)), (9, (.slice x9a x9n x9c)), (11, (.slice x11a x11n x11c))]⟩ h nx

noncomputable def F5_J1 (call : YldF → CallF) (Y : YldF) (lf : Nat) (x7a : Option (Nat × Nat)) (x7n : Nat) (x7c : Bool) (x9a : Option (Nat × Nat)) (x9n : Nat) (x9c : Bool) (x11a : Option (Nat × Nat)) (x11n : Nat) (x11c : Bool) (h : AHeap) (nx : Nat) : Option (AV × AHeap × Nat) := F5_J1' go1 go1 call Y lf x7a x7n x7c x9a x9n x9c x11a x11n x11c h nx

noncomputable def F5_L2' (W J : StepF (AV × AHeap × Nat) → StepF (AV × AHeap × Nat)) (call : YldF → CallF) (Y : YldF) (lf : Nat) (n0 : Nat) (x7a : Option (Nat × Nat)) (x7n : Nat) (x7c : Bool) (x9a : Option (Nat × Nat)) (x9n : Nat) (x9c : Bool) (x11a : Option (Nat × Nat)) (x11n : Nat) (x11c : Bool) (x13 : Int) (h : AHeap) (nx : Nat) : Option (AV × AHeap × Nat) :=
  goK W J drawK (machOf Try.prog) call Y (keepT 5) lf c5 [1, 1, 1, 1, 1, 1, 1, 0, 1, 0, 9] [n0] (retK (machOf Try.prog) ⟨c5, 136, r5, keepT 5⟩) ⟨136, mkL [(7, (.slice x7a x7n x7c)), (9, (.slice x9a x9n x9c)), (11, (.slice x11a x11n x11c)), (13, (.int .i64 x13))]⟩ h nx

noncomputable def F5_L2 (call : YldF → CallF) (Y : YldF) (lf : Nat) (n0 : Nat) (x7a : Option (Nat × Nat)) (x7n : Nat) (x7c : Bool) (x9a : Option (Nat × Nat)) (x9n : Nat) (x9c : Bool) (x11a : Option (Nat × Nat)) (x11n : Nat) (x11c : Bool) (x13 : Int) (h : AHeap) (nx : Nat) : Option (AV × AHeap × Nat) := F5_L2' go1 go1 call Y lf n0 x7a x7n x7c x9a x9n x9c x11a x11n x11c x13 h nx

noncomputable def F5_J3' (W J : StepF (AV × AHeap × Nat) → StepF (AV × AHeap × Nat)) (call : YldF → CallF) (Y : YldF) (lf : Nat) (h : AHeap) (nx : Nat) : Option (AV × AHeap × Nat) :=
  goK W J drawK (machOf Try.prog) call Y (keepT 5) lf c5 [1, 1, 1, 1, 1, 1, 1, 1, 1] [] (retK (machOf Try.prog) ⟨c5, 136, r5, keepT 5⟩) ⟨136, mkL []⟩ h nx

noncomputable def F5_J3 (call : YldF → CallF) (Y : YldF) (lf : Nat) (h : AHeap) (nx : Nat) : Option (AV × AHeap × Nat) := F5_J3' go1 go1 call Y lf h nx

theorem F5_J1_eq' (J : StepF (AV × AHeap × Nat) → StepF (AV × AHeap × Nat)) (call : YldF → CallF) (Y : YldF) (lf : Nat) (x7a : Option (Nat × Nat)) (x7n : Nat) (x7c : Bool) (x9a : Option (Nat × Nat)) (x9n : Nat) (x9c : Bool) (x11a : Option (Nat × Nat)) (x11n : Nat) (x11c : Bool) (h : AHeap) (nx : Nat) : F5_J1' go1 J call Y lf x7a x7n x7c x9a x9n x9c x11a x11n x11c h nx =
    F5_L2' J J call Y lf lf x7a x7n x7c x9a x9n x9c x11a x11n x11c 0 h (nx + 1) := by kernel_rfl

theorem F5_J1_eq (call : YldF → CallF) (Y : YldF) (lf : Nat) (x7a : Option (Nat × Nat)) (x7n : Nat) (x7c : Bool) (x9a : Option (Nat × Nat)) (x9n : Nat) (x9c : Bool) (x11a : Option (Nat × Nat)) (x11n : Nat) (x11c : Bool) (h : AHeap) (nx : Nat) : F5_J1 call Y lf x7a x7n x7c x9a x9n x9c x11a x11n x11c h nx =
    F5_L2 call Y lf lf x7a x7n x7c x9a x9n x9c x11a x11n x11c 0 h (nx + 1) := F5_J1_eq' go1 call Y lf x7a x7n x7c x9a x9n x9c x11a x11n x11c h nx

theorem F5_L2_eq' (J : StepF (AV × AHeap × Nat) → StepF (AV × AHeap × Nat)) (call : YldF → CallF) (Y : YldF) (lf : Nat) (n0 : Nat) (x7a : Option (Nat × Nat)) (x7n : Nat) (x7c : Bool) (x9a : Option (Nat × Nat)) (x9n : Nat) (x9c : Bool) (x11a : Option (Nat × Nat)) (x11n : Nat) (x11c : Bool) (x13 : Int) (h : AHeap) (nx : Nat) : F5_L2' go1 J call Y lf (n0 + 1) x7a x7n x7c x9a x9n x9c x11a x11n x11c x13 h nx =
    if (decide ((x13 : Int) < ((x11n : Nat) : Int))) = true then
    (if (decide ((x13 : Int) < ((x7n : Nat) : Int))) = true then
    ((x11a).bind fun p1 =>
    if 0 ≤ (x13 : Int) ∧ x13 < ((x11n : Nat) : Int) then
    ((ldA h p1.1 (p1.2 + Int.toNat x13 * 1)).bind fun v2 =>
    (asI .u8 v2).bind fun n3 =>
    (x7a).bind fun p4 =>
    if 0 ≤ (x13 : Int) ∧ x13 < ((x7n : Nat) : Int) then
    ((ldA h p4.1 (p4.2 + Int.toNat x13 * 1)).bind fun v5 =>
    (asI .u8 v5).bind fun n6 =>
    if ((n3 : Int) != n6) = true then
    (some ((.bool false), h, (nx + 33)))
    else
    (if (decide ((x13 : Int) ≥ ((x7n : Nat) : Int))) = true then
    ((x11a).bind fun p7 =>
    if 0 ≤ (x13 : Int) ∧ x13 < ((x11n : Nat) : Int) then
    ((ldA h p7.1 (p7.2 + Int.toNat x13 * 1)).bind fun v8 =>
    (asI .u8 v8).bind fun n9 =>
    if ((n9 : Int) != 0) = true then
    (some ((.bool false), h, (nx + 33)))
    else
    (F5_L2' J J call Y lf n0 x7a x7n x7c x9a x9n x9c x11a x11n x11c (wrapA .i64 (x13 + 1)) h (nx + 35)))
    else none)
    else
    (F5_L2' J J call Y lf n0 x7a x7n x7c x9a x9n x9c x11a x11n x11c (wrapA .i64 (x13 + 1)) h (nx + 35))))
    else none)
    else none)
    else
    (if (decide ((x13 : Int) ≥ ((x7n : Nat) : Int))) = true then
    ((x11a).bind fun p10 =>
    if 0 ≤ (x13 : Int) ∧ x13 < ((x11n : Nat) : Int) then
    ((ldA h p10.1 (p10.2 + Int.toNat x13 * 1)).bind fun v11 =>
    (asI .u8 v11).bind fun n12 =>
    if ((n12 : Int) != 0) = true then
    (some ((.bool false), h, (nx + 33)))
    else
    (F5_L2' J J call Y lf n0 x7a x7n x7c x9a x9n x9c x11a x11n x11c (wrapA .i64 (x13 + 1)) h (nx + 35)))
    else none)
    else
    (F5_L2' J J call Y lf n0 x7a x7n x7c x9a x9n x9c x11a x11n x11c (wrapA .i64 (x13 + 1)) h (nx + 35))))
    else
    (if (decide ((((x9n : Nat) : Int) : Int) > 0)) = true then
    ((x9a).bind fun p13 =>
    if 0 ≤ (0 : Int) ∧ 0 < ((x9n : Nat) : Int) then
    ((ldA h p13.1 ((p13.2 + Int.toNat 0 * 5) + 2)).bind fun v14 =>
    (asI .i64 v14).bind fun n15 =>
    if (decide ((n15 : Int) > 0)) = true then
    ((x9a).bind fun p16 =>
    if 0 ≤ (0 : Int) ∧ 0 < ((x9n : Nat) : Int) then
    ((ldA h p16.1 ((p16.2 + Int.toNat 0 * 5) + 2)).bind fun v17 =>
    (asI .i64 v17).bind fun n18 =>
    (call Y 14 [(.int .i64 (wrapA .i64 (n18 - 1)))] h (nx + 25)).bind fun r19 =>
    (asI .i64 r19.1).bind fun n20 =>
    if (decide ((n20 : Int) ≥ ((x7n : Nat) : Int))) = true then
    (some ((.bool false), r19.2.1, (r19.2.2 + 1)))
    else
    (F5_J3' J J call Y lf r19.2.1 r19.2.2))
    else none)
    else
    (F5_J3' J J call Y lf h (nx + 25)))
    else none)
    else
    (F5_J3' J J call Y lf h (nx + 25))) := by kernel_rfl

theorem F5_L2_eq (call : YldF → CallF) (Y : YldF) (lf : Nat) (n0 : Nat) (x7a : Option (Nat × Nat)) (x7n : Nat) (x7c : Bool) (x9a : Option (Nat × Nat)) (x9n : Nat) (x9c : Bool) (x11a : Option (Nat × Nat)) (x11n : Nat) (x11c : Bool) (x13 : Int) (h : AHeap) (nx : Nat) : F5_L2 call Y lf (n0 + 1) x7a x7n x7c x9a x9n x9c x11a x11n x11c x13 h nx =
    if (decide ((x13 : Int) < ((x11n : Nat) : Int))) = true then
    (if (decide ((x13 : Int) < ((x7n : Nat) : Int))) = true then
    ((x11a).bind fun p1 =>
    if 0 ≤ (x13 : Int) ∧ x13 < ((x11n : Nat) : Int) then
    ((ldA h p1.1 (p1.2 + Int.toNat x13 * 1)).bind fun v2 =>
    (asI .u8 v2).bind fun n3 =>
    (x7a).bind fun p4 =>
    if 0 ≤ (x13 : Int) ∧ x13 < ((x7n : Nat) : Int) then
    ((ldA h p4.1 (p4.2 + Int.toNat x13 * 1)).bind fun v5 =>
    (asI .u8 v5).bind fun n6 =>
    if ((n3 : Int) != n6) = true then
    (some ((.bool false), h, (nx + 33)))
    else
    (if (decide ((x13 : Int) ≥ ((x7n : Nat) : Int))) = true then
    ((x11a).bind fun p7 =>
    if 0 ≤ (x13 : Int) ∧ x13 < ((x11n : Nat) : Int) then
    ((ldA h p7.1 (p7.2 + Int.toNat x13 * 1)).bind fun v8 =>
    (asI .u8 v8).bind fun n9 =>
    if ((n9 : Int) != 0) = true then
    (some ((.bool false), h, (nx + 33)))
    else
    (F5_L2 call Y lf n0 x7a x7n x7c x9a x9n x9c x11a x11n x11c (wrapA .i64 (x13 + 1)) h (nx + 35)))
    else none)
    else
    (F5_L2 call Y lf n0 x7a x7n x7c x9a x9n x9c x11a x11n x11c (wrapA .i64 (x13 + 1)) h (nx + 35))))
    else none)
    else none)
    else
    (if (decide ((x13 : Int) ≥ ((x7n : Nat) : Int))) = true then
    ((x11a).bind fun p10 =>
    if 0 ≤ (x13 : Int) ∧ x13 < ((x11n : Nat) : Int) then
    ((ldA h p10.1 (p10.2 + Int.toNat x13 * 1)).bind fun v11 =>
    (asI .u8 v11).bind fun n12 =>
    if ((n12 : Int) != 0) = true then
    (some ((.bool false), h, (nx + 33)))
    else
    (F5_L2 call Y lf n0 x7a x7n x7c x9a x9n x9c x11a x11n x11c (wrapA .i64 (x13 + 1)) h (nx + 35)))
    else none)
    else
    (F5_L2 call Y lf n0 x7a x7n x7c x9a x9n x9c x11a x11n x11c (wrapA .i64 (x13 + 1)) h (nx + 35))))
    else
    (if (decide ((((x9n : Nat) : Int) : Int) > 0)) = true then
    ((x9a).bind fun p13 =>
    if 0 ≤ (0 : Int) ∧ 0 < ((x9n : Nat) : Int) then
    ((ldA h p13.1 ((p13.2 + Int.toNat 0 * 5) + 2)).bind fun v14 =>
    (asI .i64 v14).bind fun n15 =>
    if (decide ((n15 : Int) > 0)) = true then
    ((x9a).bind fun p16 =>
    if 0 ≤ (0 : Int) ∧ 0 < ((x9n : Nat) : Int) then
    ((ldA h p16.1 ((p16.2 + Int.toNat 0 * 5) + 2)).bind fun v17 =>
    (asI .i64 v17).bind fun n18 =>
    (call Y 14 [(.int .i64 (wrapA .i64 (n18 - 1)))] h (nx + 25)).bind fun r19 =>
    (asI .i64 r19.1).bind fun n20 =>
    if (decide ((n20 : Int) ≥ ((x7n : Nat) : Int))) = true then
    (some ((.bool false), r19.2.1, (r19.2.2 + 1)))
    else
    (F5_J3 call Y lf r19.2.1 r19.2.2))
    else none)
    else
    (F5_J3 call Y lf h (nx + 25)))
    else none)
    else
    (F5_J3 call Y lf h (nx + 25))) := F5_L2_eq' go1 call Y lf n0 x7a x7n x7c x9a x9n x9c x11a x11n x11c x13 h nx

theorem F5_L2_zero (call : YldF → CallF) (Y : YldF) (lf : Nat) (x7a : Option (Nat × Nat)) (x7n : Nat) (x7c : Bool) (x9a : Option (Nat × Nat)) (x9n : Nat) (x9c : Bool) (x11a : Option (Nat × Nat)) (x11n : Nat) (x11c : Bool) (x13 : Int) (h : AHeap) (nx : Nat) : F5_L2 call Y lf 0 x7a x7n x7c x9a x9n x9c x11a x11n x11c x13 h nx = none := by kernel_rfl

theorem F5_J3_eq' (J : StepF (AV × AHeap × Nat) → StepF (AV × AHeap × Nat)) (call : YldF → CallF) (Y : YldF) (lf : Nat) (h : AHeap) (nx : Nat) : F5_J3' go1 J call Y lf h nx =
    let h1 := AHeap.put h nx (some ⟨[(.int .u8 1)], 1, true⟩)
    let h2 := AHeap.put h1 (nx + 2) (some ⟨[(.int .i64 1), (.int .i64 0), (.int .i64 0), (.int .i64 0), (.slice (some (nx, 0)) 1 true)], 5, true⟩)
    (call Y 11 [(.slice (some ((nx + 2), 0)) 1 true), (.int .i64 1)] h2 (nx + 9)).bind fun r3 =>
    (asTup 2 r3.1).bind fun d4 =>
    (asSl (d4.getD 0 .bad)).bind fun s5 =>
    (asI .i64 (d4.getD 1 .bad)).bind fun n6 =>
    if ((n6 : Int) == 0) = true then
    (some ((.bool ((((s5.2.1 : Nat) : Int) : Int) == 1)), r3.2.1, (r3.2.2 + 8)))
    else
    (some ((.bool false), r3.2.1, (r3.2.2 + 8))) := by kernel_rfl

theorem F5_J3_eq (call : YldF → CallF) (Y : YldF) (lf : Nat) (h : AHeap) (nx : Nat) : F5_J3 call Y lf h nx =
    let h1 := AHeap.put h nx (some ⟨[(.int .u8 1)], 1, true⟩)
    let h2 := AHeap.put h1 (nx + 2) (some ⟨[(.int .i64 1), (.int .i64 0), (.int .i64 0), (.int .i64 0), (.slice (some (nx, 0)) 1 true)], 5, true⟩)
    (call Y 11 [(.slice (some ((nx + 2), 0)) 1 true), (.int .i64 1)] h2 (nx + 9)).bind fun r3 =>
    (asTup 2 r3.1).bind fun d4 =>
    (asSl (d4.getD 0 .bad)).bind fun s5 =>
    (asI .i64 (d4.getD 1 .bad)).bind fun n6 =>
    if ((n6 : Int) == 0) = true then
    (some ((.bool ((((s5.2.1 : Nat) : Int) : Int) == 1)), r3.2.1, (r3.2.2 + 8)))
    else
    (some ((.bool false), r3.2.1, (r3.2.2 + 8))) := F5_J3_eq' go1 call Y lf h nx

theorem F5_eq' (J : StepF (AV × AHeap × Nat) → StepF (AV × AHeap × Nat)) (n : Nat) (Y : YldF) (x0a : Option (Nat × Nat)) (x0n : Nat) (x0c : Bool) (x1 : Int) (h : AHeap) (nx : Nat) : rootJ J Try.prog keepT (callP Try.prog keepT n) Y n 5 [(.slice x0a x0n x0c), (.int .i64 x1)] h nx =
    ((callP Try.prog keepT n) Y 7 [(.slice x0a x0n x0c), (.int .i64 30)] h (nx + 4)).bind fun r1 =>
    (asSl r1.1).bind fun s2 =>
    ((callP Try.prog keepT n) Y 8 [(.int .i64 x1), (.int .i64 (wrapA .i64 (((s2.2.1 : Nat) : Int) + 1)))] r1.2.1 (r1.2.2 + 6)).bind fun r3 =>
    (asI .i64 r3.1).bind fun n4 =>
    ((callP Try.prog keepT n) Y 10 [(.slice s2.1 s2.2.1 s2.2.2), (.int .i64 n4)] r3.2.1 (r3.2.2 + 8)).bind fun r5 =>
    (asTup 2 r5.1).bind fun d6 =>
    (asSl (d6.getD 0 .bad)).bind fun s7 =>
    (asB (d6.getD 1 .bad)).bind fun t8 =>
    (srcS r5.2.1 s2.1 s2.2.1 5).bind fun q9 =>
    (appD r5.2.1 none 0 false 5 56 (r5.2.2 + 1) q9).bind fun e10 =>
    let h11 := AHeap.puts r5.2.1 e10.sets
    ((callP Try.prog keepT n) Y 11 [(.slice e10.a e10.n e10.c), (.int .i64 n4)] h11 (r5.2.2 + 9)).bind fun r12 =>
    (asTup 2 r12.1).bind fun d13 =>
    (asSl (d13.getD 0 .bad)).bind fun s14 =>
    (asI .i64 (d13.getD 1 .bad)).bind fun n15 =>
    ((callP Try.prog keepT n) Y 12 [(.slice s14.1 s14.2.1 s14.2.2)] r12.2.1 (r12.2.2 + 7)).bind fun r16 =>
    (asTup 2 r16.1).bind fun d17 =>
    (asSl (d17.getD 0 .bad)).bind fun s18 =>
    (asB (d17.getD 1 .bad)).bind fun t19 =>
    if (!t8) = true then
    (some ((.bool false), r16.2.1, (r16.2.2 + 27)))
    else
    (if ((n15 : Int) != 0) = true then
    (some ((.bool false), r16.2.1, (r16.2.2 + 27)))
    else
    (if (!t19) = true then
    (some ((.bool false), r16.2.1, (r16.2.2 + 27)))
    else
    (if (!(((((s14.2.1 : Nat) : Int) : Int) == 0) == ((((s7.2.1 : Nat) : Int) : Int) == 0))) = true then
    (some ((.bool false), r16.2.1, (r16.2.2 + 27)))
    else
    (if (decide ((((s18.2.1 : Nat) : Int) : Int) < ((s7.2.1 : Nat) : Int))) = true then
    (some ((.bool false), r16.2.1, (r16.2.2 + 27)))
    else
    (F5_J1' J J (callP Try.prog keepT n) Y n s7.1 s7.2.1 s7.2.2 s14.1 s14.2.1 s14.2.2 s18.1 s18.2.1 s18.2.2 r16.2.1 (r16.2.2 + 26)))))) := by kernel_rfl

/-- quickset/quicksetkeep.TreeWhole -/
theorem F5_eq (n : Nat) (Y : YldF) (x0a : Option (Nat × Nat)) (x0n : Nat) (x0c : Bool) (x1 : Int) (h : AHeap) (nx : Nat) : callP Try.prog keepT (n + 1) Y 5 [(.slice x0a x0n x0c), (.int .i64 x1)] h nx =
    ((callP Try.prog keepT n) Y 7 [(.slice x0a x0n x0c), (.int .i64 30)] h (nx + 4)).bind fun r1 =>
    (asSl r1.1).bind fun s2 =>
    ((callP Try.prog keepT n) Y 8 [(.int .i64 x1), (.int .i64 (wrapA .i64 (((s2.2.1 : Nat) : Int) + 1)))] r1.2.1 (r1.2.2 + 6)).bind fun r3 =>
    (asI .i64 r3.1).bind fun n4 =>
    ((callP Try.prog keepT n) Y 10 [(.slice s2.1 s2.2.1 s2.2.2), (.int .i64 n4)] r3.2.1 (r3.2.2 + 8)).bind fun r5 =>
    (asTup 2 r5.1).bind fun d6 =>
    (asSl (d6.getD 0 .bad)).bind fun s7 =>
    (asB (d6.getD 1 .bad)).bind fun t8 =>
    (srcS r5.2.1 s2.1 s2.2.1 5).bind fun q9 =>
    (appD r5.2.1 none 0 false 5 56 (r5.2.2 + 1) q9).bind fun e10 =>
    let h11 := AHeap.puts r5.2.1 e10.sets
    ((callP Try.prog keepT n) Y 11 [(.slice e10.a e10.n e10.c), (.int .i64 n4)] h11 (r5.2.2 + 9)).bind fun r12 =>
    (asTup 2 r12.1).bind fun d13 =>
    (asSl (d13.getD 0 .bad)).bind fun s14 =>
    (asI .i64 (d13.getD 1 .bad)).bind fun n15 =>
    ((callP Try.prog keepT n) Y 12 [(.slice s14.1 s14.2.1 s14.2.2)] r12.2.1 (r12.2.2 + 7)).bind fun r16 =>
    (asTup 2 r16.1).bind fun d17 =>
    (asSl (d17.getD 0 .bad)).bind fun s18 =>
    (asB (d17.getD 1 .bad)).bind fun t19 =>
    if (!t8) = true then
    (some ((.bool false), r16.2.1, (r16.2.2 + 27)))
    else
    (if ((n15 : Int) != 0) = true then
    (some ((.bool false), r16.2.1, (r16.2.2 + 27)))
    else
    (if (!t19) = true then
    (some ((.bool false), r16.2.1, (r16.2.2 + 27)))
    else
    (if (!(((((s14.2.1 : Nat) : Int) : Int) == 0) == ((((s7.2.1 : Nat) : Int) : Int) == 0))) = true then
    (some ((.bool false), r16.2.1, (r16.2.2 + 27)))
    else
    (if (decide ((((s18.2.1 : Nat) : Int) : Int) < ((s7.2.1 : Nat) : Int))) = true then
    (some ((.bool false), r16.2.1, (r16.2.2 + 27)))
    else
    (F5_J1 (callP Try.prog keepT n) Y n s7.1 s7.2.1 s7.2.2 s14.1 s14.2.1 s14.2.2 s18.1 s18.2.1 s18.2.2 r16.2.1 (r16.2.2 + 26)))))) := F5_eq' go1 n Y x0a x0n x0c x1 h nx

noncomputable def c6 : Code := (Try.f6.body).getD .skip

noncomputable def r6 : List ResultVar := Try.f6.results.toList

noncomputable def F6_J1' (W J : StepF (AV × AHeap × Nat) → StepF (AV × AHeap × Nat)) (call : YldF → CallF) (Y : YldF) (lf : Nat) (x10a : Option (Nat × Nat)) (x10n : Nat) (x10c : Bool) (x14a : Option (Nat × Nat)) (x14n : Nat) (x14c : Bool) (x16a : Option (Nat × Nat)) (x16n : Nat) (x16c : Bool) (h : AHeap) (nx : Nat) : Option (AV × AHeap × Nat) :=
  goK W J drawK (machOf Try.prog) call Y (keepT 6) lf c6 [1, 1, 1, 1, 1, 1, 1, 1, 1] [] (retK (machOf Try.prog) ⟨c6, 113, r6, keepT 6⟩) ⟨113, mkL [(10, (.slice x10a x10n x10c)), (14, (.slice x14a x14n x14c)), (16, (.slice x16a x16n x16c))]⟩ h nx

noncomputable def F6_J1 (call : YldF → CallF) (Y : YldF) (lf : Nat) (x10a : Option (Nat × Nat)) (x10n : Nat) (x10c : Bool) (x14a : Option (Nat × Nat)) (x14n : Nat) (x14c : Bool) (x16a : Option (Nat × Nat)) (x16n : Nat) (x16c : Bool) (h : AHeap) (nx : Nat) : Option (AV × AHeap × Nat) := F6_J1' go1 go1 call Y lf x10a x10n x10c x14a x14n x14c x16a x16n x16c h nx

theorem F6_J1_eq' (J : StepF (AV × AHeap × Nat) → StepF (AV × AHeap × Nat)) (call : YldF → CallF) (Y : YldF) (lf : Nat) (x10a : Option (Nat × Nat)) (x10n : Nat) (x10c : Bool) (x14a : Option (Nat × Nat)) (x14n : Nat) (x14c : Bool) (x16a : Option (Nat × Nat)) (x16n : Nat) (x16c : Bool) (h : AHeap) (nx : Nat) : F6_J1' go1 J call Y lf x10a x10n x10c x14a x14n x14c x16a x16n x16c h nx =
    (call Y 12 [(.slice x14a x14n x14c)] h (nx + 7)).bind fun r1 =>
    (asTup 2 r1.1).bind fun d2 =>
    (asSl (d2.getD 0 .bad)).bind fun s3 =>
    (asB (d2.getD 1 .bad)).bind fun t4 =>
    (call Y 12 [(.slice x16a x16n x16c)] r1.2.1 (r1.2.2 + 7)).bind fun r5 =>
    (asTup 2 r5.1).bind fun d6 =>
    (asSl (d6.getD 0 .bad)).bind fun s7 =>
    (asB (d6.getD 1 .bad)).bind fun t8 =>
    if t4 = true then
    (if t8 = true then
    ((call Y 15 [(.slice s3.1 s3.2.1 s3.2.2), (.slice s7.1 s7.2.1 s7.2.2)] r5.2.1 (r5.2.2 + 26)).bind fun r9 =>
    (asB r9.1).bind fun t10 =>
    if t10 = true then
    (if (((((x10n : Nat) : Int) : Int) == 0) == ((((x14n : Nat) : Int) : Int) == 0)) = true then
    (some ((.bool (decide ((((s3.2.1 : Nat) : Int) : Int) ≥ ((x10n : Nat) : Int)))), r9.2.1, r9.2.2))
    else
    (some ((.bool false), r9.2.1, r9.2.2)))
    else
    (some ((.bool false), r9.2.1, r9.2.2)))
    else
    (some ((.bool false), r5.2.1, (r5.2.2 + 26))))
    else
    (some ((.bool false), r5.2.1, (r5.2.2 + 26))) := by kernel_rfl

theorem F6_J1_eq (call : YldF → CallF) (Y : YldF) (lf : Nat) (x10a : Option (Nat × Nat)) (x10n : Nat) (x10c : Bool) (x14a : Option (Nat × Nat)) (x14n : Nat) (x14c : Bool) (x16a : Option (Nat × Nat)) (x16n : Nat) (x16c : Bool) (h : AHeap) (nx : Nat) : F6_J1 call Y lf x10a x10n x10c x14a x14n x14c x16a x16n x16c h nx =
    (call Y 12 [(.slice x14a x14n x14c)] h (nx + 7)).bind fun r1 =>
    (asTup 2 r1.1).bind fun d2 =>
    (asSl (d2.getD 0 .bad)).bind fun s3 =>
    (asB (d2.getD 1 .bad)).bind fun t4 =>
    (call Y 12 [(.slice x16a x16n x16c)] r1.2.1 (r1.2.2 + 7)).bind fun r5 =>
    (asTup 2 r5.1).bind fun d6 =>
    (asSl (d6.getD 0 .bad)).bind fun s7 =>
    (asB (d6.getD 1 .bad)).bind fun t8 =>
    if t4 = true then
    (if t8 = true then
    ((call Y 15 [(.slice s3.1 s3.2.1 s3.2.2), (.slice s7.1 s7.2.1 s7.2.2)] r5.2.1 (r5.2.2 + 26)).bind fun r9 =>
    (asB r9.1).bind fun t10 =>
    if t10 = true then
    (if (((((x10n : Nat) : Int) : Int) == 0) == ((((x14n : Nat) : Int) : Int) == 0)) = true then
    (some ((.bool (decide ((((s3.2.1 : Nat) : Int) : Int) ≥ ((x10n : Nat) : Int)))), r9.2.1, r9.2.2))
    else
    (some ((.bool false), r9.2.1, r9.2.2)))
    else
    (some ((.bool false), r9.2.1, r9.2.2)))
    else
    (some ((.bool false), r5.2.1, (r5.2.2 + 26))))
    else
    (some ((.bool false), r5.2.1, (r5.2.2 + 26))) := F6_J1_eq' go1 call Y lf x10a x10n x10c x14a x14n x14c x16a x16n x16c h nx

theorem F6_eq' (J : StepF (AV × AHeap × Nat) → StepF (AV × AHeap × Nat)) (n : Nat) (Y : YldF) (x0a : Option (Nat × Nat)) (x0n : Nat) (x0c : Bool) (x1a : Option (Nat × Nat)) (x1n : Nat) (x1c : Bool) (x2 : Int) (h : AHeap) (nx : Nat) : rootJ J Try.prog keepT (callP Try.prog keepT n) Y n 6 [(.slice x0a x0n x0c), (.slice x1a x1n x1c), (.int .i64 x2)] h nx =
    ((callP Try.prog keepT n) Y 7 [(.slice x0a x0n x0c), (.int .i64 20)] h (nx + 4)).bind fun r1 =>
    (asSl r1.1).bind fun s2 =>
    ((callP Try.prog keepT n) Y 8 [(.int .i64 x2), (.int .i64 (wrapA .i64 (((s2.2.1 : Nat) : Int) + 1)))] r1.2.1 (r1.2.2 + 6)).bind fun r3 =>
    (asI .i64 r3.1).bind fun n4 =>
    (srcS r3.2.1 s2.1 s2.2.1 5).bind fun q5 =>
    (appD r3.2.1 none 0 false 5 56 (r3.2.2 + 1) q5).bind fun e6 =>
    let h7 := AHeap.puts r3.2.1 e6.sets
    ((callP Try.prog keepT n) Y 7 [(.slice x1a x1n x1c), (.int .i64 20)] h7 (r3.2.2 + 6)).bind fun r8 =>
    (asSl r8.1).bind fun s9 =>
    (srcS r8.2.1 s9.1 s9.2.1 5).bind fun q10 =>
    (appD r8.2.1 e6.a e6.n e6.c 5 56 (r3.2.2 + 4) q10).bind fun e11 =>
    let h12 := AHeap.puts r8.2.1 e11.sets
    ((callP Try.prog keepT n) Y 10 [(.slice s2.1 s2.2.1 s2.2.2), (.int .i64 n4)] h12 (r8.2.2 + 8)).bind fun r13 =>
    (asTup 2 r13.1).bind fun d14 =>
    (asSl (d14.getD 0 .bad)).bind fun s15 =>
    (asB (d14.getD 1 .bad)).bind fun t16 =>
    ((callP Try.prog keepT n) Y 10 [(.slice e11.a e11.n e11.c), (.int .i64 n4)] r13.2.1 (r13.2.2 + 8)).bind fun r17 =>
    (asTup 2 r17.1).bind fun d18 =>
    (asSl (d18.getD 0 .bad)).bind fun s19 =>
    (asB (d18.getD 1 .bad)).bind fun t20 =>
    ((callP Try.prog keepT n) Y 11 [(.slice s2.1 s2.2.1 s2.2.2), (.int .i64 n4)] r17.2.1 (r17.2.2 + 8)).bind fun r21 =>
    (asTup 2 r21.1).bind fun d22 =>
    (asSl (d22.getD 0 .bad)).bind fun s23 =>
    (asI .i64 (d22.getD 1 .bad)).bind fun n24 =>
    ((callP Try.prog keepT n) Y 11 [(.slice e11.a e11.n e11.c), (.int .i64 n4)] r21.2.1 (r21.2.2 + 8)).bind fun r25 =>
    (asTup 2 r25.1).bind fun d26 =>
    (asSl (d26.getD 0 .bad)).bind fun s27 =>
    (asI .i64 (d26.getD 1 .bad)).bind fun n28 =>
    if (!t16) = true then
    (some ((.bool false), r25.2.1, (r25.2.2 + 21)))
    else
    (if (!t20) = true then
    (some ((.bool false), r25.2.1, (r25.2.2 + 21)))
    else
    (if ((n24 : Int) != 0) = true then
    (some ((.bool false), r25.2.1, (r25.2.2 + 21)))
    else
    (if ((n28 : Int) != 0) = true then
    (some ((.bool false), r25.2.1, (r25.2.2 + 21)))
    else
    (((callP Try.prog keepT n) Y 15 [(.slice s15.1 s15.2.1 s15.2.2), (.slice s19.1 s19.2.1 s19.2.2)] r25.2.1 (r25.2.2 + 20)).bind fun r29 =>
    (asB r29.1).bind fun t30 =>
    if (!t30) = true then
    (some ((.bool false), r29.2.1, (r29.2.2 + 1)))
    else
    (F6_J1' J J (callP Try.prog keepT n) Y n s15.1 s15.2.1 s15.2.2 s23.1 s23.2.1 s23.2.2 s27.1 s27.2.1 s27.2.2 r29.2.1 r29.2.2))))) := by kernel_rfl

/-- quickset/quicksetkeep.TreeStays -/
theorem F6_eq (n : Nat) (Y : YldF) (x0a : Option (Nat × Nat)) (x0n : Nat) (x0c : Bool) (x1a : Option (Nat × Nat)) (x1n : Nat) (x1c : Bool) (x2 : Int) (h : AHeap) (nx : Nat) : callP Try.prog keepT (n + 1) Y 6 [(.slice x0a x0n x0c), (.slice x1a x1n x1c), (.int .i64 x2)] h nx =
    ((callP Try.prog keepT n) Y 7 [(.slice x0a x0n x0c), (.int .i64 20)] h (nx + 4)).bind fun r1 =>
    (asSl r1.1).bind fun s2 =>
    ((callP Try.prog keepT n) Y 8 [(.int .i64 x2), (.int .i64 (wrapA .i64 (((s2.2.1 : Nat) : Int) + 1)))] r1.2.1 (r1.2.2 + 6)).bind fun r3 =>
    (asI .i64 r3.1).bind fun n4 =>
    (srcS r3.2.1 s2.1 s2.2.1 5).bind fun q5 =>
    (appD r3.2.1 none 0 false 5 56 (r3.2.2 + 1) q5).bind fun e6 =>
    let h7 := AHeap.puts r3.2.1 e6.sets
    ((callP Try.prog keepT n) Y 7 [(.slice x1a x1n x1c), (.int .i64 20)] h7 (r3.2.2 + 6)).bind fun r8 =>
    (asSl r8.1).bind fun s9 =>
    (srcS r8.2.1 s9.1 s9.2.1 5).bind fun q10 =>
    (appD r8.2.1 e6.a e6.n e6.c 5 56 (r3.2.2 + 4) q10).bind fun e11 =>
    let h12 := AHeap.puts r8.2.1 e11.sets
    ((callP Try.prog keepT n) Y 10 [(.slice s2.1 s2.2.1 s2.2.2), (.int .i64 n4)] h12 (r8.2.2 + 8)).bind fun r13 =>
    (asTup 2 r13.1).bind fun d14 =>
    (asSl (d14.getD 0 .bad)).bind fun s15 =>
    (asB (d14.getD 1 .bad)).bind fun t16 =>
    ((callP Try.prog keepT n) Y 10 [(.slice e11.a e11.n e11.c), (.int .i64 n4)] r13.2.1 (r13.2.2 + 8)).bind fun r17 =>
    (asTup 2 r17.1).bind fun d18 =>
    (asSl (d18.getD 0 .bad)).bind fun s19 =>
    (asB (d18.getD 1 .bad)).bind fun t20 =>
    ((callP Try.prog keepT n) Y 11 [(.slice s2.1 s2.2.1 s2.2.2), (.int .i64 n4)] r17.2.1 (r17.2.2 + 8)).bind fun r21 =>
    (asTup 2 r21.1).bind fun d22 =>
    (asSl (d22.getD 0 .bad)).bind fun s23 =>
    (asI .i64 (d22.getD 1 .bad)).bind fun n24 =>
    ((callP Try.prog keepT n) Y 11 [(.slice e11.a e11.n e11.c), (.int .i64 n4)] r21.2.1 (r21.2.2 + 8)).bind fun r25 =>
    (asTup 2 r25.1).bind fun d26 =>
    (asSl (d26.getD 0 .bad)).bind fun s27 =>
    (asI .i64 (d26.getD 1 .bad)).bind fun n28 =>
    if (!t16) = true then
    (some ((.bool false), r25.2.1, (r25.2.2 + 21)))
    else
    (if (!t20) = true then
    (some ((.bool false), r25.2.1, (r25.2.2 + 21)))
    else
    (if ((n24 : Int) != 0) = true then
    (some ((.bool false), r25.2.1, (r25.2.2 + 21)))
    else
    (if ((n28 : Int) != 0) = true then
    (some ((.bool false), r25.2.1, (r25.2.2 + 21)))
    else
    (((callP Try.prog keepT n) Y 15 [(.slice s15.1 s15.2.1 s15.2.2), (.slice s19.1 s19.2.1 s19.2.2)] r25.2.1 (r25.2.2 + 20)).bind fun r29 =>
    (asB r29.1).bind fun t30 =>
    if (!t30) = true then
    (some ((.bool false), r29.2.1, (r29.2.2 + 1)))
    else
    (F6_J1 (callP Try.prog keepT n) Y n s15.1 s15.2.1 s15.2.2 s23.1 s23.2.1 s23.2.2 s27.1 s27.2.1 s27.2.2 r29.2.1 r29.2.2))))) := F6_eq' go1 n Y x0a x0n x0c x1a x1n x1c x2 h nx

noncomputable def c7 : Code := (Try.f7.body).getD .skip

noncomputable def r7 : List ResultVar := Try.f7.results.toList

noncomputable def F7_L1' (W J : StepF (AV × AHeap × Nat) → StepF (AV × AHeap × Nat)) (call : YldF → CallF) (Y : YldF) (lf : Nat) (n0 : Nat) (x0a : Option (Nat × Nat)) (x0n : Nat) (x0c : Bool) (x1 : Int) (x5a : Option (Nat × Nat)) (x5n : Nat) (x5c : Bool) (x6 : Int) (h : AHeap) (nx : Nat) : Option (AV × AHeap × Nat) :=
  goK W J drawK (machOf Try.prog) call Y (keepT 7) lf c7 [1, 1, 0, 1, 0, 9] [n0] (retK (machOf Try.prog) ⟨c7, 62, r7, keepT 7⟩) ⟨62, mkL [(0, (.slice x0a x0n x0c)), (1, (.int .i64 x1)), (5, (.slice x5a x5n x5c)), (6, (.int .i64 x6))]⟩ h nx

noncomputable def F7_L1 (call : YldF → CallF) (Y : YldF) (lf : Nat) (n0 : Nat) (x0a : Option (Nat × Nat)) (x0n : Nat) (x0c : Bool) (x1 : Int) (x5a : Option (Nat × Nat)) (x5n : Nat) (x5c : Bool) (x6 : Int) (h : AHeap) (nx : Nat) : Option (AV × AHeap × Nat) := F7_L1' go1 go1 call Y lf n0 x0a x0n x0c x1 x5a x5n x5c x6 h nx

noncomputable def F7_J2' (W J : StepF (AV × AHeap × Nat) → StepF (AV × AHeap × Nat)) (call : YldF → CallF) (Y : YldF) (lf : Nat) (n0 : Nat) (x0a : Option (Nat × Nat)) (x0n : Nat) (x0c : Bool) (x1 : Int) (x5a : Option (Nat × Nat)) (x5n : Nat) (x5c : Bool) (x6 : Int) (h : AHeap) (nx : Nat) : Option (AV × AHeap × Nat) :=
  goK W J drawK (machOf Try.prog) call Y (keepT 7) lf c7 [1, 1, 0, 1, 0, 0, 1] [n0] (retK (machOf Try.prog) ⟨c7, 62, r7, keepT 7⟩) ⟨62, mkL [(0, (.slice x0a x0n x0c)), (1, (.int .i64 x1)), (5, (.slice x5a x5n x5c)), (6, (.int .i64 x6))]⟩ h nx

noncomputable def F7_J2 (call : YldF → CallF) (Y : YldF) (lf : Nat) (n0 : Nat) (x0a : Option (Nat × Nat)) (x0n : Nat) (x0c : Bool) (x1 : Int) (x5a : Option (Nat × Nat)) (x5n : Nat) (x5c : Bool) (x6 : Int) (h : AHeap) (nx : Nat) : Option (AV × AHeap × Nat) := F7_J2' go1 go1 call Y lf n0 x0a x0n x0c x1 x5a x5n x5c x6 h nx

noncomputable def F7_J3' (W J : StepF (AV × AHeap × Nat) → StepF (AV × AHeap × Nat)) (call : YldF → CallF) (Y : YldF) (lf : Nat) (n0 : Nat) (x0a : Option (Nat × Nat)) (x0n : Nat) (x0c : Bool) (x1 : Int) (x5a : Option (Nat × Nat)) (x5n : Nat) (x5c : Bool) (x6 : Int) (x7 : Option (Nat × Nat)) (h : AHeap) (nx : Nat) : Option (AV × AHeap × Nat) :=
  goK W J drawK (machOf Try.prog) call Y (keepT 7) lf c7 [1, 1, 0, 1, 0, 0, 1, 0, 0, 1, 1] [n0] (retK (machOf Try.prog) ⟨c7, 62, r7, keepT 7⟩) ⟨62, mkL [(0, (.slice x0a x0n x0c)), (1, (.int .i64 x1)), (5, (.slice x5a x5n x5c)), (6, (.int .i64 x6)), (7, (.ptr x7))]⟩ h nx

noncomputable def F7_J3 (call : YldF → CallF) (Y : YldF) (lf : Nat) (n0 : Nat) (x0a : Option (Nat × Nat)) (x0n : Nat) (x0c : Bool) (x1 : Int) (x5a : Option (Nat × Nat)) (x5n : Nat) (x5c : Bool) (x6 : Int) (x7 : Option (Nat × Nat)) (h : AHeap) (nx : Nat) : Option (AV × AHeap × Nat) := F7_J3' go1 go1 call Y lf n0 x0a x0n x0c x1 x5a x5n x5c x6 x7 h nx

theorem F7_L1_eq' (J : StepF (AV × AHeap × Nat) → StepF (AV × AHeap × Nat)) (call : YldF → CallF) (Y : YldF) (lf : Nat) (n0 : Nat) (x0a : Option (Nat × Nat)) (x0n : Nat) (x0c : Bool) (x1 : Int) (x5a : Option (Nat × Nat)) (x5n : Nat) (x5c : Bool) (x6 : Int) (h : AHeap) (nx : Nat) : F7_L1' go1 J call Y lf (n0 + 1) x0a x0n x0c x1 x5a x5n x5c x6 h nx =
    if (decide ((x6 : Int) < ((x0n : Nat) : Int))) = true then
    (if (decide ((x6 : Int) < x1)) = true then
    (F7_J2' J J call Y lf n0 x0a x0n x0c x1 x5a x5n x5c x6 h (nx + 9))
    else
    (some ((.slice x5a x5n x5c), h, (nx + 11))))
    else
    (some ((.slice x5a x5n x5c), h, (nx + 11))) := by kernel_rfl

theorem F7_L1_eq (call : YldF → CallF) (Y : YldF) (lf : Nat) (n0 : Nat) (x0a : Option (Nat × Nat)) (x0n : Nat) (x0c : Bool) (x1 : Int) (x5a : Option (Nat × Nat)) (x5n : Nat) (x5c : Bool) (x6 : Int) (h : AHeap) (nx : Nat) : F7_L1 call Y lf (n0 + 1) x0a x0n x0c x1 x5a x5n x5c x6 h nx =
    if (decide ((x6 : Int) < ((x0n : Nat) : Int))) = true then
    (if (decide ((x6 : Int) < x1)) = true then
    (F7_J2 call Y lf n0 x0a x0n x0c x1 x5a x5n x5c x6 h (nx + 9))
    else
    (some ((.slice x5a x5n x5c), h, (nx + 11))))
    else
    (some ((.slice x5a x5n x5c), h, (nx + 11))) := F7_L1_eq' go1 call Y lf n0 x0a x0n x0c x1 x5a x5n x5c x6 h nx

theorem F7_L1_zero (call : YldF → CallF) (Y : YldF) (lf : Nat) (x0a : Option (Nat × Nat)) (x0n : Nat) (x0c : Bool) (x1 : Int) (x5a : Option (Nat × Nat)) (x5n : Nat) (x5c : Bool) (x6 : Int) (h : AHeap) (nx : Nat) : F7_L1 call Y lf 0 x0a x0n x0c x1 x5a x5n x5c x6 h nx = none := by kernel_rfl

theorem F7_J2_eq' (J : StepF (AV × AHeap × Nat) → StepF (AV × AHeap × Nat)) (call : YldF → CallF) (Y : YldF) (lf : Nat) (n0 : Nat) (x0a : Option (Nat × Nat)) (x0n : Nat) (x0c : Bool) (x1 : Int) (x5a : Option (Nat × Nat)) (x5n : Nat) (x5c : Bool) (x6 : Int) (h : AHeap) (nx : Nat) : F7_J2' go1 J call Y lf n0 x0a x0n x0c x1 x5a x5n x5c x6 h nx =
    (x0a).bind fun p1 =>
    if 0 ≤ (x6 : Int) ∧ x6 < ((x0n : Nat) : Int) then
    ((ldA h p1.1 ((p1.2 + Int.toNat x6 * 4) + 1)).bind fun v2 =>
    (asI .i64 v2).bind fun n3 =>
    (call Y 8 [(.int .i64 n3), (.int .i64 3)] h (nx + 26)).bind fun r4 =>
    (asI .i64 r4.1).bind fun n5 =>
    (call Y 8 [(.int .i64 (wrapA .i64 (x6 - n5))), (.int .i64 (wrapA .i64 (x6 + 1)))] r4.2.1 r4.2.2).bind fun r6 =>
    (asI .i64 r6.1).bind fun n7 =>
    (x0a).bind fun p8 =>
    if 0 ≤ (x6 : Int) ∧ x6 < ((x0n : Nat) : Int) then
    ((ldA r6.2.1 p8.1 ((p8.2 + Int.toNat x6 * 4) + 2)).bind fun v9 =>
    (asI .i64 v9).bind fun n10 =>
    (call Y 8 [(.int .i64 n10), (.int .i64 2000)] r6.2.1 r6.2.2).bind fun r11 =>
    (asI .i64 r11.1).bind fun n12 =>
    (x0a).bind fun p13 =>
    if 0 ≤ (x6 : Int) ∧ x6 < ((x0n : Nat) : Int) then
    ((ldA r11.2.1 p13.1 ((p13.2 + Int.toNat x6 * 4) + 3)).bind fun v14 =>
    (asSl v14).bind fun s15 =>
    (call Y 9 [(.slice s15.1 s15.2.1 s15.2.2), (.int .i64 300)] r11.2.1 r11.2.2).bind fun r16 =>
    (asSl r16.1).bind fun s17 =>
    let h18 := AHeap.put r16.2.1 (nx + 24) (some ⟨[(.int .i64 0), (.int .i64 0), (.int .i64 0), (.int .i64 0), (.slice none 0 false)], 5, true⟩)
    (stA h18 (nx + 24) 0 (.agg [(.int .i64 1), (.int .i64 n7), (.int .i64 n12), (.int .i64 0), (.slice s17.1 s17.2.1 s17.2.2)]) 5).bind fun b19 =>
    let h20 := AHeap.put h18 (nx + 24) (some b19)
    ifApart [([(nx + 24)], [p1.1]), ([(nx + 24)], [p8.1]), ([(nx + 24)], [p13.1])]
    (ifKept [(h, r4.2.1, [p8.1]), (h, r4.2.1, [p13.1]), (r4.2.1, r6.2.1, [p8.1]), (r4.2.1, r6.2.1, [p13.1]), (r6.2.1, r11.2.1, [p13.1])]
    (ifRob (callC (call Y) Y) [⟨(.fn 8), [(.int .i64 n3), (.int .i64 3)], (.int .i64 n5), h, r4.2.1, (nx + 26), r4.2.2, [(nx + 24)]⟩, ⟨(.fn 8), [(.int .i64 (wrapA .i64 (x6 - n5))), (.int .i64 (wrapA .i64 (x6 + 1)))], (.int .i64 n7), r4.2.1, r6.2.1, r4.2.2, r6.2.2, [(nx + 24)]⟩, ⟨(.fn 8), [(.int .i64 n10), (.int .i64 2000)], (.int .i64 n12), r6.2.1, r11.2.1, r6.2.2, r11.2.2, [(nx + 24)]⟩, ⟨(.fn 9), [(.slice s15.1 s15.2.1 s15.2.2), (.int .i64 300)], (.slice s17.1 s17.2.1 s17.2.2), r11.2.1, r16.2.1, r11.2.2, r16.2.2, [(nx + 24)]⟩]
    ((x0a).bind fun p21 =>
    if 0 ≤ (x6 : Int) ∧ x6 < ((x0n : Nat) : Int) then
    ((ldA h20 p21.1 (p21.2 + Int.toNat x6 * 4)).bind fun v22 =>
    (asB v22).bind fun t23 =>
    if t23 = true then
    ((ldA h20 (nx + 24) 1).bind fun v24 =>
    (asI .i64 v24).bind fun n25 =>
    (x0a).bind fun p26 =>
    if 0 ≤ (x6 : Int) ∧ x6 < ((x0n : Nat) : Int) then
    ((ldA h20 p26.1 ((p26.2 + Int.toNat x6 * 4) + 2)).bind fun v27 =>
    (asI .i64 v27).bind fun n28 =>
    (call Y 8 [(.int .i64 n28), (.int .i64 2600)] h20 (r16.2.2 + 15)).bind fun r29 =>
    (asI .i64 r29.1).bind fun n30 =>
    (stA r29.2.1 (nx + 24) 0 (.agg [(.int .i64 2), (.int .i64 n25), (.int .i64 0), (.int .i64 n30), (.slice none 0 false)]) 5).bind fun b31 =>
    let h32 := AHeap.put r29.2.1 (nx + 24) (some b31)
    ifKept [(h20, r29.2.1, [(nx + 24)])]
    (F7_J3' J J call Y lf n0 x0a x0n x0c x1 x5a x5n x5c x6 (some ((nx + 24), 0)) h32 r29.2.2))
    else none)
    else
    (F7_J3' J J call Y lf n0 x0a x0n x0c x1 x5a x5n x5c x6 (some ((nx + 24), 0)) h20 (r16.2.2 + 5)))
    else none))))
    else none)
    else none)
    else none := by kernel_rfl

theorem F7_J2_eq (call : YldF → CallF) (Y : YldF) (lf : Nat) (n0 : Nat) (x0a : Option (Nat × Nat)) (x0n : Nat) (x0c : Bool) (x1 : Int) (x5a : Option (Nat × Nat)) (x5n : Nat) (x5c : Bool) (x6 : Int) (h : AHeap) (nx : Nat) : F7_J2 call Y lf n0 x0a x0n x0c x1 x5a x5n x5c x6 h nx =
    (x0a).bind fun p1 =>
    if 0 ≤ (x6 : Int) ∧ x6 < ((x0n : Nat) : Int) then
    ((ldA h p1.1 ((p1.2 + Int.toNat x6 * 4) + 1)).bind fun v2 =>
    (asI .i64 v2).bind fun n3 =>
    (call Y 8 [(.int .i64 n3), (.int .i64 3)] h (nx + 26)).bind fun r4 =>
    (asI .i64 r4.1).bind fun n5 =>
    (call Y 8 [(.int .i64 (wrapA .i64 (x6 - n5))), (.int .i64 (wrapA .i64 (x6 + 1)))] r4.2.1 r4.2.2).bind fun r6 =>
    (asI .i64 r6.1).bind fun n7 =>
    (x0a).bind fun p8 =>
    if 0 ≤ (x6 : Int) ∧ x6 < ((x0n : Nat) : Int) then
    ((ldA r6.2.1 p8.1 ((p8.2 + Int.toNat x6 * 4) + 2)).bind fun v9 =>
    (asI .i64 v9).bind fun n10 =>
    (call Y 8 [(.int .i64 n10), (.int .i64 2000)] r6.2.1 r6.2.2).bind fun r11 =>
    (asI .i64 r11.1).bind fun n12 =>
    (x0a).bind fun p13 =>
    if 0 ≤ (x6 : Int) ∧ x6 < ((x0n : Nat) : Int) then
    ((ldA r11.2.1 p13.1 ((p13.2 + Int.toNat x6 * 4) + 3)).bind fun v14 =>
    (asSl v14).bind fun s15 =>
    (call Y 9 [(.slice s15.1 s15.2.1 s15.2.2), (.int .i64 300)] r11.2.1 r11.2.2).bind fun r16 =>
    (asSl r16.1).bind fun s17 =>
    let h18 := AHeap.put r16.2.1 (nx + 24) (some ⟨[(.int .i64 0), (.int .i64 0), (.int .i64 0), (.int .i64 0), (.slice none 0 false)], 5, true⟩)
    (stA h18 (nx + 24) 0 (.agg [(.int .i64 1), (.int .i64 n7), (.int .i64 n12), (.int .i64 0), (.slice s17.1 s17.2.1 s17.2.2)]) 5).bind fun b19 =>
    let h20 := AHeap.put h18 (nx + 24) (some b19)
    ifApart [([(nx + 24)], [p1.1]), ([(nx + 24)], [p8.1]), ([(nx + 24)], [p13.1])]
    (ifKept [(h, r4.2.1, [p8.1]), (h, r4.2.1, [p13.1]), (r4.2.1, r6.2.1, [p8.1]), (r4.2.1, r6.2.1, [p13.1]), (r6.2.1, r11.2.1, [p13.1])]
    (ifRob (callC (call Y) Y) [⟨(.fn 8), [(.int .i64 n3), (.int .i64 3)], (.int .i64 n5), h, r4.2.1, (nx + 26), r4.2.2, [(nx + 24)]⟩, ⟨(.fn 8), [(.int .i64 (wrapA .i64 (x6 - n5))), (.int .i64 (wrapA .i64 (x6 + 1)))], (.int .i64 n7), r4.2.1, r6.2.1, r4.2.2, r6.2.2, [(nx + 24)]⟩, ⟨(.fn 8), [(.int .i64 n10), (.int .i64 2000)], (.int .i64 n12), r6.2.1, r11.2.1, r6.2.2, r11.2.2, [(nx + 24)]⟩, ⟨(.fn 9), [(.slice s15.1 s15.2.1 s15.2.2), (.int .i64 300)], (.slice s17.1 s17.2.1 s17.2.2), r11.2.1, r16.2.1, r11.2.2, r16.2.2, [(nx + 24)]⟩]
    ((x0a).bind fun p21 =>
    if 0 ≤ (x6 : Int) ∧ x6 < ((x0n : Nat) : Int) then
    ((ldA h20 p21.1 (p21.2 + Int.toNat x6 * 4)).bind fun v22 =>
    (asB v22).bind fun t23 =>
    if t23 = true then
    ((ldA h20 (nx + 24) 1).bind fun v24 =>
    (asI .i64 v24).bind fun n25 =>
    (x0a).bind fun p26 =>
    if 0 ≤ (x6 : Int) ∧ x6 < ((x0n : Nat) : Int) then
    ((ldA h20 p26.1 ((p26.2 + Int.toNat x6 * 4) + 2)).bind fun v27 =>
    (asI .i64 v27).bind fun n28 =>
    (call Y 8 [(.int .i64 n28), (.int .i64 2600)] h20 (r16.2.2 + 15)).bind fun r29 =>
    (asI .i64 r29.1).bind fun n30 =>
    (stA r29.2.1 (nx + 24) 0 (.agg [(.int .i64 2), (.int .i64 n25), (.int .i64 0), (.int .i64 n30), (.slice none 0 false)]) 5).bind fun b31 =>
    let h32 := AHeap.put r29.2.1 (nx + 24) (some b31)
    ifKept [(h20, r29.2.1, [(nx + 24)])]
    (F7_J3 call Y lf n0 x0a x0n x0c x1 x5a x5n x5c x6 (some ((nx + 24), 0)) h32 r29.2.2))
    else none)
    else
    (F7_J3 call Y lf n0 x0a x0n x0c x1 x5a x5n x5c x6 (some ((nx + 24), 0)) h20 (r16.2.2 + 5)))
    else none))))
    else none)
    else none)
    else none := F7_J2_eq' go1 call Y lf n0 x0a x0n x0c x1 x5a x5n x5c x6 h nx

theorem F7_J3_eq' (J : StepF (AV × AHeap × Nat) → StepF (AV × AHeap × Nat)) (call : YldF → CallF) (Y : YldF) (lf : Nat) (n0 : Nat) (x0a : Option (Nat × Nat)) (x0n : Nat) (x0c : Bool) (x1 : Int) (x5a : Option (Nat × Nat)) (x5n : Nat) (x5c : Bool) (x6 : Int) (x7 : Option (Nat × Nat)) (h : AHeap) (nx : Nat) : F7_J3' go1 J call Y lf n0 x0a x0n x0c x1 x5a x5n x5c x6 x7 h nx =
    (x7).bind fun p1 =>
    (ldR h p1.1 p1.2 5).bind fun l2 =>
    (asAgg 5 (AV.agg l2)).bind fun d3 =>
    (asI .i64 (d3.getD 0 .bad)).bind fun n4 =>
    (asI .i64 (d3.getD 1 .bad)).bind fun n5 =>
    (asI .i64 (d3.getD 2 .bad)).bind fun n6 =>
    (asI .i64 (d3.getD 3 .bad)).bind fun n7 =>
    (asSl (d3.getD 4 .bad)).bind fun s8 =>
    let h9 := AHeap.put h (nx + 2) (some ⟨[(.int .i64 n4), (.int .i64 n5), (.int .i64 n6), (.int .i64 n7), (.slice s8.1 s8.2.1 s8.2.2)], 5, true⟩)
    (srcS h9 (some ((nx + 2), 0)) 1 5).bind fun q10 =>
    (appD h9 x5a x5n x5c 5 56 (nx + 3) q10).bind fun e11 =>
    let h12 := AHeap.puts h9 e11.sets
    F7_L1' J J call Y lf n0 x0a x0n x0c x1 e11.a e11.n e11.c (wrapA .i64 (x6 + 1)) h12 (nx + 8) := by kernel_rfl

theorem F7_J3_eq (call : YldF → CallF) (Y : YldF) (lf : Nat) (n0 : Nat) (x0a : Option (Nat × Nat)) (x0n : Nat) (x0c : Bool) (x1 : Int) (x5a : Option (Nat × Nat)) (x5n : Nat) (x5c : Bool) (x6 : Int) (x7 : Option (Nat × Nat)) (h : AHeap) (nx : Nat) : F7_J3 call Y lf n0 x0a x0n x0c x1 x5a x5n x5c x6 x7 h nx =
    (x7).bind fun p1 =>
    (ldR h p1.1 p1.2 5).bind fun l2 =>
    (asAgg 5 (AV.agg l2)).bind fun d3 =>
    (asI .i64 (d3.getD 0 .bad)).bind fun n4 =>
    (asI .i64 (d3.getD 1 .bad)).bind fun n5 =>
    (asI .i64 (d3.getD 2 .bad)).bind fun n6 =>
    (asI .i64 (d3.getD 3 .bad)).bind fun n7 =>
    (asSl (d3.getD 4 .bad)).bind fun s8 =>
    let h9 := AHeap.put h (nx + 2) (some ⟨[(.int .i64 n4), (.int .i64 n5), (.int .i64 n6), (.int .i64 n7), (.slice s8.1 s8.2.1 s8.2.2)], 5, true⟩)
    (srcS h9 (some ((nx + 2), 0)) 1 5).bind fun q10 =>
    (appD h9 x5a x5n x5c 5 56 (nx + 3) q10).bind fun e11 =>
    let h12 := AHeap.puts h9 e11.sets
    F7_L1 call Y lf n0 x0a x0n x0c x1 e11.a e11.n e11.c (wrapA .i64 (x6 + 1)) h12 (nx + 8) := F7_J3_eq' go1 call Y lf n0 x0a x0n x0c x1 x5a x5n x5c x6 x7 h nx

theorem F7_eq' (J : StepF (AV × AHeap × Nat) → StepF (AV × AHeap × Nat)) (n : Nat) (Y : YldF) (x0a : Option (Nat × Nat)) (x0n : Nat) (x0c : Bool) (x1 : Int) (h : AHeap) (nx : Nat) : rootJ J Try.prog keepT (callP Try.prog keepT n) Y n 7 [(.slice x0a x0n x0c), (.int .i64 x1)] h nx =
    F7_L1' J J (callP Try.prog keepT n) Y n n x0a x0n x0c x1 none 0 false 0 h (nx + 3) := by kernel_rfl

/-- quickset/quicksetkeep.Steps -/
theorem F7_eq (n : Nat) (Y : YldF) (x0a : Option (Nat × Nat)) (x0n : Nat) (x0c : Bool) (x1 : Int) (h : AHeap) (nx : Nat) : callP Try.prog keepT (n + 1) Y 7 [(.slice x0a x0n x0c), (.int .i64 x1)] h nx =
    F7_L1 (callP Try.prog keepT n) Y n n x0a x0n x0c x1 none 0 false 0 h (nx + 3) := F7_eq' go1 n Y x0a x0n x0c x1 h nx

noncomputable def c8 : Code := (Try.f8.body).getD .skip

noncomputable def r8 : List ResultVar := Try.f8.results.toList

theorem F8_eq' (J : StepF (AV × AHeap × Nat) → StepF (AV × AHeap × Nat)) (n : Nat) (Y : YldF) (x0 : Int) (x1 : Int) (h : AHeap) (nx : Nat) : rootJ J Try.prog keepT (callP Try.prog keepT n) Y n 8 [(.int .i64 x0), (.int .i64 x1)] h nx =
    if (x1 : Int) = 0 then none else
    (if (decide (((Int.tmod x0 x1) : Int) < 0)) = true then
    (some ((.int .i64 (wrapA .i64 ((Int.tmod x0 x1) + x1))), h, (nx + 11)))
    else
    (some ((.int .i64 (Int.tmod x0 x1)), h, (nx + 9)))) := by kernel_rfl

/-- quickset/quicksetkeep.Picked -/
theorem F8_eq (n : Nat) (Y : YldF) (x0 : Int) (x1 : Int) (h : AHeap) (nx : Nat) : callP Try.prog keepT (n + 1) Y 8 [(.int .i64 x0), (.int .i64 x1)] h nx =
    if (x1 : Int) = 0 then none else
    (if (decide (((Int.tmod x0 x1) : Int) < 0)) = true then
    (some ((.int .i64 (wrapA .i64 ((Int.tmod x0 x1) + x1))), h, (nx + 11)))
    else
    (some ((.int .i64 (Int.tmod x0 x1)), h, (nx + 9)))) := F8_eq' go1 n Y x0 x1 h nx

noncomputable def c9 : Code := (Try.f9.body).getD .skip

noncomputable def r9 : List ResultVar := Try.f9.results.toList

theorem F9_eq' (J : StepF (AV × AHeap × Nat) → StepF (AV × AHeap × Nat)) (n : Nat) (Y : YldF) (x0a : Option (Nat × Nat)) (x0n : Nat) (x0c : Bool) (x1 : Int) (h : AHeap) (nx : Nat) : rootJ J Try.prog keepT (callP Try.prog keepT n) Y n 9 [(.slice x0a x0n x0c), (.int .i64 x1)] h nx =
    if ((((x0n : Nat) : Int) : Int) == 0) = true then
    (let h1 := AHeap.put h (nx + 4) (some ⟨[(.int .u8 7)], 1, true⟩)
    some ((.slice (some ((nx + 4), 0)) 1 true), h1, (nx + 6)))
    else
    ((cutA h x0a x0n x0c 1 none (some (.int .i64 (if x1 < ((x0n : Nat) : Int) then x1 else ((x0n : Nat) : Int)))) none).bind fun s2 =>
    (srcS h s2.1 s2.2.1 1).bind fun q3 =>
    (appD h none 0 false 1 1 (nx + 10) q3).bind fun e4 =>
    let h5 := AHeap.puts h e4.sets
    some ((.slice e4.a e4.n e4.c), h5, (nx + 12))) := by kernel_rfl

/-- quickset/quicksetkeep.Block -/
theorem F9_eq (n : Nat) (Y : YldF) (x0a : Option (Nat × Nat)) (x0n : Nat) (x0c : Bool) (x1 : Int) (h : AHeap) (nx : Nat) : callP Try.prog keepT (n + 1) Y 9 [(.slice x0a x0n x0c), (.int .i64 x1)] h nx =
    if ((((x0n : Nat) : Int) : Int) == 0) = true then
    (let h1 := AHeap.put h (nx + 4) (some ⟨[(.int .u8 7)], 1, true⟩)
    some ((.slice (some ((nx + 4), 0)) 1 true), h1, (nx + 6)))
    else
    ((cutA h x0a x0n x0c 1 none (some (.int .i64 (if x1 < ((x0n : Nat) : Int) then x1 else ((x0n : Nat) : Int)))) none).bind fun s2 =>
    (srcS h s2.1 s2.2.1 1).bind fun q3 =>
    (appD h none 0 false 1 1 (nx + 10) q3).bind fun e4 =>
    let h5 := AHeap.puts h e4.sets
    some ((.slice e4.a e4.n e4.c), h5, (nx + 12))) := F9_eq' go1 n Y x0a x0n x0c x1 h nx

noncomputable def c10 : Code := (Try.f10.body).getD .skip

noncomputable def r10 : List ResultVar := Try.f10.results.toList

noncomputable def F10_J1' (W J : StepF (AV × AHeap × Nat) → StepF (AV × AHeap × Nat)) (call : YldF → CallF) (Y : YldF) (lf : Nat) (x0a : Option (Nat × Nat)) (x0n : Nat) (x0c : Bool) (x6a : Option (Nat × Nat)) (x6n : Nat) (x6c : Bool) (h : AHeap) (nx : Nat) : Option (AV × AHeap × Nat) :=
  goK W J drawK (machOf Try.prog) call Y (keepT 10) lf c10 [1, 1, 1] [] (retK (machOf Try.prog) ⟨c10, 47, r10, keepT 10⟩) ⟨47, mkL [(0, (.slice x0a x0n x0c)), (6, (.slice x6a x6n x6c))]⟩ h nx

noncomputable def F10_J1 (call : YldF → CallF) (Y : YldF) (lf : Nat) (x0a : Option (Nat × Nat)) (x0n : Nat) (x0c : Bool) (x6a : Option (Nat × Nat)) (x6n : Nat) (x6c : Bool) (h : AHeap) (nx : Nat) : Option (AV × AHeap × Nat) := F10_J1' go1 go1 call Y lf x0a x0n x0c x6a x6n x6c h nx

theorem F10_J1_eq' (J : StepF (AV × AHeap × Nat) → StepF (AV × AHeap × Nat)) (call : YldF → CallF) (Y : YldF) (lf : Nat) (x0a : Option (Nat × Nat)) (x0n : Nat) (x0c : Bool) (x6a : Option (Nat × Nat)) (x6n : Nat) (x6c : Bool) (h : AHeap) (nx : Nat) : F10_J1' go1 J call Y lf x0a x0n x0c x6a x6n x6c h nx =
    (x6a).bind fun p1 =>
    if 0 ≤ (((x0n : Nat) : Int) : Int) ∧ ((x0n : Nat) : Int) < ((x6n : Nat) : Int) then
    ((ldR h p1.1 (p1.2 + Int.toNat ((x0n : Nat) : Int) * 4) 4).bind fun l2 =>
    (asAgg 4 (AV.agg l2)).bind fun d3 =>
    (asI .i64 (d3.getD 0 .bad)).bind fun n4 =>
    (asI .i64 (d3.getD 1 .bad)).bind fun n5 =>
    (asI .i64 (d3.getD 2 .bad)).bind fun n6 =>
    (asSl (d3.getD 3 .bad)).bind fun s7 =>
    let h8 := AHeap.put h (nx + 5) (some ⟨[(.int .i64 0), (.int .i64 0), (.int .i64 0), (.slice none 0 false)], 4, true⟩)
    (stA h8 (nx + 5) 0 (.agg [(.int .i64 n4), (.int .i64 n5), (.int .i64 n6), (.slice s7.1 s7.2.1 s7.2.2)]) 4).bind fun b9 =>
    let h10 := AHeap.put h8 (nx + 5) (some b9)
    (ldA h10 (nx + 5) 3).bind fun v11 =>
    (asSl v11).bind fun s12 =>
    (ldA h10 (nx + 5) 0).bind fun v13 =>
    (asI .i64 v13).bind fun n14 =>
    if ((n14 : Int) == 0) = true then
    ((ldA h10 (nx + 5) 2).bind fun v15 =>
    (asI .i64 v15).bind fun n16 =>
    (ldA h10 (nx + 5) 3).bind fun v17 =>
    (asSl v17).bind fun s18 =>
    some ((.tuple [(.slice s12.1 s12.2.1 s12.2.2), (.bool ((n16 : Int) == ((s18.2.1 : Nat) : Int)))]), h10, (nx + 22)))
    else
    (some ((.tuple [(.slice s12.1 s12.2.1 s12.2.2), (.bool false)]), h10, (nx + 22))))
    else none := by kernel_rfl

theorem F10_J1_eq (call : YldF → CallF) (Y : YldF) (lf : Nat) (x0a : Option (Nat × Nat)) (x0n : Nat) (x0c : Bool) (x6a : Option (Nat × Nat)) (x6n : Nat) (x6c : Bool) (h : AHeap) (nx : Nat) : F10_J1 call Y lf x0a x0n x0c x6a x6n x6c h nx =
    (x6a).bind fun p1 =>
    if 0 ≤ (((x0n : Nat) : Int) : Int) ∧ ((x0n : Nat) : Int) < ((x6n : Nat) : Int) then
    ((ldR h p1.1 (p1.2 + Int.toNat ((x0n : Nat) : Int) * 4) 4).bind fun l2 =>
    (asAgg 4 (AV.agg l2)).bind fun d3 =>
    (asI .i64 (d3.getD 0 .bad)).bind fun n4 =>
    (asI .i64 (d3.getD 1 .bad)).bind fun n5 =>
    (asI .i64 (d3.getD 2 .bad)).bind fun n6 =>
    (asSl (d3.getD 3 .bad)).bind fun s7 =>
    let h8 := AHeap.put h (nx + 5) (some ⟨[(.int .i64 0), (.int .i64 0), (.int .i64 0), (.slice none 0 false)], 4, true⟩)
    (stA h8 (nx + 5) 0 (.agg [(.int .i64 n4), (.int .i64 n5), (.int .i64 n6), (.slice s7.1 s7.2.1 s7.2.2)]) 4).bind fun b9 =>
    let h10 := AHeap.put h8 (nx + 5) (some b9)
    (ldA h10 (nx + 5) 3).bind fun v11 =>
    (asSl v11).bind fun s12 =>
    (ldA h10 (nx + 5) 0).bind fun v13 =>
    (asI .i64 v13).bind fun n14 =>
    if ((n14 : Int) == 0) = true then
    ((ldA h10 (nx + 5) 2).bind fun v15 =>
    (asI .i64 v15).bind fun n16 =>
    (ldA h10 (nx + 5) 3).bind fun v17 =>
    (asSl v17).bind fun s18 =>
    some ((.tuple [(.slice s12.1 s12.2.1 s12.2.2), (.bool ((n16 : Int) == ((s18.2.1 : Nat) : Int)))]), h10, (nx + 22)))
    else
    (some ((.tuple [(.slice s12.1 s12.2.1 s12.2.2), (.bool false)]), h10, (nx + 22))))
    else none := F10_J1_eq' go1 call Y lf x0a x0n x0c x6a x6n x6c h nx

theorem F10_eq' (J : StepF (AV × AHeap × Nat) → StepF (AV × AHeap × Nat)) (n : Nat) (Y : YldF) (x0a : Option (Nat × Nat)) (x0n : Nat) (x0c : Bool) (x1 : Int) (h : AHeap) (nx : Nat) : rootJ J Try.prog keepT (callP Try.prog keepT n) Y n 10 [(.slice x0a x0n x0c), (.int .i64 x1)] h nx =
    (srcS h x0a x0n 5).bind fun q1 =>
    (appD h none 0 false 5 56 (nx + 3) q1).bind fun e2 =>
    let h3 := AHeap.puts h e2.sets
    let h4 := AHeap.put h3 (nx + 6) (some ⟨[(.int .i64 3), (.int .i64 x1), (.int .i64 0), (.int .i64 4096), (.slice none 0 false)], 5, true⟩)
    (srcS h4 (some ((nx + 6), 0)) 1 5).bind fun q5 =>
    (appD h4 e2.a e2.n e2.c 5 56 (nx + 7) q5).bind fun e6 =>
    let h7 := AHeap.puts h4 e6.sets
    ((callP Try.prog keepT n) Y 16 [(.slice e6.a e6.n e6.c)] h7 (nx + 14)).bind fun r8 =>
    (asTup 2 r8.1).bind fun d9 =>
    (asSl (d9.getD 0 .bad)).bind fun s10 =>
    (asI .i64 (d9.getD 1 .bad)).bind fun n11 =>
    if ((n11 : Int) != 0) = true then
    (some ((.tuple [(.slice none 0 false), (.bool false)]), r8.2.1, (r8.2.2 + 12)))
    else
    (if ((((s10.2.1 : Nat) : Int) : Int) != (wrapA .i64 (((x0n : Nat) : Int) + 1))) = true then
    (some ((.tuple [(.slice none 0 false), (.bool false)]), r8.2.1, (r8.2.2 + 12)))
    else
    (F10_J1' J J (callP Try.prog keepT n) Y n x0a x0n x0c s10.1 s10.2.1 s10.2.2 r8.2.1 (r8.2.2 + 10))) := by kernel_rfl

/-- quickset/quicksetkeep.bytesOf -/
theorem F10_eq (n : Nat) (Y : YldF) (x0a : Option (Nat × Nat)) (x0n : Nat) (x0c : Bool) (x1 : Int) (h : AHeap) (nx : Nat) : callP Try.prog keepT (n + 1) Y 10 [(.slice x0a x0n x0c), (.int .i64 x1)] h nx =
    (srcS h x0a x0n 5).bind fun q1 =>
    (appD h none 0 false 5 56 (nx + 3) q1).bind fun e2 =>
    let h3 := AHeap.puts h e2.sets
    let h4 := AHeap.put h3 (nx + 6) (some ⟨[(.int .i64 3), (.int .i64 x1), (.int .i64 0), (.int .i64 4096), (.slice none 0 false)], 5, true⟩)
    (srcS h4 (some ((nx + 6), 0)) 1 5).bind fun q5 =>
    (appD h4 e2.a e2.n e2.c 5 56 (nx + 7) q5).bind fun e6 =>
    let h7 := AHeap.puts h4 e6.sets
    ((callP Try.prog keepT n) Y 16 [(.slice e6.a e6.n e6.c)] h7 (nx + 14)).bind fun r8 =>
    (asTup 2 r8.1).bind fun d9 =>
    (asSl (d9.getD 0 .bad)).bind fun s10 =>
    (asI .i64 (d9.getD 1 .bad)).bind fun n11 =>
    if ((n11 : Int) != 0) = true then
    (some ((.tuple [(.slice none 0 false), (.bool false)]), r8.2.1, (r8.2.2 + 12)))
    else
    (if ((((s10.2.1 : Nat) : Int) : Int) != (wrapA .i64 (((x0n : Nat) : Int) + 1))) = true then
    (some ((.tuple [(.slice none 0 false), (.bool false)]), r8.2.1, (r8.2.2 + 12)))
    else
    (F10_J1 (callP Try.prog keepT n) Y n x0a x0n x0c s10.1 s10.2.1 s10.2.2 r8.2.1 (r8.2.2 + 10))) := F10_eq' go1 n Y x0a x0n x0c x1 h nx

noncomputable def c11 : Code := (Try.f11.body).getD .skip

noncomputable def r11 : List ResultVar := Try.f11.results.toList

noncomputable def F11_J1' (W J : StepF (AV × AHeap × Nat) → StepF (AV × AHeap × Nat)) (call : YldF → CallF) (Y : YldF) (lf : Nat) (x1 : Int) (x7 : Option (Nat × Nat)) (h : AHeap) (nx : Nat) : Option (AV × AHeap × Nat) :=
  goK W J drawK (machOf Try.prog) call Y (keepT 11) lf c11 [1, 1, 1, 1] [] (retK (machOf Try.prog) ⟨c11, 117, r11, keepT 11⟩) ⟨117, mkL [(1, (.int .i64 x1)), (7, (.ptr x7))]⟩ h nx

noncomputable def F11_J1 (call : YldF → CallF) (Y : YldF) (lf : Nat) (x1 : Int) (x7 : Option (Nat × Nat)) (h : AHeap) (nx : Nat) : Option (AV × AHeap × Nat) := F11_J1' go1 go1 call Y lf x1 x7 h nx

noncomputable def F11_J2' (W J : StepF (AV × AHeap × Nat) → StepF (AV × AHeap × Nat)) (call : YldF → CallF) (Y : YldF) (lf : Nat) (x9a : Option (Nat × Nat)) (x9n : Nat) (x9c : Bool) (x10a : Option (Nat × Nat)) (x10n : Nat) (x10c : Bool) (h : AHeap) (nx : Nat) : Option (AV × AHeap × Nat) :=
  goK W J drawK (machOf Try.prog) call Y (keepT 11) lf c11 [1, 1, 1, 1, 1, 1, 1] [] (retK (machOf Try.prog) ⟨c11, 117, r11, keepT 11⟩) ⟨117, mkL [(9, (.slice x9a x9n x9c)), (10, (.slice x10a x10n x10c))]⟩ h nx

noncomputable def F11_J2 (call : YldF → CallF) (Y : YldF) (lf : Nat) (x9a : Option (Nat × Nat)) (x9n : Nat) (x9c : Bool) (x10a : Option (Nat × Nat)) (x10n : Nat) (x10c : Bool) (h : AHeap) (nx : Nat) : Option (AV × AHeap × Nat) := F11_J2' go1 go1 call Y lf x9a x9n x9c x10a x10n x10c h nx

noncomputable def F11_L3' (W J : StepF (AV × AHeap × Nat) → StepF (AV × AHeap × Nat)) (call : YldF → CallF) (Y : YldF) (lf : Nat) (n0 : Nat) (x9a : Option (Nat × Nat)) (x9n : Nat) (x9c : Bool) (x10a : Option (Nat × Nat)) (x10n : Nat) (x10c : Bool) (x12 : Int) (h : AHeap) (nx : Nat) : Option (AV × AHeap × Nat) :=
  goK W J drawK (machOf Try.prog) call Y (keepT 11) lf c11 [1, 1, 1, 1, 1, 1, 1, 0, 1, 0, 9] [n0] (retK (machOf Try.prog) ⟨c11, 117, r11, keepT 11⟩) ⟨117, mkL [(9, (.slice x9a x9n x9c)), (10, (.slice x10a x10n x10c)), (12, (.int .i64 x12))]⟩ h nx

noncomputable def F11_L3 (call : YldF → CallF) (Y : YldF) (lf : Nat) (n0 : Nat) (x9a : Option (Nat × Nat)) (x9n : Nat) (x9c : Bool) (x10a : Option (Nat × Nat)) (x10n : Nat) (x10c : Bool) (x12 : Int) (h : AHeap) (nx : Nat) : Option (AV × AHeap × Nat) := F11_L3' go1 go1 call Y lf n0 x9a x9n x9c x10a x10n x10c x12 h nx

noncomputable def F11_L4' (W J : StepF (AV × AHeap × Nat) → StepF (AV × AHeap × Nat)) (call : YldF → CallF) (Y : YldF) (lf : Nat) (n0 : Nat) (n1 : Nat) (x9a : Option (Nat × Nat)) (x9n : Nat) (x9c : Bool) (x10a : Option (Nat × Nat)) (x10n : Nat) (x10c : Bool) (x12 : Int) (x14 : Option (Nat × Nat)) (x93 : List AV) (x94 : Int) (h : AHeap) (nx : Nat) : Option (AV × AHeap × Nat) :=
  goK W J drawK (machOf Try.prog) call Y (keepT 11) lf c11 [1, 1, 1, 1, 1, 1, 1, 0, 1, 0, 0, 1, 0, 0, 1, 1, 1, 0, 1, 0, 9] [n0, n1] (retK (machOf Try.prog) ⟨c11, 117, r11, keepT 11⟩) ⟨117, mkL [(9, (.slice x9a x9n x9c)), (10, (.slice x10a x10n x10c)), (12, (.int .i64 x12)), (14, (.ptr x14)), (93, (.agg x93)), (94, (.int .i64 x94))]⟩ h nx

noncomputable def F11_L4 (call : YldF → CallF) (Y : YldF) (lf : Nat) (n0 : Nat) (n1 : Nat) (x9a : Option (Nat × Nat)) (x9n : Nat) (x9c : Bool) (x10a : Option (Nat × Nat)) (x10n : Nat) (x10c : Bool) (x12 : Int) (x14 : Option (Nat × Nat)) (x93 : List AV) (x94 : Int) (h : AHeap) (nx : Nat) : Option (AV × AHeap × Nat) := F11_L4' go1 go1 call Y lf n0 n1 x9a x9n x9c x10a x10n x10c x12 x14 x93 x94 h nx

noncomputable def F11_J5' (W J : StepF (AV × AHeap × Nat) → StepF (AV × AHeap × Nat)) (call : YldF → CallF) (Y : YldF) (lf : Nat) (n0 : Nat) (n1 : Nat) (x9a : Option (Nat × Nat)) (x9n : Nat) (x9c : Bool) (x10a : Option (Nat × Nat)) (x10n : Nat) (x10c : Bool) (x12 : Int) (x14 : Option (Nat × Nat)) (x17 : Int) (x93 : List AV) (x94 : Int) (h : AHeap) (nx : Nat) : Option (AV × AHeap × Nat) :=
  goK W J drawK (machOf Try.prog) call Y (keepT 11) lf c11 [1, 1, 1, 1, 1, 1, 1, 0, 1, 0, 0, 1, 0, 0, 1, 1, 1, 0, 1, 0, 0, 1, 1, 0, 0, 1, 1, 1] [n0, n1] (retK (machOf Try.prog) ⟨c11, 117, r11, keepT 11⟩) ⟨117, mkL [(9, (.slice x9a x9n x9c)), (10, (.slice x10a x10n x10c)), (12, (.int .i64 x12)), (14, (.ptr x14)), (17, (.int .i64 x17)), (93, (.agg x93)), (94, (.int .i64 x94))]⟩ h nx

noncomputable def F11_J5 (call : YldF → CallF) (Y : YldF) (lf : Nat) (n0 : Nat) (n1 : Nat) (x9a : Option (Nat × Nat)) (x9n : Nat) (x9c : Bool) (x10a : Option (Nat × Nat)) (x10n : Nat) (x10c : Bool) (x12 : Int) (x14 : Option (Nat × Nat)) (x17 : Int) (x93 : List AV) (x94 : Int) (h : AHeap) (nx : Nat) : Option (AV × AHeap × Nat) := F11_J5' go1 go1 call Y lf n0 n1 x9a x9n x9c x10a x10n x10c x12 x14 x17 x93 x94 h nx

theorem F11_J1_eq' (J : StepF (AV × AHeap × Nat) → StepF (AV × AHeap × Nat)) (call : YldF → CallF) (Y : YldF) (lf : Nat) (x1 : Int) (x7 : Option (Nat × Nat)) (h : AHeap) (nx : Nat) : F11_J1' go1 J call Y lf x1 x7 h nx =
    (x7).bind fun p1 =>
    (ldA h p1.1 p1.2).bind fun v2 =>
    (asSl v2).bind fun s3 =>
    (s3.1).bind fun p4 =>
    if 0 ≤ (x1 : Int) ∧ x1 < ((s3.2.1 : Nat) : Int) then
    ((ldA h p4.1 (p4.2 + Int.toNat x1 * 2)).bind fun v5 =>
    (asP v5).bind fun p6 =>
    if (!(Option.isNone p6)) = true then
    (let h7 := AHeap.put h (nx + 15) (some ⟨[(.ptr p6)], 1, true⟩)
    (srcS h7 (some ((nx + 15), 0)) 1 1).bind fun q8 =>
    (appD h7 none 0 false 1 8 (nx + 16) q8).bind fun e9 =>
    let h10 := AHeap.puts h7 e9.sets
    F11_J2' J J call Y lf none 0 false e9.a e9.n e9.c h10 (nx + 18))
    else
    (F11_J2' J J call Y lf none 0 false none 0 false h (nx + 13)))
    else none := by kernel_rfl

theorem F11_J1_eq (call : YldF → CallF) (Y : YldF) (lf : Nat) (x1 : Int) (x7 : Option (Nat × Nat)) (h : AHeap) (nx : Nat) : F11_J1 call Y lf x1 x7 h nx =
    (x7).bind fun p1 =>
    (ldA h p1.1 p1.2).bind fun v2 =>
    (asSl v2).bind fun s3 =>
    (s3.1).bind fun p4 =>
    if 0 ≤ (x1 : Int) ∧ x1 < ((s3.2.1 : Nat) : Int) then
    ((ldA h p4.1 (p4.2 + Int.toNat x1 * 2)).bind fun v5 =>
    (asP v5).bind fun p6 =>
    if (!(Option.isNone p6)) = true then
    (let h7 := AHeap.put h (nx + 15) (some ⟨[(.ptr p6)], 1, true⟩)
    (srcS h7 (some ((nx + 15), 0)) 1 1).bind fun q8 =>
    (appD h7 none 0 false 1 8 (nx + 16) q8).bind fun e9 =>
    let h10 := AHeap.puts h7 e9.sets
    F11_J2 call Y lf none 0 false e9.a e9.n e9.c h10 (nx + 18))
    else
    (F11_J2 call Y lf none 0 false none 0 false h (nx + 13)))
    else none := F11_J1_eq' go1 call Y lf x1 x7 h nx

theorem F11_J2_eq' (J : StepF (AV × AHeap × Nat) → StepF (AV × AHeap × Nat)) (call : YldF → CallF) (Y : YldF) (lf : Nat) (x9a : Option (Nat × Nat)) (x9n : Nat) (x9c : Bool) (x10a : Option (Nat × Nat)) (x10n : Nat) (x10c : Bool) (h : AHeap) (nx : Nat) : F11_J2' go1 J call Y lf x9a x9n x9c x10a x10n x10c h nx =
    F11_L3' J J call Y lf lf x9a x9n x9c x10a x10n x10c 0 h (nx + 1) := by kernel_rfl

theorem F11_J2_eq (call : YldF → CallF) (Y : YldF) (lf : Nat) (x9a : Option (Nat × Nat)) (x9n : Nat) (x9c : Bool) (x10a : Option (Nat × Nat)) (x10n : Nat) (x10c : Bool) (h : AHeap) (nx : Nat) : F11_J2 call Y lf x9a x9n x9c x10a x10n x10c h nx =
    F11_L3 call Y lf lf x9a x9n x9c x10a x10n x10c 0 h (nx + 1) := F11_J2_eq' go1 call Y lf x9a x9n x9c x10a x10n x10c h nx

theorem F11_L3_eq' (J : StepF (AV × AHeap × Nat) → StepF (AV × AHeap × Nat)) (call : YldF → CallF) (Y : YldF) (lf : Nat) (n0 : Nat) (x9a : Option (Nat × Nat)) (x9n : Nat) (x9c : Bool) (x10a : Option (Nat × Nat)) (x10n : Nat) (x10c : Bool) (x12 : Int) (h : AHeap) (nx : Nat) : F11_L3' go1 J call Y lf (n0 + 1) x9a x9n x9c x10a x10n x10c x12 h nx =
    if (decide ((x12 : Int) < ((x10n : Nat) : Int))) = true then
    ((x10a).bind fun p1 =>
    if 0 ≤ (x12 : Int) ∧ x12 < ((x10n : Nat) : Int) then
    ((ldA h p1.1 (p1.2 + Int.toNat x12 * 1)).bind fun v2 =>
    (asP v2).bind fun p3 =>
    (p3).bind fun p4 =>
    (ldA h p4.1 p4.2).bind fun v5 =>
    (asI .i64 v5).bind fun n6 =>
    (p3).bind fun p7 =>
    (ldA h p7.1 (p7.2 + 1)).bind fun v8 =>
    (asI .i64 v8).bind fun n9 =>
    (p3).bind fun p10 =>
    (ldA h p10.1 (p10.2 + 2)).bind fun v11 =>
    (asI .i64 v11).bind fun n12 =>
    let h13 := AHeap.put h (nx + 22) (some ⟨[(.int .i64 0), (.int .i64 0), (.int .i64 0), (.slice none 0 false), (.slice none 0 false)], 5, true⟩)
    (stA h13 (nx + 22) 0 (.agg [(.int .i64 n6), (.int .i64 n9), (.int .i64 n12), (.slice none 0 false), (.slice none 0 false)]) 5).bind fun b14 =>
    let h15 := AHeap.put h13 (nx + 22) (some b14)
    ifApart [([(nx + 22)], [p4.1]), ([(nx + 22)], [p7.1]), ([(nx + 22)], [p10.1])]
    ((p3).bind fun p16 =>
    (ldA h15 p16.1 (p16.2 + 2)).bind fun v17 =>
    (asI .i64 v17).bind fun n18 =>
    if ((n18 : Int) == 0) = true then
    ((p3).bind fun p19 =>
    (cutR h15 (some (p19.1, (p19.2 + 7))) 64 1 none none none).bind fun s20 =>
    (call Y 18 [(.slice s20.1 s20.2.1 s20.2.2)] h15 (nx + 36)).bind fun r21 =>
    (asSl r21.1).bind fun s22 =>
    (stA r21.2.1 (nx + 22) 4 (.slice s22.1 s22.2.1 s22.2.2) 1).bind fun b23 =>
    let h24 := AHeap.put r21.2.1 (nx + 22) (some b23)
    (ldR h24 (nx + 22) 0 5).bind fun l25 =>
    (asAgg 5 (AV.agg l25)).bind fun d26 =>
    (asI .i64 (d26.getD 0 .bad)).bind fun n27 =>
    (asI .i64 (d26.getD 1 .bad)).bind fun n28 =>
    (asI .i64 (d26.getD 2 .bad)).bind fun n29 =>
    (asSl (d26.getD 3 .bad)).bind fun s30 =>
    (asSl (d26.getD 4 .bad)).bind fun s31 =>
    let h32 := AHeap.put h24 (r21.2.2 + 2) (some ⟨[(.int .i64 n27), (.int .i64 n28), (.int .i64 n29), (.slice s30.1 s30.2.1 s30.2.2), (.slice s31.1 s31.2.1 s31.2.2)], 5, true⟩)
    (srcS h32 (some ((r21.2.2 + 2), 0)) 1 5).bind fun q33 =>
    (appD h32 x9a x9n x9c 5 72 (r21.2.2 + 3) q33).bind fun e34 =>
    let h35 := AHeap.puts h32 e34.sets
    F11_L3' J J call Y lf n0 e34.a e34.n e34.c x10a x10n x10c (wrapA .i64 (x12 + 1)) h35 (r21.2.2 + 8))
    else
    ((p3).bind fun p36 =>
    (ldR h15 p36.1 (p36.2 + 3) 4).bind fun l37 =>
    F11_L4' J J call Y lf n0 lf x9a x9n x9c x10a x10n x10c x12 (some ((nx + 22), 0)) l37 0 h15 (nx + 34))))
    else none)
    else
    (some ((.tuple [(.slice x9a x9n x9c), (.int .i64 0)]), h, (nx + 7))) := by kernel_rfl

theorem F11_L3_eq (call : YldF → CallF) (Y : YldF) (lf : Nat) (n0 : Nat) (x9a : Option (Nat × Nat)) (x9n : Nat) (x9c : Bool) (x10a : Option (Nat × Nat)) (x10n : Nat) (x10c : Bool) (x12 : Int) (h : AHeap) (nx : Nat) : F11_L3 call Y lf (n0 + 1) x9a x9n x9c x10a x10n x10c x12 h nx =
    if (decide ((x12 : Int) < ((x10n : Nat) : Int))) = true then
    ((x10a).bind fun p1 =>
    if 0 ≤ (x12 : Int) ∧ x12 < ((x10n : Nat) : Int) then
    ((ldA h p1.1 (p1.2 + Int.toNat x12 * 1)).bind fun v2 =>
    (asP v2).bind fun p3 =>
    (p3).bind fun p4 =>
    (ldA h p4.1 p4.2).bind fun v5 =>
    (asI .i64 v5).bind fun n6 =>
    (p3).bind fun p7 =>
    (ldA h p7.1 (p7.2 + 1)).bind fun v8 =>
    (asI .i64 v8).bind fun n9 =>
    (p3).bind fun p10 =>
    (ldA h p10.1 (p10.2 + 2)).bind fun v11 =>
    (asI .i64 v11).bind fun n12 =>
    let h13 := AHeap.put h (nx + 22) (some ⟨[(.int .i64 0), (.int .i64 0), (.int .i64 0), (.slice none 0 false), (.slice none 0 false)], 5, true⟩)
    (stA h13 (nx + 22) 0 (.agg [(.int .i64 n6), (.int .i64 n9), (.int .i64 n12), (.slice none 0 false), (.slice none 0 false)]) 5).bind fun b14 =>
    let h15 := AHeap.put h13 (nx + 22) (some b14)
    ifApart [([(nx + 22)], [p4.1]), ([(nx + 22)], [p7.1]), ([(nx + 22)], [p10.1])]
    ((p3).bind fun p16 =>
    (ldA h15 p16.1 (p16.2 + 2)).bind fun v17 =>
    (asI .i64 v17).bind fun n18 =>
    if ((n18 : Int) == 0) = true then
    ((p3).bind fun p19 =>
    (cutR h15 (some (p19.1, (p19.2 + 7))) 64 1 none none none).bind fun s20 =>
    (call Y 18 [(.slice s20.1 s20.2.1 s20.2.2)] h15 (nx + 36)).bind fun r21 =>
    (asSl r21.1).bind fun s22 =>
    (stA r21.2.1 (nx + 22) 4 (.slice s22.1 s22.2.1 s22.2.2) 1).bind fun b23 =>
    let h24 := AHeap.put r21.2.1 (nx + 22) (some b23)
    (ldR h24 (nx + 22) 0 5).bind fun l25 =>
    (asAgg 5 (AV.agg l25)).bind fun d26 =>
    (asI .i64 (d26.getD 0 .bad)).bind fun n27 =>
    (asI .i64 (d26.getD 1 .bad)).bind fun n28 =>
    (asI .i64 (d26.getD 2 .bad)).bind fun n29 =>
    (asSl (d26.getD 3 .bad)).bind fun s30 =>
    (asSl (d26.getD 4 .bad)).bind fun s31 =>
    let h32 := AHeap.put h24 (r21.2.2 + 2) (some ⟨[(.int .i64 n27), (.int .i64 n28), (.int .i64 n29), (.slice s30.1 s30.2.1 s30.2.2), (.slice s31.1 s31.2.1 s31.2.2)], 5, true⟩)
    (srcS h32 (some ((r21.2.2 + 2), 0)) 1 5).bind fun q33 =>
    (appD h32 x9a x9n x9c 5 72 (r21.2.2 + 3) q33).bind fun e34 =>
    let h35 := AHeap.puts h32 e34.sets
    F11_L3 call Y lf n0 e34.a e34.n e34.c x10a x10n x10c (wrapA .i64 (x12 + 1)) h35 (r21.2.2 + 8))
    else
    ((p3).bind fun p36 =>
    (ldR h15 p36.1 (p36.2 + 3) 4).bind fun l37 =>
    F11_L4 call Y lf n0 lf x9a x9n x9c x10a x10n x10c x12 (some ((nx + 22), 0)) l37 0 h15 (nx + 34))))
    else none)
    else
    (some ((.tuple [(.slice x9a x9n x9c), (.int .i64 0)]), h, (nx + 7))) := F11_L3_eq' go1 call Y lf n0 x9a x9n x9c x10a x10n x10c x12 h nx

theorem F11_L3_zero (call : YldF → CallF) (Y : YldF) (lf : Nat) (x9a : Option (Nat × Nat)) (x9n : Nat) (x9c : Bool) (x10a : Option (Nat × Nat)) (x10n : Nat) (x10c : Bool) (x12 : Int) (h : AHeap) (nx : Nat) : F11_L3 call Y lf 0 x9a x9n x9c x10a x10n x10c x12 h nx = none := by kernel_rfl

theorem F11_L4_eq' (J : StepF (AV × AHeap × Nat) → StepF (AV × AHeap × Nat)) (call : YldF → CallF) (Y : YldF) (lf : Nat) (n0 : Nat) (n1 : Nat) (x9a : Option (Nat × Nat)) (x9n : Nat) (x9c : Bool) (x10a : Option (Nat × Nat)) (x10n : Nat) (x10c : Bool) (x12 : Int) (x14 : Option (Nat × Nat)) (x93 : List AV) (x94 : Int) (h : AHeap) (nx : Nat) : F11_L4' go1 J call Y lf n0 (n1 + 1) x9a x9n x9c x10a x10n x10c x12 x14 x93 x94 h nx =
    if (decide ((x94 : Int) < 4)) = true then
    (if 0 ≤ (x94 : Int) ∧ x94 < ((4 : Nat) : Int) then
    ((x93[(Int.toNat x94 * 1)]?).bind fun c1 =>
    (asP c1).bind fun p2 =>
    if (!(Option.isNone p2)) = true then
    (let h3 := AHeap.put h (nx + 11) (some ⟨[(.ptr p2)], 1, true⟩)
    (srcS h3 (some ((nx + 11), 0)) 1 1).bind fun q4 =>
    (appD h3 x10a x10n x10c 1 8 (nx + 12) q4).bind fun e5 =>
    let h6 := AHeap.puts h3 e5.sets
    F11_J5' J J call Y lf n0 n1 x9a x9n x9c e5.a e5.n e5.c x12 x14 ((x10n : Nat) : Int) x93 x94 h6 (nx + 14))
    else
    (F11_J5' J J call Y lf n0 n1 x9a x9n x9c x10a x10n x10c x12 x14 (-1) x93 x94 h (nx + 6)))
    else none)
    else
    ((x14).bind fun p7 =>
    (ldR h p7.1 p7.2 5).bind fun l8 =>
    (asAgg 5 (AV.agg l8)).bind fun d9 =>
    (asI .i64 (d9.getD 0 .bad)).bind fun n10 =>
    (asI .i64 (d9.getD 1 .bad)).bind fun n11 =>
    (asI .i64 (d9.getD 2 .bad)).bind fun n12 =>
    (asSl (d9.getD 3 .bad)).bind fun s13 =>
    (asSl (d9.getD 4 .bad)).bind fun s14 =>
    let h15 := AHeap.put h (nx + 3) (some ⟨[(.int .i64 n10), (.int .i64 n11), (.int .i64 n12), (.slice s13.1 s13.2.1 s13.2.2), (.slice s14.1 s14.2.1 s14.2.2)], 5, true⟩)
    (srcS h15 (some ((nx + 3), 0)) 1 5).bind fun q16 =>
    (appD h15 x9a x9n x9c 5 72 (nx + 4) q16).bind fun e17 =>
    let h18 := AHeap.puts h15 e17.sets
    F11_L3' J J call Y lf n0 e17.a e17.n e17.c x10a x10n x10c (wrapA .i64 (x12 + 1)) h18 (nx + 9)) := by kernel_rfl

theorem F11_L4_eq (call : YldF → CallF) (Y : YldF) (lf : Nat) (n0 : Nat) (n1 : Nat) (x9a : Option (Nat × Nat)) (x9n : Nat) (x9c : Bool) (x10a : Option (Nat × Nat)) (x10n : Nat) (x10c : Bool) (x12 : Int) (x14 : Option (Nat × Nat)) (x93 : List AV) (x94 : Int) (h : AHeap) (nx : Nat) : F11_L4 call Y lf n0 (n1 + 1) x9a x9n x9c x10a x10n x10c x12 x14 x93 x94 h nx =
    if (decide ((x94 : Int) < 4)) = true then
    (if 0 ≤ (x94 : Int) ∧ x94 < ((4 : Nat) : Int) then
    ((x93[(Int.toNat x94 * 1)]?).bind fun c1 =>
    (asP c1).bind fun p2 =>
    if (!(Option.isNone p2)) = true then
    (let h3 := AHeap.put h (nx + 11) (some ⟨[(.ptr p2)], 1, true⟩)
    (srcS h3 (some ((nx + 11), 0)) 1 1).bind fun q4 =>
    (appD h3 x10a x10n x10c 1 8 (nx + 12) q4).bind fun e5 =>
    let h6 := AHeap.puts h3 e5.sets
    F11_J5 call Y lf n0 n1 x9a x9n x9c e5.a e5.n e5.c x12 x14 ((x10n : Nat) : Int) x93 x94 h6 (nx + 14))
    else
    (F11_J5 call Y lf n0 n1 x9a x9n x9c x10a x10n x10c x12 x14 (-1) x93 x94 h (nx + 6)))
    else none)
    else
    ((x14).bind fun p7 =>
    (ldR h p7.1 p7.2 5).bind fun l8 =>
    (asAgg 5 (AV.agg l8)).bind fun d9 =>
    (asI .i64 (d9.getD 0 .bad)).bind fun n10 =>
    (asI .i64 (d9.getD 1 .bad)).bind fun n11 =>
    (asI .i64 (d9.getD 2 .bad)).bind fun n12 =>
    (asSl (d9.getD 3 .bad)).bind fun s13 =>
    (asSl (d9.getD 4 .bad)).bind fun s14 =>
    let h15 := AHeap.put h (nx + 3) (some ⟨[(.int .i64 n10), (.int .i64 n11), (.int .i64 n12), (.slice s13.1 s13.2.1 s13.2.2), (.slice s14.1 s14.2.1 s14.2.2)], 5, true⟩)
    (srcS h15 (some ((nx + 3), 0)) 1 5).bind fun q16 =>
    (appD h15 x9a x9n x9c 5 72 (nx + 4) q16).bind fun e17 =>
    let h18 := AHeap.puts h15 e17.sets
    F11_L3 call Y lf n0 e17.a e17.n e17.c x10a x10n x10c (wrapA .i64 (x12 + 1)) h18 (nx + 9)) := F11_L4_eq' go1 call Y lf n0 n1 x9a x9n x9c x10a x10n x10c x12 x14 x93 x94 h nx

theorem F11_L4_zero (call : YldF → CallF) (Y : YldF) (lf : Nat) (n0 : Nat) (x9a : Option (Nat × Nat)) (x9n : Nat) (x9c : Bool) (x10a : Option (Nat × Nat)) (x10n : Nat) (x10c : Bool) (x12 : Int) (x14 : Option (Nat × Nat)) (x93 : List AV) (x94 : Int) (h : AHeap) (nx : Nat) : F11_L4 call Y lf n0 0 x9a x9n x9c x10a x10n x10c x12 x14 x93 x94 h nx = none := by kernel_rfl

theorem F11_J5_eq' (J : StepF (AV × AHeap × Nat) → StepF (AV × AHeap × Nat)) (call : YldF → CallF) (Y : YldF) (lf : Nat) (n0 : Nat) (n1 : Nat) (x9a : Option (Nat × Nat)) (x9n : Nat) (x9c : Bool) (x10a : Option (Nat × Nat)) (x10n : Nat) (x10c : Bool) (x12 : Int) (x14 : Option (Nat × Nat)) (x17 : Int) (x93 : List AV) (x94 : Int) (h : AHeap) (nx : Nat) : F11_J5' go1 J call Y lf n0 n1 x9a x9n x9c x10a x10n x10c x12 x14 x17 x93 x94 h nx =
    (x14).bind fun p1 =>
    (ldA h p1.1 (p1.2 + 3)).bind fun v2 =>
    (asSl v2).bind fun s3 =>
    let h4 := AHeap.put h (nx + 3) (some ⟨[(.int .i64 x17)], 1, true⟩)
    (srcS h4 (some ((nx + 3), 0)) 1 1).bind fun q5 =>
    (appD h4 s3.1 s3.2.1 s3.2.2 1 8 (nx + 4) q5).bind fun e6 =>
    let h7 := AHeap.puts h4 e6.sets
    (x14).bind fun p8 =>
    (stA h7 p8.1 (p8.2 + 3) (.slice e6.a e6.n e6.c) 1).bind fun b9 =>
    let h10 := AHeap.put h7 p8.1 (some b9)
    F11_L4' J J call Y lf n0 n1 x9a x9n x9c x10a x10n x10c x12 x14 x93 (wrapA .i64 (x94 + 1)) h10 (nx + 9) := by kernel_rfl

theorem F11_J5_eq (call : YldF → CallF) (Y : YldF) (lf : Nat) (n0 : Nat) (n1 : Nat) (x9a : Option (Nat × Nat)) (x9n : Nat) (x9c : Bool) (x10a : Option (Nat × Nat)) (x10n : Nat) (x10c : Bool) (x12 : Int) (x14 : Option (Nat × Nat)) (x17 : Int) (x93 : List AV) (x94 : Int) (h : AHeap) (nx : Nat) : F11_J5 call Y lf n0 n1 x9a x9n x9c x10a x10n x10c x12 x14 x17 x93 x94 h nx =
    (x14).bind fun p1 =>
    (ldA h p1.1 (p1.2 + 3)).bind fun v2 =>
    (asSl v2).bind fun s3 =>
    let h4 := AHeap.put h (nx + 3) (some ⟨[(.int .i64 x17)], 1, true⟩)
    (srcS h4 (some ((nx + 3), 0)) 1 1).bind fun q5 =>
    (appD h4 s3.1 s3.2.1 s3.2.2 1 8 (nx + 4) q5).bind fun e6 =>
    let h7 := AHeap.puts h4 e6.sets
    (x14).bind fun p8 =>
    (stA h7 p8.1 (p8.2 + 3) (.slice e6.a e6.n e6.c) 1).bind fun b9 =>
    let h10 := AHeap.put h7 p8.1 (some b9)
    F11_L4 call Y lf n0 n1 x9a x9n x9c x10a x10n x10c x12 x14 x93 (wrapA .i64 (x94 + 1)) h10 (nx + 9) := F11_J5_eq' go1 call Y lf n0 n1 x9a x9n x9c x10a x10n x10c x12 x14 x17 x93 x94 h nx

theorem F11_eq' (J : StepF (AV × AHeap × Nat) → StepF (AV × AHeap × Nat)) (n : Nat) (Y : YldF) (x0a : Option (Nat × Nat)) (x0n : Nat) (x0c : Bool) (x1 : Int) (h : AHeap) (nx : Nat) : rootJ J Try.prog keepT (callP Try.prog keepT n) Y n 11 [(.slice x0a x0n x0c), (.int .i64 x1)] h nx =
    ((callP Try.prog keepT n) Y 17 [(.slice x0a x0n x0c)] h (nx + 11)).bind fun r1 =>
    (asTup 3 r1.1).bind fun d2 =>
    (asSl (d2.getD 0 .bad)).bind fun s3 =>
    (asP (d2.getD 1 .bad)).bind fun p4 =>
    (asI .i64 (d2.getD 2 .bad)).bind fun n5 =>
    if ((n5 : Int) != 0) = true then
    (some ((.tuple [(.slice none 0 false), (.int .i64 n5)]), r1.2.1, (r1.2.2 + 5)))
    else
    (if (decide ((x1 : Int) < 0)) = true then
    (some ((.tuple [(.slice none 0 false), (.int .i64 2)]), r1.2.1, (r1.2.2 + 15)))
    else
    ((p4).bind fun p6 =>
    (ldA r1.2.1 p6.1 p6.2).bind fun v7 =>
    (asSl v7).bind fun s8 =>
    if (decide ((x1 : Int) ≥ ((s8.2.1 : Nat) : Int))) = true then
    (some ((.tuple [(.slice none 0 false), (.int .i64 2)]), r1.2.1, (r1.2.2 + 15)))
    else
    (F11_J1' J J (callP Try.prog keepT n) Y n x1 p4 r1.2.1 (r1.2.2 + 13)))) := by kernel_rfl

/-- quickset/tree.Nodes -/
theorem F11_eq (n : Nat) (Y : YldF) (x0a : Option (Nat × Nat)) (x0n : Nat) (x0c : Bool) (x1 : Int) (h : AHeap) (nx : Nat) : callP Try.prog keepT (n + 1) Y 11 [(.slice x0a x0n x0c), (.int .i64 x1)] h nx =
    ((callP Try.prog keepT n) Y 17 [(.slice x0a x0n x0c)] h (nx + 11)).bind fun r1 =>
    (asTup 3 r1.1).bind fun d2 =>
    (asSl (d2.getD 0 .bad)).bind fun s3 =>
    (asP (d2.getD 1 .bad)).bind fun p4 =>
    (asI .i64 (d2.getD 2 .bad)).bind fun n5 =>
    if ((n5 : Int) != 0) = true then
    (some ((.tuple [(.slice none 0 false), (.int .i64 n5)]), r1.2.1, (r1.2.2 + 5)))
    else
    (if (decide ((x1 : Int) < 0)) = true then
    (some ((.tuple [(.slice none 0 false), (.int .i64 2)]), r1.2.1, (r1.2.2 + 15)))
    else
    ((p4).bind fun p6 =>
    (ldA r1.2.1 p6.1 p6.2).bind fun v7 =>
    (asSl v7).bind fun s8 =>
    if (decide ((x1 : Int) ≥ ((s8.2.1 : Nat) : Int))) = true then
    (some ((.tuple [(.slice none 0 false), (.int .i64 2)]), r1.2.1, (r1.2.2 + 15)))
    else
    (F11_J1 (callP Try.prog keepT n) Y n x1 p4 r1.2.1 (r1.2.2 + 13)))) := F11_eq' go1 n Y x0a x0n x0c x1 h nx

noncomputable def c12 : Code := (Try.f12.body).getD .skip

noncomputable def r12 : List ResultVar := Try.f12.results.toList

noncomputable def F12_J1' (W J : StepF (AV × AHeap × Nat) → StepF (AV × AHeap × Nat)) (call : YldF → CallF) (Y : YldF) (lf : Nat) (x0a : Option (Nat × Nat)) (x0n : Nat) (x0c : Bool) (h : AHeap) (nx : Nat) : Option (AV × AHeap × Nat) :=
  goK W J drawK (machOf Try.prog) call Y (keepT 12) lf c12 [1, 1, 1] [] (retK (machOf Try.prog) ⟨c12, 48, r12, keepT 12⟩) ⟨48, mkL [(0, (.slice x0a x0n x0c))]⟩ h nx

noncomputable def F12_J1 (call : YldF → CallF) (Y : YldF) (lf : Nat) (x0a : Option (Nat × Nat)) (x0n : Nat) (x0c : Bool) (h : AHeap) (nx : Nat) : Option (AV × AHeap × Nat) := F12_J1' go1 go1 call Y lf x0a x0n x0c h nx

noncomputable def F12_L2' (W J : StepF (AV × AHeap × Nat) → StepF (AV × AHeap × Nat)) (call : YldF → CallF) (Y : YldF) (lf : Nat) (n0 : Nat) (x4a : Option (Nat × Nat)) (x4n : Nat) (x4c : Bool) (x5a : Option (Nat × Nat)) (x5n : Nat) (x5c : Bool) (x6 : Int) (h : AHeap) (nx : Nat) : Option (AV × AHeap × Nat) :=
  goK W J drawK (machOf Try.prog) call Y (keepT 12) lf c12 [1, 1, 1, 1, 1, 1, 0, 1, 0, 9] [n0] (retK (machOf Try.prog) ⟨c12, 48, r12, keepT 12⟩) ⟨48, mkL [(4, (.slice x4a x4n x4c)), (5, (.slice x5a x5n x5c)), (6, (.int .i64 x6))]⟩ h nx

noncomputable def F12_L2 (call : YldF → CallF) (Y : YldF) (lf : Nat) (n0 : Nat) (x4a : Option (Nat × Nat)) (x4n : Nat) (x4c : Bool) (x5a : Option (Nat × Nat)) (x5n : Nat) (x5c : Bool) (x6 : Int) (h : AHeap) (nx : Nat) : Option (AV × AHeap × Nat) := F12_L2' go1 go1 call Y lf n0 x4a x4n x4c x5a x5n x5c x6 h nx

theorem F12_J1_eq' (J : StepF (AV × AHeap × Nat) → StepF (AV × AHeap × Nat)) (call : YldF → CallF) (Y : YldF) (lf : Nat) (x0a : Option (Nat × Nat)) (x0n : Nat) (x0c : Bool) (h : AHeap) (nx : Nat) : F12_J1' go1 J call Y lf x0a x0n x0c h nx =
    (x0a).bind fun p1 =>
    if 0 ≤ (0 : Int) ∧ 0 < ((x0n : Nat) : Int) then
    ((ldA h p1.1 ((p1.2 + Int.toNat 0 * 5) + 2)).bind fun v2 =>
    (asI .i64 v2).bind fun n3 =>
    (call Y 14 [(.int .i64 n3)] h (nx + 7)).bind fun r4 =>
    (asI .i64 r4.1).bind fun n5 =>
    if (decide (0 ≤ (n5 : Int)) && decide ((n5 : Int) ≤ n5) && decide (((1 : Nat) : Int) * n5 ≤ 281474976710656) && decide ((n5 : Int) ≤ 9223372036854775807) && 1 != 0) = true then
    (let h6 := AHeap.put r4.2.1 (nx + 5) (some ⟨(madeA [(.int .u8 0)] (Int.toNat n5 * 1)), 1, true⟩)
    if (decide (0 ≤ (((x0n : Nat) : Int) : Int)) && decide ((((x0n : Nat) : Int) : Int) ≤ ((x0n : Nat) : Int)) && decide (((8 : Nat) : Int) * ((x0n : Nat) : Int) ≤ 281474976710656) && decide ((((x0n : Nat) : Int) : Int) ≤ 9223372036854775807) && 1 != 0) = true then
    (let h7 := AHeap.put h6 (r4.2.2 + 2) (some ⟨(madeA [(.int .i64 0)] (Int.toNat ((x0n : Nat) : Int) * 1)), 1, true⟩)
    (call Y 19 [(.slice x0a x0n x0c), (.int .i64 0), (.int .i64 0), (.slice (some ((nx + 5), 0)) (Int.toNat n5) (n5 == n5)), (.slice (some ((r4.2.2 + 2), 0)) (Int.toNat ((x0n : Nat) : Int)) (((x0n : Nat) : Int) == ((x0n : Nat) : Int)))] h7 (r4.2.2 + 9)).bind fun r8 =>
    (asB r8.1).bind fun t9 =>
    if (!t9) = true then
    (some ((.tuple [(.slice none 0 false), (.bool false)]), r8.2.1, (r8.2.2 + 2)))
    else
    (F12_L2' J J call Y lf lf (some ((nx + 5), 0)) (Int.toNat n5) (n5 == n5) (some ((r4.2.2 + 2), 0)) (Int.toNat ((x0n : Nat) : Int)) (((x0n : Nat) : Int) == ((x0n : Nat) : Int)) 1 r8.2.1 (r8.2.2 + 1)))
    else none)
    else none)
    else none := by kernel_rfl

theorem F12_J1_eq (call : YldF → CallF) (Y : YldF) (lf : Nat) (x0a : Option (Nat × Nat)) (x0n : Nat) (x0c : Bool) (h : AHeap) (nx : Nat) : F12_J1 call Y lf x0a x0n x0c h nx =
    (x0a).bind fun p1 =>
    if 0 ≤ (0 : Int) ∧ 0 < ((x0n : Nat) : Int) then
    ((ldA h p1.1 ((p1.2 + Int.toNat 0 * 5) + 2)).bind fun v2 =>
    (asI .i64 v2).bind fun n3 =>
    (call Y 14 [(.int .i64 n3)] h (nx + 7)).bind fun r4 =>
    (asI .i64 r4.1).bind fun n5 =>
    if (decide (0 ≤ (n5 : Int)) && decide ((n5 : Int) ≤ n5) && decide (((1 : Nat) : Int) * n5 ≤ 281474976710656) && decide ((n5 : Int) ≤ 9223372036854775807) && 1 != 0) = true then
    (let h6 := AHeap.put r4.2.1 (nx + 5) (some ⟨(madeA [(.int .u8 0)] (Int.toNat n5 * 1)), 1, true⟩)
    if (decide (0 ≤ (((x0n : Nat) : Int) : Int)) && decide ((((x0n : Nat) : Int) : Int) ≤ ((x0n : Nat) : Int)) && decide (((8 : Nat) : Int) * ((x0n : Nat) : Int) ≤ 281474976710656) && decide ((((x0n : Nat) : Int) : Int) ≤ 9223372036854775807) && 1 != 0) = true then
    (let h7 := AHeap.put h6 (r4.2.2 + 2) (some ⟨(madeA [(.int .i64 0)] (Int.toNat ((x0n : Nat) : Int) * 1)), 1, true⟩)
    (call Y 19 [(.slice x0a x0n x0c), (.int .i64 0), (.int .i64 0), (.slice (some ((nx + 5), 0)) (Int.toNat n5) (n5 == n5)), (.slice (some ((r4.2.2 + 2), 0)) (Int.toNat ((x0n : Nat) : Int)) (((x0n : Nat) : Int) == ((x0n : Nat) : Int)))] h7 (r4.2.2 + 9)).bind fun r8 =>
    (asB r8.1).bind fun t9 =>
    if (!t9) = true then
    (some ((.tuple [(.slice none 0 false), (.bool false)]), r8.2.1, (r8.2.2 + 2)))
    else
    (F12_L2 call Y lf lf (some ((nx + 5), 0)) (Int.toNat n5) (n5 == n5) (some ((r4.2.2 + 2), 0)) (Int.toNat ((x0n : Nat) : Int)) (((x0n : Nat) : Int) == ((x0n : Nat) : Int)) 1 r8.2.1 (r8.2.2 + 1)))
    else none)
    else none)
    else none := F12_J1_eq' go1 call Y lf x0a x0n x0c h nx

theorem F12_L2_eq' (J : StepF (AV × AHeap × Nat) → StepF (AV × AHeap × Nat)) (call : YldF → CallF) (Y : YldF) (lf : Nat) (n0 : Nat) (x4a : Option (Nat × Nat)) (x4n : Nat) (x4c : Bool) (x5a : Option (Nat × Nat)) (x5n : Nat) (x5c : Bool) (x6 : Int) (h : AHeap) (nx : Nat) : F12_L2' go1 J call Y lf (n0 + 1) x4a x4n x4c x5a x5n x5c x6 h nx =
    if (decide ((x6 : Int) < ((x5n : Nat) : Int))) = true then
    ((x5a).bind fun p1 =>
    if 0 ≤ (x6 : Int) ∧ x6 < ((x5n : Nat) : Int) then
    ((ldA h p1.1 (p1.2 + Int.toNat x6 * 1)).bind fun v2 =>
    (asI .i64 v2).bind fun n3 =>
    if ((n3 : Int) != 1) = true then
    (some ((.tuple [(.slice none 0 false), (.bool false)]), h, (nx + 11)))
    else
    (F12_L2' J J call Y lf n0 x4a x4n x4c x5a x5n x5c (wrapA .i64 (x6 + 1)) h (nx + 12)))
    else none)
    else
    (some ((.tuple [(.slice x4a x4n x4c), (.bool true)]), h, (nx + 7))) := by kernel_rfl

theorem F12_L2_eq (call : YldF → CallF) (Y : YldF) (lf : Nat) (n0 : Nat) (x4a : Option (Nat × Nat)) (x4n : Nat) (x4c : Bool) (x5a : Option (Nat × Nat)) (x5n : Nat) (x5c : Bool) (x6 : Int) (h : AHeap) (nx : Nat) : F12_L2 call Y lf (n0 + 1) x4a x4n x4c x5a x5n x5c x6 h nx =
    if (decide ((x6 : Int) < ((x5n : Nat) : Int))) = true then
    ((x5a).bind fun p1 =>
    if 0 ≤ (x6 : Int) ∧ x6 < ((x5n : Nat) : Int) then
    ((ldA h p1.1 (p1.2 + Int.toNat x6 * 1)).bind fun v2 =>
    (asI .i64 v2).bind fun n3 =>
    if ((n3 : Int) != 1) = true then
    (some ((.tuple [(.slice none 0 false), (.bool false)]), h, (nx + 11)))
    else
    (F12_L2 call Y lf n0 x4a x4n x4c x5a x5n x5c (wrapA .i64 (x6 + 1)) h (nx + 12)))
    else none)
    else
    (some ((.tuple [(.slice x4a x4n x4c), (.bool true)]), h, (nx + 7))) := F12_L2_eq' go1 call Y lf n0 x4a x4n x4c x5a x5n x5c x6 h nx

theorem F12_L2_zero (call : YldF → CallF) (Y : YldF) (lf : Nat) (x4a : Option (Nat × Nat)) (x4n : Nat) (x4c : Bool) (x5a : Option (Nat × Nat)) (x5n : Nat) (x5c : Bool) (x6 : Int) (h : AHeap) (nx : Nat) : F12_L2 call Y lf 0 x4a x4n x4c x5a x5n x5c x6 h nx = none := by kernel_rfl

theorem F12_eq' (J : StepF (AV × AHeap × Nat) → StepF (AV × AHeap × Nat)) (n : Nat) (Y : YldF) (x0a : Option (Nat × Nat)) (x0n : Nat) (x0c : Bool) (h : AHeap) (nx : Nat) : rootJ J Try.prog keepT (callP Try.prog keepT n) Y n 12 [(.slice x0a x0n x0c)] h nx =
    if ((((x0n : Nat) : Int) : Int) == 0) = true then
    (some ((.tuple [(.slice none 0 false), (.bool true)]), h, (nx + 7)))
    else
    ((x0a).bind fun p1 =>
    if 0 ≤ (0 : Int) ∧ 0 < ((x0n : Nat) : Int) then
    ((ldA h p1.1 ((p1.2 + Int.toNat 0 * 5) + 2)).bind fun v2 =>
    (asI .i64 v2).bind fun n3 =>
    if (decide ((n3 : Int) < 0)) = true then
    (some ((.tuple [(.slice none 0 false), (.bool false)]), h, (nx + 19)))
    else
    ((x0a).bind fun p4 =>
    if 0 ≤ (0 : Int) ∧ 0 < ((x0n : Nat) : Int) then
    ((ldA h p4.1 ((p4.2 + Int.toNat 0 * 5) + 2)).bind fun v5 =>
    (asI .i64 v5).bind fun n6 =>
    if (decide ((n6 : Int) > 6)) = true then
    (some ((.tuple [(.slice none 0 false), (.bool false)]), h, (nx + 19)))
    else
    (F12_J1' J J (callP Try.prog keepT n) Y n x0a x0n x0c h (nx + 17)))
    else none))
    else none) := by kernel_rfl

/-- quickset/quicksetkeep.whole -/
theorem F12_eq (n : Nat) (Y : YldF) (x0a : Option (Nat × Nat)) (x0n : Nat) (x0c : Bool) (h : AHeap) (nx : Nat) : callP Try.prog keepT (n + 1) Y 12 [(.slice x0a x0n x0c)] h nx =
    if ((((x0n : Nat) : Int) : Int) == 0) = true then
    (some ((.tuple [(.slice none 0 false), (.bool true)]), h, (nx + 7)))
    else
    ((x0a).bind fun p1 =>
    if 0 ≤ (0 : Int) ∧ 0 < ((x0n : Nat) : Int) then
    ((ldA h p1.1 ((p1.2 + Int.toNat 0 * 5) + 2)).bind fun v2 =>
    (asI .i64 v2).bind fun n3 =>
    if (decide ((n3 : Int) < 0)) = true then
    (some ((.tuple [(.slice none 0 false), (.bool false)]), h, (nx + 19)))
    else
    ((x0a).bind fun p4 =>
    if 0 ≤ (0 : Int) ∧ 0 < ((x0n : Nat) : Int) then
    ((ldA h p4.1 ((p4.2 + Int.toNat 0 * 5) + 2)).bind fun v5 =>
    (asI .i64 v5).bind fun n6 =>
    if (decide ((n6 : Int) > 6)) = true then
    (some ((.tuple [(.slice none 0 false), (.bool false)]), h, (nx + 19)))
    else
    (F12_J1 (callP Try.prog keepT n) Y n x0a x0n x0c h (nx + 17)))
    else none))
    else none) := F12_eq' go1 n Y x0a x0n x0c h nx

noncomputable def c13 : Code := (Try.f13.body).getD .skip

noncomputable def r13 : List ResultVar := Try.f13.results.toList

noncomputable def F13_L1' (W J : StepF (AV × AHeap × Nat) → StepF (AV × AHeap × Nat)) (call : YldF → CallF) (Y : YldF) (lf : Nat) (n0 : Nat) (x0a : Option (Nat × Nat)) (x0n : Nat) (x0c : Bool) (x2 : Int) (x7 : Option (Nat × Nat)) (x8a : Option (Nat × Nat)) (x8n : Nat) (x8c : Bool) (x9 : Int) (h : AHeap) (nx : Nat) : Option (AV × AHeap × Nat) :=
  goK W J drawK (machOf Try.prog) call Y (keepT 13) lf c13 [1, 1, 1, 0, 1, 0, 9] [n0] (retK (machOf Try.prog) ⟨c13, 56, r13, keepT 13⟩) ⟨56, mkL [(0, (.slice x0a x0n x0c)), (2, (.int .i64 x2)), (7, (.ptr x7)), (8, (.slice x8a x8n x8c)), (9, (.int .i64 x9))]⟩ h nx

noncomputable def F13_L1 (call : YldF → CallF) (Y : YldF) (lf : Nat) (n0 : Nat) (x0a : Option (Nat × Nat)) (x0n : Nat) (x0c : Bool) (x2 : Int) (x7 : Option (Nat × Nat)) (x8a : Option (Nat × Nat)) (x8n : Nat) (x8c : Bool) (x9 : Int) (h : AHeap) (nx : Nat) : Option (AV × AHeap × Nat) := F13_L1' go1 go1 call Y lf n0 x0a x0n x0c x2 x7 x8a x8n x8c x9 h nx

theorem F13_L1_eq' (J : StepF (AV × AHeap × Nat) → StepF (AV × AHeap × Nat)) (call : YldF → CallF) (Y : YldF) (lf : Nat) (n0 : Nat) (x0a : Option (Nat × Nat)) (x0n : Nat) (x0c : Bool) (x2 : Int) (x7 : Option (Nat × Nat)) (x8a : Option (Nat × Nat)) (x8n : Nat) (x8c : Bool) (x9 : Int) (h : AHeap) (nx : Nat) : F13_L1' go1 J call Y lf (n0 + 1) x0a x0n x0c x2 x7 x8a x8n x8c x9 h nx =
    (x7).bind fun p1 =>
    (ldA h p1.1 (p1.2 + 3)).bind fun v2 =>
    (asSl v2).bind fun s3 =>
    if (decide ((x9 : Int) < ((s3.2.1 : Nat) : Int))) = true then
    ((x7).bind fun p4 =>
    (ldA h p4.1 (p4.2 + 3)).bind fun v5 =>
    (asSl v5).bind fun s6 =>
    (s6.1).bind fun p7 =>
    if 0 ≤ (x9 : Int) ∧ x9 < ((s6.2.1 : Nat) : Int) then
    ((ldA h p7.1 (p7.2 + Int.toNat x9 * 1)).bind fun v8 =>
    (asI .i64 v8).bind fun n9 =>
    if (decide ((n9 : Int) ≥ 0)) = true then
    ((x7).bind fun p10 =>
    (ldA h p10.1 (p10.2 + 3)).bind fun v11 =>
    (asSl v11).bind fun s12 =>
    (s12.1).bind fun p13 =>
    if 0 ≤ (x9 : Int) ∧ x9 < ((s12.2.1 : Nat) : Int) then
    ((ldA h p13.1 (p13.2 + Int.toNat x9 * 1)).bind fun v14 =>
    (asI .i64 v14).bind fun n15 =>
    (x7).bind fun p16 =>
    (ldA h p16.1 (p16.2 + 2)).bind fun v17 =>
    (asI .i64 v17).bind fun n18 =>
    (call Y 14 [(.int .i64 (wrapA .i64 (n18 - 1)))] h (nx + 29)).bind fun r19 =>
    (asI .i64 r19.1).bind fun n20 =>
    (call Y 13 [(.slice x0a x0n x0c), (.int .i64 n15), (.int .i64 (wrapA .i64 (x2 + (wrapA .i64 (x9 * n20)))))] r19.2.1 r19.2.2).bind fun r21 =>
    (asSl r21.1).bind fun s22 =>
    (srcS r21.2.1 s22.1 s22.2.1 5).bind fun q23 =>
    (appD r21.2.1 x8a x8n x8c 5 56 (nx + 27) q23).bind fun e24 =>
    let h25 := AHeap.puts r21.2.1 e24.sets
    ifKept [(h, r19.2.1, [p10.1]), (h, r19.2.1, [p13.1])]
    (F13_L1' J J call Y lf n0 x0a x0n x0c x2 x7 e24.a e24.n e24.c (wrapA .i64 (x9 + 1)) h25 (r21.2.2 + 3)))
    else none)
    else
    (F13_L1' J J call Y lf n0 x0a x0n x0c x2 x7 x8a x8n x8c (wrapA .i64 (x9 + 1)) h (nx + 14)))
    else none)
    else
    (some ((.slice x8a x8n x8c), h, (nx + 7))) := by kernel_rfl

theorem F13_L1_eq (call : YldF → CallF) (Y : YldF) (lf : Nat) (n0 : Nat) (x0a : Option (Nat × Nat)) (x0n : Nat) (x0c : Bool) (x2 : Int) (x7 : Option (Nat × Nat)) (x8a : Option (Nat × Nat)) (x8n : Nat) (x8c : Bool) (x9 : Int) (h : AHeap) (nx : Nat) : F13_L1 call Y lf (n0 + 1) x0a x0n x0c x2 x7 x8a x8n x8c x9 h nx =
    (x7).bind fun p1 =>
    (ldA h p1.1 (p1.2 + 3)).bind fun v2 =>
    (asSl v2).bind fun s3 =>
    if (decide ((x9 : Int) < ((s3.2.1 : Nat) : Int))) = true then
    ((x7).bind fun p4 =>
    (ldA h p4.1 (p4.2 + 3)).bind fun v5 =>
    (asSl v5).bind fun s6 =>
    (s6.1).bind fun p7 =>
    if 0 ≤ (x9 : Int) ∧ x9 < ((s6.2.1 : Nat) : Int) then
    ((ldA h p7.1 (p7.2 + Int.toNat x9 * 1)).bind fun v8 =>
    (asI .i64 v8).bind fun n9 =>
    if (decide ((n9 : Int) ≥ 0)) = true then
    ((x7).bind fun p10 =>
    (ldA h p10.1 (p10.2 + 3)).bind fun v11 =>
    (asSl v11).bind fun s12 =>
    (s12.1).bind fun p13 =>
    if 0 ≤ (x9 : Int) ∧ x9 < ((s12.2.1 : Nat) : Int) then
    ((ldA h p13.1 (p13.2 + Int.toNat x9 * 1)).bind fun v14 =>
    (asI .i64 v14).bind fun n15 =>
    (x7).bind fun p16 =>
    (ldA h p16.1 (p16.2 + 2)).bind fun v17 =>
    (asI .i64 v17).bind fun n18 =>
    (call Y 14 [(.int .i64 (wrapA .i64 (n18 - 1)))] h (nx + 29)).bind fun r19 =>
    (asI .i64 r19.1).bind fun n20 =>
    (call Y 13 [(.slice x0a x0n x0c), (.int .i64 n15), (.int .i64 (wrapA .i64 (x2 + (wrapA .i64 (x9 * n20)))))] r19.2.1 r19.2.2).bind fun r21 =>
    (asSl r21.1).bind fun s22 =>
    (srcS r21.2.1 s22.1 s22.2.1 5).bind fun q23 =>
    (appD r21.2.1 x8a x8n x8c 5 56 (nx + 27) q23).bind fun e24 =>
    let h25 := AHeap.puts r21.2.1 e24.sets
    ifKept [(h, r19.2.1, [p10.1]), (h, r19.2.1, [p13.1])]
    (F13_L1 call Y lf n0 x0a x0n x0c x2 x7 e24.a e24.n e24.c (wrapA .i64 (x9 + 1)) h25 (r21.2.2 + 3)))
    else none)
    else
    (F13_L1 call Y lf n0 x0a x0n x0c x2 x7 x8a x8n x8c (wrapA .i64 (x9 + 1)) h (nx + 14)))
    else none)
    else
    (some ((.slice x8a x8n x8c), h, (nx + 7))) := F13_L1_eq' go1 call Y lf n0 x0a x0n x0c x2 x7 x8a x8n x8c x9 h nx

theorem F13_L1_zero (call : YldF → CallF) (Y : YldF) (lf : Nat) (x0a : Option (Nat × Nat)) (x0n : Nat) (x0c : Bool) (x2 : Int) (x7 : Option (Nat × Nat)) (x8a : Option (Nat × Nat)) (x8n : Nat) (x8c : Bool) (x9 : Int) (h : AHeap) (nx : Nat) : F13_L1 call Y lf 0 x0a x0n x0c x2 x7 x8a x8n x8c x9 h nx = none := by kernel_rfl

theorem F13_eq' (J : StepF (AV × AHeap × Nat) → StepF (AV × AHeap × Nat)) (n : Nat) (Y : YldF) (x0a : Option (Nat × Nat)) (x0n : Nat) (x0c : Bool) (x1 : Int) (x2 : Int) (h : AHeap) (nx : Nat) : rootJ J Try.prog keepT (callP Try.prog keepT n) Y n 13 [(.slice x0a x0n x0c), (.int .i64 x1), (.int .i64 x2)] h nx =
    (x0a).bind fun p1 =>
    if 0 ≤ (x1 : Int) ∧ x1 < ((x0n : Nat) : Int) then
    ((ldR h p1.1 (p1.2 + Int.toNat x1 * 5) 5).bind fun l2 =>
    (asAgg 5 (AV.agg l2)).bind fun d3 =>
    (asI .i64 (d3.getD 0 .bad)).bind fun n4 =>
    (asI .i64 (d3.getD 1 .bad)).bind fun n5 =>
    (asI .i64 (d3.getD 2 .bad)).bind fun n6 =>
    (asSl (d3.getD 3 .bad)).bind fun s7 =>
    (asSl (d3.getD 4 .bad)).bind fun s8 =>
    let h9 := AHeap.put h (nx + 5) (some ⟨[(.int .i64 0), (.int .i64 0), (.int .i64 0), (.slice none 0 false), (.slice none 0 false)], 5, true⟩)
    (stA h9 (nx + 5) 0 (.agg [(.int .i64 n4), (.int .i64 n5), (.int .i64 n6), (.slice s7.1 s7.2.1 s7.2.2), (.slice s8.1 s8.2.1 s8.2.2)]) 5).bind fun b10 =>
    let h11 := AHeap.put h9 (nx + 5) (some b10)
    (ldA h11 (nx + 5) 2).bind fun v12 =>
    (asI .i64 v12).bind fun n13 =>
    (ldA h11 (nx + 5) 0).bind fun v14 =>
    (asI .i64 v14).bind fun n15 =>
    (ldA h11 (nx + 5) 1).bind fun v16 =>
    (asI .i64 v16).bind fun n17 =>
    (ldA h11 (nx + 5) 4).bind fun v18 =>
    (asSl v18).bind fun s19 =>
    let h20 := AHeap.put h11 (nx + 17) (some ⟨[(.int .i64 n13), (.int .i64 x2), (.int .i64 n15), (.int .i64 n17), (.slice s19.1 s19.2.1 s19.2.2)], 5, true⟩)
    F13_L1' J J (callP Try.prog keepT n) Y n n x0a x0n x0c x2 (some ((nx + 5), 0)) (some ((nx + 17), 0)) 1 true 0 h20 (nx + 20))
    else none := by kernel_rfl

/-- quickset/quicksetkeep.places -/
theorem F13_eq (n : Nat) (Y : YldF) (x0a : Option (Nat × Nat)) (x0n : Nat) (x0c : Bool) (x1 : Int) (x2 : Int) (h : AHeap) (nx : Nat) : callP Try.prog keepT (n + 1) Y 13 [(.slice x0a x0n x0c), (.int .i64 x1), (.int .i64 x2)] h nx =
    (x0a).bind fun p1 =>
    if 0 ≤ (x1 : Int) ∧ x1 < ((x0n : Nat) : Int) then
    ((ldR h p1.1 (p1.2 + Int.toNat x1 * 5) 5).bind fun l2 =>
    (asAgg 5 (AV.agg l2)).bind fun d3 =>
    (asI .i64 (d3.getD 0 .bad)).bind fun n4 =>
    (asI .i64 (d3.getD 1 .bad)).bind fun n5 =>
    (asI .i64 (d3.getD 2 .bad)).bind fun n6 =>
    (asSl (d3.getD 3 .bad)).bind fun s7 =>
    (asSl (d3.getD 4 .bad)).bind fun s8 =>
    let h9 := AHeap.put h (nx + 5) (some ⟨[(.int .i64 0), (.int .i64 0), (.int .i64 0), (.slice none 0 false), (.slice none 0 false)], 5, true⟩)
    (stA h9 (nx + 5) 0 (.agg [(.int .i64 n4), (.int .i64 n5), (.int .i64 n6), (.slice s7.1 s7.2.1 s7.2.2), (.slice s8.1 s8.2.1 s8.2.2)]) 5).bind fun b10 =>
    let h11 := AHeap.put h9 (nx + 5) (some b10)
    (ldA h11 (nx + 5) 2).bind fun v12 =>
    (asI .i64 v12).bind fun n13 =>
    (ldA h11 (nx + 5) 0).bind fun v14 =>
    (asI .i64 v14).bind fun n15 =>
    (ldA h11 (nx + 5) 1).bind fun v16 =>
    (asI .i64 v16).bind fun n17 =>
    (ldA h11 (nx + 5) 4).bind fun v18 =>
    (asSl v18).bind fun s19 =>
    let h20 := AHeap.put h11 (nx + 17) (some ⟨[(.int .i64 n13), (.int .i64 x2), (.int .i64 n15), (.int .i64 n17), (.slice s19.1 s19.2.1 s19.2.2)], 5, true⟩)
    F13_L1 (callP Try.prog keepT n) Y n n x0a x0n x0c x2 (some ((nx + 5), 0)) (some ((nx + 17), 0)) 1 true 0 h20 (nx + 20))
    else none := F13_eq' go1 n Y x0a x0n x0c x1 x2 h nx

noncomputable def c14 : Code := (Try.f14.body).getD .skip

noncomputable def r14 : List ResultVar := Try.f14.results.toList

theorem F14_eq' (J : StepF (AV × AHeap × Nat) → StepF (AV × AHeap × Nat)) (n : Nat) (Y : YldF) (x0 : Int) (h : AHeap) (nx : Nat) : rootJ J Try.prog keepT (callP Try.prog keepT n) Y n 14 [(.int .i64 x0)] h nx =
    if ((wrapA .i64 (2 * x0)) : Int) < 0 then none else
    (some ((.int .i64 (wrapA .i64 (64 * (2:Int) ^ min (Int.toNat (wrapA .i64 (2 * x0))) (IntKind.bits .i64)))), h, (nx + 5))) := by kernel_rfl

/-- quickset/quicksetkeep.Room -/
theorem F14_eq (n : Nat) (Y : YldF) (x0 : Int) (h : AHeap) (nx : Nat) : callP Try.prog keepT (n + 1) Y 14 [(.int .i64 x0)] h nx =
    if ((wrapA .i64 (2 * x0)) : Int) < 0 then none else
    (some ((.int .i64 (wrapA .i64 (64 * (2:Int) ^ min (Int.toNat (wrapA .i64 (2 * x0))) (IntKind.bits .i64)))), h, (nx + 5))) := F14_eq' go1 n Y x0 h nx

noncomputable def c15 : Code := (Try.f15.body).getD .skip

noncomputable def r15 : List ResultVar := Try.f15.results.toList

noncomputable def F15_L1' (W J : StepF (AV × AHeap × Nat) → StepF (AV × AHeap × Nat)) (call : YldF → CallF) (Y : YldF) (lf : Nat) (n0 : Nat) (x0a : Option (Nat × Nat)) (x0n : Nat) (x0c : Bool) (x1a : Option (Nat × Nat)) (x1n : Nat) (x1c : Bool) (x5 : Int) (h : AHeap) (nx : Nat) : Option (AV × AHeap × Nat) :=
  goK W J drawK (machOf Try.prog) call Y (keepT 15) lf c15 [1, 1, 0, 1, 0, 9] [n0] (retK (machOf Try.prog) ⟨c15, 26, r15, keepT 15⟩) ⟨26, mkL [(0, (.slice x0a x0n x0c)), (1, (.slice x1a x1n x1c)), (5, (.int .i64 x5))]⟩ h nx

noncomputable def F15_L1 (call : YldF → CallF) (Y : YldF) (lf : Nat) (n0 : Nat) (x0a : Option (Nat × Nat)) (x0n : Nat) (x0c : Bool) (x1a : Option (Nat × Nat)) (x1n : Nat) (x1c : Bool) (x5 : Int) (h : AHeap) (nx : Nat) : Option (AV × AHeap × Nat) := F15_L1' go1 go1 call Y lf n0 x0a x0n x0c x1a x1n x1c x5 h nx

theorem F15_L1_eq' (J : StepF (AV × AHeap × Nat) → StepF (AV × AHeap × Nat)) (call : YldF → CallF) (Y : YldF) (lf : Nat) (n0 : Nat) (x0a : Option (Nat × Nat)) (x0n : Nat) (x0c : Bool) (x1a : Option (Nat × Nat)) (x1n : Nat) (x1c : Bool) (x5 : Int) (h : AHeap) (nx : Nat) : F15_L1' go1 J call Y lf (n0 + 1) x0a x0n x0c x1a x1n x1c x5 h nx =
    if (decide ((x5 : Int) < ((x0n : Nat) : Int))) = true then
    ((x0a).bind fun p1 =>
    if 0 ≤ (x5 : Int) ∧ x5 < ((x0n : Nat) : Int) then
    ((ldA h p1.1 (p1.2 + Int.toNat x5 * 1)).bind fun v2 =>
    (asI .u8 v2).bind fun n3 =>
    (x1a).bind fun p4 =>
    if 0 ≤ (x5 : Int) ∧ x5 < ((x1n : Nat) : Int) then
    ((ldA h p4.1 (p4.2 + Int.toNat x5 * 1)).bind fun v5 =>
    (asI .u8 v5).bind fun n6 =>
    if ((n3 : Int) != n6) = true then
    (some ((.bool false), h, (nx + 14)))
    else
    (F15_L1' J J call Y lf n0 x0a x0n x0c x1a x1n x1c (wrapA .i64 (x5 + 1)) h (nx + 16)))
    else none)
    else none)
    else
    (some ((.bool true), h, (nx + 5))) := by kernel_rfl

theorem F15_L1_eq (call : YldF → CallF) (Y : YldF) (lf : Nat) (n0 : Nat) (x0a : Option (Nat × Nat)) (x0n : Nat) (x0c : Bool) (x1a : Option (Nat × Nat)) (x1n : Nat) (x1c : Bool) (x5 : Int) (h : AHeap) (nx : Nat) : F15_L1 call Y lf (n0 + 1) x0a x0n x0c x1a x1n x1c x5 h nx =
    if (decide ((x5 : Int) < ((x0n : Nat) : Int))) = true then
    ((x0a).bind fun p1 =>
    if 0 ≤ (x5 : Int) ∧ x5 < ((x0n : Nat) : Int) then
    ((ldA h p1.1 (p1.2 + Int.toNat x5 * 1)).bind fun v2 =>
    (asI .u8 v2).bind fun n3 =>
    (x1a).bind fun p4 =>
    if 0 ≤ (x5 : Int) ∧ x5 < ((x1n : Nat) : Int) then
    ((ldA h p4.1 (p4.2 + Int.toNat x5 * 1)).bind fun v5 =>
    (asI .u8 v5).bind fun n6 =>
    if ((n3 : Int) != n6) = true then
    (some ((.bool false), h, (nx + 14)))
    else
    (F15_L1 call Y lf n0 x0a x0n x0c x1a x1n x1c (wrapA .i64 (x5 + 1)) h (nx + 16)))
    else none)
    else none)
    else
    (some ((.bool true), h, (nx + 5))) := F15_L1_eq' go1 call Y lf n0 x0a x0n x0c x1a x1n x1c x5 h nx

theorem F15_L1_zero (call : YldF → CallF) (Y : YldF) (lf : Nat) (x0a : Option (Nat × Nat)) (x0n : Nat) (x0c : Bool) (x1a : Option (Nat × Nat)) (x1n : Nat) (x1c : Bool) (x5 : Int) (h : AHeap) (nx : Nat) : F15_L1 call Y lf 0 x0a x0n x0c x1a x1n x1c x5 h nx = none := by kernel_rfl

theorem F15_eq' (J : StepF (AV × AHeap × Nat) → StepF (AV × AHeap × Nat)) (n : Nat) (Y : YldF) (x0a : Option (Nat × Nat)) (x0n : Nat) (x0c : Bool) (x1a : Option (Nat × Nat)) (x1n : Nat) (x1c : Bool) (h : AHeap) (nx : Nat) : rootJ J Try.prog keepT (callP Try.prog keepT n) Y n 15 [(.slice x0a x0n x0c), (.slice x1a x1n x1c)] h nx =
    if ((((x0n : Nat) : Int) : Int) != ((x1n : Nat) : Int)) = true then
    (some ((.bool false), h, (nx + 7)))
    else
    (F15_L1' J J (callP Try.prog keepT n) Y n n x0a x0n x0c x1a x1n x1c 0 h (nx + 7)) := by kernel_rfl

/-- quickset/quicksetkeep.sameBytes -/
theorem F15_eq (n : Nat) (Y : YldF) (x0a : Option (Nat × Nat)) (x0n : Nat) (x0c : Bool) (x1a : Option (Nat × Nat)) (x1n : Nat) (x1c : Bool) (h : AHeap) (nx : Nat) : callP Try.prog keepT (n + 1) Y 15 [(.slice x0a x0n x0c), (.slice x1a x1n x1c)] h nx =
    if ((((x0n : Nat) : Int) : Int) != ((x1n : Nat) : Int)) = true then
    (some ((.bool false), h, (nx + 7)))
    else
    (F15_L1 (callP Try.prog keepT n) Y n n x0a x0n x0c x1a x1n x1c 0 h (nx + 7)) := F15_eq' go1 n Y x0a x0n x0c x1a x1n x1c h nx

noncomputable def c16 : Code := (Try.f16.body).getD .skip

noncomputable def r16 : List ResultVar := Try.f16.results.toList

theorem F16_eq' (J : StepF (AV × AHeap × Nat) → StepF (AV × AHeap × Nat)) (n : Nat) (Y : YldF) (x0a : Option (Nat × Nat)) (x0n : Nat) (x0c : Bool) (h : AHeap) (nx : Nat) : rootJ J Try.prog keepT (callP Try.prog keepT n) Y n 16 [(.slice x0a x0n x0c)] h nx =
    ((callP Try.prog keepT n) Y 17 [(.slice x0a x0n x0c)] h (nx + 11)).bind fun r1 =>
    (asTup 3 r1.1).bind fun d2 =>
    (asSl (d2.getD 0 .bad)).bind fun s3 =>
    (asP (d2.getD 1 .bad)).bind fun p4 =>
    (asI .i64 (d2.getD 2 .bad)).bind fun n5 =>
    some ((.tuple [(.slice s3.1 s3.2.1 s3.2.2), (.int .i64 n5)]), r1.2.1, (r1.2.2 + 4)) := by kernel_rfl

/-- quickset/tree.Play -/
theorem F16_eq (n : Nat) (Y : YldF) (x0a : Option (Nat × Nat)) (x0n : Nat) (x0c : Bool) (h : AHeap) (nx : Nat) : callP Try.prog keepT (n + 1) Y 16 [(.slice x0a x0n x0c)] h nx =
    ((callP Try.prog keepT n) Y 17 [(.slice x0a x0n x0c)] h (nx + 11)).bind fun r1 =>
    (asTup 3 r1.1).bind fun d2 =>
    (asSl (d2.getD 0 .bad)).bind fun s3 =>
    (asP (d2.getD 1 .bad)).bind fun p4 =>
    (asI .i64 (d2.getD 2 .bad)).bind fun n5 =>
    some ((.tuple [(.slice s3.1 s3.2.1 s3.2.2), (.int .i64 n5)]), r1.2.1, (r1.2.2 + 4)) := F16_eq' go1 n Y x0a x0n x0c h nx

noncomputable def c17 : Code := (Try.f17.body).getD .skip

noncomputable def r17 : List ResultVar := Try.f17.results.toList

noncomputable def F17_L1' (W J : StepF (AV × AHeap × Nat) → StepF (AV × AHeap × Nat)) (call : YldF → CallF) (Y : YldF) (lf : Nat) (n0 : Nat) (x5 : Option (Nat × Nat)) (x6a : Option (Nat × Nat)) (x6n : Nat) (x6c : Bool) (x15a : Option (Nat × Nat)) (x15n : Nat) (x15c : Bool) (x16 : Int) (x17 : Int) (h : AHeap) (nx : Nat) : Option (AV × AHeap × Nat) :=
  goK W J drawK (machOf Try.prog) call Y (keepT 17) lf c17 [1, 1, 1, 1, 0, 1, 0, 9] [n0] (retK (machOf Try.prog) ⟨c17, 30, r17, keepT 17⟩) ⟨30, mkL [(5, (.ptr x5)), (6, (.slice x6a x6n x6c)), (15, (.slice x15a x15n x15c)), (16, (.int .i64 x16)), (17, (.int .i64 x17))]⟩ h nx

noncomputable def F17_L1 (call : YldF → CallF) (Y : YldF) (lf : Nat) (n0 : Nat) (x5 : Option (Nat × Nat)) (x6a : Option (Nat × Nat)) (x6n : Nat) (x6c : Bool) (x15a : Option (Nat × Nat)) (x15n : Nat) (x15c : Bool) (x16 : Int) (x17 : Int) (h : AHeap) (nx : Nat) : Option (AV × AHeap × Nat) := F17_L1' go1 go1 call Y lf n0 x5 x6a x6n x6c x15a x15n x15c x16 x17 h nx

theorem F17_L1_eq' (J : StepF (AV × AHeap × Nat) → StepF (AV × AHeap × Nat)) (call : YldF → CallF) (Y : YldF) (lf : Nat) (n0 : Nat) (x5 : Option (Nat × Nat)) (x6a : Option (Nat × Nat)) (x6n : Nat) (x6c : Bool) (x15a : Option (Nat × Nat)) (x15n : Nat) (x15c : Bool) (x16 : Int) (x17 : Int) (h : AHeap) (nx : Nat) : F17_L1' go1 J call Y lf (n0 + 1) x5 x6a x6n x6c x15a x15n x15c x16 x17 h nx =
    if (decide ((x17 : Int) < x16)) = true then
    ((x15a).bind fun p1 =>
    if 0 ≤ (x17 : Int) ∧ x17 < ((x15n : Nat) : Int) then
    ((ldR h p1.1 (p1.2 + Int.toNat x17 * 5) 5).bind fun l2 =>
    (asAgg 5 (AV.agg l2)).bind fun d3 =>
    (asI .i64 (d3.getD 0 .bad)).bind fun n4 =>
    (asI .i64 (d3.getD 1 .bad)).bind fun n5 =>
    (asI .i64 (d3.getD 2 .bad)).bind fun n6 =>
    (asI .i64 (d3.getD 3 .bad)).bind fun n7 =>
    (asSl (d3.getD 4 .bad)).bind fun s8 =>
    let h9 := AHeap.put h (nx + 3) (some ⟨[(.int .i64 0), (.int .i64 0), (.int .i64 0), (.int .i64 0), (.slice none 0 false)], 5, true⟩)
    (stA h9 (nx + 3) 0 (.agg [(.int .i64 n4), (.int .i64 n5), (.int .i64 n6), (.int .i64 n7), (.slice s8.1 s8.2.1 s8.2.2)]) 5).bind fun b10 =>
    let h11 := AHeap.put h9 (nx + 3) (some b10)
    (ldR h11 (nx + 3) 0 5).bind fun l12 =>
    (asAgg 5 (AV.agg l12)).bind fun d13 =>
    (asI .i64 (d13.getD 0 .bad)).bind fun n14 =>
    (asI .i64 (d13.getD 1 .bad)).bind fun n15 =>
    (asI .i64 (d13.getD 2 .bad)).bind fun n16 =>
    (asI .i64 (d13.getD 3 .bad)).bind fun n17 =>
    (asSl (d13.getD 4 .bad)).bind fun s18 =>
    (call Y 20 [(.ptr x5), (.agg [(.int .i64 n14), (.int .i64 n15), (.int .i64 n16), (.int .i64 n17), (.slice s18.1 s18.2.1 s18.2.2)])] h11 (nx + 12)).bind fun r19 =>
    (asAgg 4 r19.1).bind fun d20 =>
    (asI .i64 (d20.getD 0 .bad)).bind fun n21 =>
    (asI .i64 (d20.getD 1 .bad)).bind fun n22 =>
    (asI .i64 (d20.getD 2 .bad)).bind fun n23 =>
    (asSl (d20.getD 3 .bad)).bind fun s24 =>
    let h25 := AHeap.put r19.2.1 (nx + 9) (some ⟨[(.int .i64 n21), (.int .i64 n22), (.int .i64 n23), (.slice s24.1 s24.2.1 s24.2.2)], 4, true⟩)
    (srcS h25 (some ((nx + 9), 0)) 1 4).bind fun q26 =>
    (appD h25 x6a x6n x6c 4 48 (nx + 10) q26).bind fun e27 =>
    let h28 := AHeap.puts h25 e27.sets
    F17_L1' J J call Y lf n0 x5 e27.a e27.n e27.c x15a x15n x15c x16 (wrapA .i64 (x17 + 1)) h28 (r19.2.2 + 2))
    else none)
    else
    (some ((.tuple [(.slice x6a x6n x6c), (.ptr x5), (.int .i64 0)]), h, (nx + 6))) := by kernel_rfl

theorem F17_L1_eq (call : YldF → CallF) (Y : YldF) (lf : Nat) (n0 : Nat) (x5 : Option (Nat × Nat)) (x6a : Option (Nat × Nat)) (x6n : Nat) (x6c : Bool) (x15a : Option (Nat × Nat)) (x15n : Nat) (x15c : Bool) (x16 : Int) (x17 : Int) (h : AHeap) (nx : Nat) : F17_L1 call Y lf (n0 + 1) x5 x6a x6n x6c x15a x15n x15c x16 x17 h nx =
    if (decide ((x17 : Int) < x16)) = true then
    ((x15a).bind fun p1 =>
    if 0 ≤ (x17 : Int) ∧ x17 < ((x15n : Nat) : Int) then
    ((ldR h p1.1 (p1.2 + Int.toNat x17 * 5) 5).bind fun l2 =>
    (asAgg 5 (AV.agg l2)).bind fun d3 =>
    (asI .i64 (d3.getD 0 .bad)).bind fun n4 =>
    (asI .i64 (d3.getD 1 .bad)).bind fun n5 =>
    (asI .i64 (d3.getD 2 .bad)).bind fun n6 =>
    (asI .i64 (d3.getD 3 .bad)).bind fun n7 =>
    (asSl (d3.getD 4 .bad)).bind fun s8 =>
    let h9 := AHeap.put h (nx + 3) (some ⟨[(.int .i64 0), (.int .i64 0), (.int .i64 0), (.int .i64 0), (.slice none 0 false)], 5, true⟩)
    (stA h9 (nx + 3) 0 (.agg [(.int .i64 n4), (.int .i64 n5), (.int .i64 n6), (.int .i64 n7), (.slice s8.1 s8.2.1 s8.2.2)]) 5).bind fun b10 =>
    let h11 := AHeap.put h9 (nx + 3) (some b10)
    (ldR h11 (nx + 3) 0 5).bind fun l12 =>
    (asAgg 5 (AV.agg l12)).bind fun d13 =>
    (asI .i64 (d13.getD 0 .bad)).bind fun n14 =>
    (asI .i64 (d13.getD 1 .bad)).bind fun n15 =>
    (asI .i64 (d13.getD 2 .bad)).bind fun n16 =>
    (asI .i64 (d13.getD 3 .bad)).bind fun n17 =>
    (asSl (d13.getD 4 .bad)).bind fun s18 =>
    (call Y 20 [(.ptr x5), (.agg [(.int .i64 n14), (.int .i64 n15), (.int .i64 n16), (.int .i64 n17), (.slice s18.1 s18.2.1 s18.2.2)])] h11 (nx + 12)).bind fun r19 =>
    (asAgg 4 r19.1).bind fun d20 =>
    (asI .i64 (d20.getD 0 .bad)).bind fun n21 =>
    (asI .i64 (d20.getD 1 .bad)).bind fun n22 =>
    (asI .i64 (d20.getD 2 .bad)).bind fun n23 =>
    (asSl (d20.getD 3 .bad)).bind fun s24 =>
    let h25 := AHeap.put r19.2.1 (nx + 9) (some ⟨[(.int .i64 n21), (.int .i64 n22), (.int .i64 n23), (.slice s24.1 s24.2.1 s24.2.2)], 4, true⟩)
    (srcS h25 (some ((nx + 9), 0)) 1 4).bind fun q26 =>
    (appD h25 x6a x6n x6c 4 48 (nx + 10) q26).bind fun e27 =>
    let h28 := AHeap.puts h25 e27.sets
    F17_L1 call Y lf n0 x5 e27.a e27.n e27.c x15a x15n x15c x16 (wrapA .i64 (x17 + 1)) h28 (r19.2.2 + 2))
    else none)
    else
    (some ((.tuple [(.slice x6a x6n x6c), (.ptr x5), (.int .i64 0)]), h, (nx + 6))) := F17_L1_eq' go1 call Y lf n0 x5 x6a x6n x6c x15a x15n x15c x16 x17 h nx

theorem F17_L1_zero (call : YldF → CallF) (Y : YldF) (lf : Nat) (x5 : Option (Nat × Nat)) (x6a : Option (Nat × Nat)) (x6n : Nat) (x6c : Bool) (x15a : Option (Nat × Nat)) (x15n : Nat) (x15c : Bool) (x16 : Int) (x17 : Int) (h : AHeap) (nx : Nat) : F17_L1 call Y lf 0 x5 x6a x6n x6c x15a x15n x15c x16 x17 h nx = none := by kernel_rfl

theorem F17_eq' (J : StepF (AV × AHeap × Nat) → StepF (AV × AHeap × Nat)) (n : Nat) (Y : YldF) (x0a : Option (Nat × Nat)) (x0n : Nat) (x0c : Bool) (h : AHeap) (nx : Nat) : rootJ J Try.prog keepT (callP Try.prog keepT n) Y n 17 [(.slice x0a x0n x0c)] h nx =
    if (decide ((((x0n : Nat) : Int) : Int) > 300)) = true then
    (some ((.tuple [(.slice none 0 false), (.ptr none), (.int .i64 1)]), h, (nx + 9)))
    else
    (if (decide (0 ≤ (1 : Int)) && decide ((1 : Int) ≤ 1) && decide (((16 : Nat) : Int) * 1 ≤ 281474976710656) && decide ((1 : Int) ≤ 9223372036854775807) && 2 != 0) = true then
    (let h1 := AHeap.put h (nx + 6) (some ⟨(madeA [(.ptr none), (.int .i64 0)] (Int.toNat 1 * 2)), 2, true⟩)
    let h2 := AHeap.put h1 (nx + 8) (some ⟨[(.slice (some ((nx + 6), 0)) (Int.toNat 1) true), (.int .i64 0)], 2, true⟩)
    F17_L1' J J (callP Try.prog keepT n) Y n n (some ((nx + 8), 0)) none 0 false x0a x0n x0c ((x0n : Nat) : Int) 0 h2 (nx + 14))
    else none) := by kernel_rfl

/-- quickset/tree.play -/
theorem F17_eq (n : Nat) (Y : YldF) (x0a : Option (Nat × Nat)) (x0n : Nat) (x0c : Bool) (h : AHeap) (nx : Nat) : callP Try.prog keepT (n + 1) Y 17 [(.slice x0a x0n x0c)] h nx =
    if (decide ((((x0n : Nat) : Int) : Int) > 300)) = true then
    (some ((.tuple [(.slice none 0 false), (.ptr none), (.int .i64 1)]), h, (nx + 9)))
    else
    (if (decide (0 ≤ (1 : Int)) && decide ((1 : Int) ≤ 1) && decide (((16 : Nat) : Int) * 1 ≤ 281474976710656) && decide ((1 : Int) ≤ 9223372036854775807) && 2 != 0) = true then
    (let h1 := AHeap.put h (nx + 6) (some ⟨(madeA [(.ptr none), (.int .i64 0)] (Int.toNat 1 * 2)), 2, true⟩)
    let h2 := AHeap.put h1 (nx + 8) (some ⟨[(.slice (some ((nx + 6), 0)) (Int.toNat 1) true), (.int .i64 0)], 2, true⟩)
    F17_L1 (callP Try.prog keepT n) Y n n (some ((nx + 8), 0)) none 0 false x0a x0n x0c ((x0n : Nat) : Int) 0 h2 (nx + 14))
    else none) := F17_eq' go1 n Y x0a x0n x0c h nx

noncomputable def c18 : Code := (Try.f18.body).getD .skip

noncomputable def r18 : List ResultVar := Try.f18.results.toList

theorem F18_eq' (J : StepF (AV × AHeap × Nat) → StepF (AV × AHeap × Nat)) (n : Nat) (Y : YldF) (x0a : Option (Nat × Nat)) (x0n : Nat) (x0c : Bool) (h : AHeap) (nx : Nat) : rootJ J Try.prog keepT (callP Try.prog keepT n) Y n 18 [(.slice x0a x0n x0c)] h nx =
    if (Option.isNone x0a) = true then
    (some ((.slice none 0 false), h, (nx + 4)))
    else
    (let h1 := AHeap.put h (nx + 3) (some ⟨[], 1, true⟩)
    (srcS h1 x0a x0n 1).bind fun q2 =>
    (appD h1 (some ((nx + 3), 0)) 0 true 1 1 (nx + 5) q2).bind fun e3 =>
    let h4 := AHeap.puts h1 e3.sets
    some ((.slice e3.a e3.n e3.c), h4, (nx + 7))) := by kernel_rfl

/-- slices.Clone[[]byte,byte] -/
theorem F18_eq (n : Nat) (Y : YldF) (x0a : Option (Nat × Nat)) (x0n : Nat) (x0c : Bool) (h : AHeap) (nx : Nat) : callP Try.prog keepT (n + 1) Y 18 [(.slice x0a x0n x0c)] h nx =
    if (Option.isNone x0a) = true then
    (some ((.slice none 0 false), h, (nx + 4)))
    else
    (let h1 := AHeap.put h (nx + 3) (some ⟨[], 1, true⟩)
    (srcS h1 x0a x0n 1).bind fun q2 =>
    (appD h1 (some ((nx + 3), 0)) 0 true 1 1 (nx + 5) q2).bind fun e3 =>
    let h4 := AHeap.puts h1 e3.sets
    some ((.slice e3.a e3.n e3.c), h4, (nx + 7))) := F18_eq' go1 n Y x0a x0n x0c h nx

noncomputable def c19 : Code := (Try.f19.body).getD .skip

noncomputable def r19 : List ResultVar := Try.f19.results.toList

noncomputable def F19_J1' (W J : StepF (AV × AHeap × Nat) → StepF (AV × AHeap × Nat)) (call : YldF → CallF) (Y : YldF) (lf : Nat) (x0a : Option (Nat × Nat)) (x0n : Nat) (x0c : Bool) (x1 : Int) (x2 : Int) (x3a : Option (Nat × Nat)) (x3n : Nat) (x3c : Bool) (x4a : Option (Nat × Nat)) (x4n : Nat) (x4c : Bool) (x11 : Option (Nat × Nat)) (h : AHeap) (nx : Nat) : Option (AV × AHeap × Nat) :=
  goK W J drawK (machOf Try.prog) call Y (keepT 19) lf c19 [1, 1, 1] [] (retK (machOf Try.prog) ⟨c19, 140, r19, keepT 19⟩) ⟨140, mkL [(0, (.slice x0a x0n x0c)), (1, (.int .i64 x1)), (2, (.int .i64 x2)), (3, (.slice x3a x3n x3c)), (4, (.slice x4a x4n x4c)), (11, (.ptr x11))]⟩ h nx

noncomputable def F19_J1 (call : YldF → CallF) (Y : YldF) (lf : Nat) (x0a : Option (Nat × Nat)) (x0n : Nat) (x0c : Bool) (x1 : Int) (x2 : Int) (x3a : Option (Nat × Nat)) (x3n : Nat) (x3c : Bool) (x4a : Option (Nat × Nat)) (x4n : Nat) (x4c : Bool) (x11 : Option (Nat × Nat)) (h : AHeap) (nx : Nat) : Option (AV × AHeap × Nat) := F19_J1' go1 go1 call Y lf x0a x0n x0c x1 x2 x3a x3n x3c x4a x4n x4c x11 h nx

noncomputable def F19_J2' (W J : StepF (AV × AHeap × Nat) → StepF (AV × AHeap × Nat)) (call : YldF → CallF) (Y : YldF) (lf : Nat) (x2 : Int) (x3a : Option (Nat × Nat)) (x3n : Nat) (x3c : Bool) (x11 : Option (Nat × Nat)) (h : AHeap) (nx : Nat) : Option (AV × AHeap × Nat) :=
  goK W J drawK (machOf Try.prog) call Y (keepT 19) lf c19 [1, 1, 1, 0, 1, 0, 1] [] (retK (machOf Try.prog) ⟨c19, 140, r19, keepT 19⟩) ⟨140, mkL [(2, (.int .i64 x2)), (3, (.slice x3a x3n x3c)), (11, (.ptr x11))]⟩ h nx

noncomputable def F19_J2 (call : YldF → CallF) (Y : YldF) (lf : Nat) (x2 : Int) (x3a : Option (Nat × Nat)) (x3n : Nat) (x3c : Bool) (x11 : Option (Nat × Nat)) (h : AHeap) (nx : Nat) : Option (AV × AHeap × Nat) := F19_J2' go1 go1 call Y lf x2 x3a x3n x3c x11 h nx

noncomputable def F19_J3' (W J : StepF (AV × AHeap × Nat) → StepF (AV × AHeap × Nat)) (call : YldF → CallF) (Y : YldF) (lf : Nat) (x0a : Option (Nat × Nat)) (x0n : Nat) (x0c : Bool) (x1 : Int) (x2 : Int) (x3a : Option (Nat × Nat)) (x3n : Nat) (x3c : Bool) (x4a : Option (Nat × Nat)) (x4n : Nat) (x4c : Bool) (x11 : Option (Nat × Nat)) (h : AHeap) (nx : Nat) : Option (AV × AHeap × Nat) :=
  goK W J drawK (machOf Try.prog) call Y (keepT 19) lf c19 [1, 1, 1, 1, 1] [] (retK (machOf Try.prog) ⟨c19, 140, r19, keepT 19⟩) ⟨140, mkL [(0, (.slice x0a x0n x0c)), (1, (.int .i64 x1)), (2, (.int .i64 x2)), (3, (.slice x3a x3n x3c)), (4, (.slice x4a x4n x4c)), (11, (.ptr x11))]⟩ h nx

noncomputable def F19_J3 (call : YldF → CallF) (Y : YldF) (lf : Nat) (x0a : Option (Nat × Nat)) (x0n : Nat) (x0c : Bool) (x1 : Int) (x2 : Int) (x3a : Option (Nat × Nat)) (x3n : Nat) (x3c : Bool) (x4a : Option (Nat × Nat)) (x4n : Nat) (x4c : Bool) (x11 : Option (Nat × Nat)) (h : AHeap) (nx : Nat) : Option (AV × AHeap × Nat) := F19_J3' go1 go1 call Y lf x0a x0n x0c x1 x2 x3a x3n x3c x4a x4n x4c x11 h nx

noncomputable def F19_L4' (W J : StepF (AV × AHeap × Nat) → StepF (AV × AHeap × Nat)) (call : YldF → CallF) (Y : YldF) (lf : Nat) (n0 : Nat) (x2 : Int) (x3a : Option (Nat × Nat)) (x3n : Nat) (x3c : Bool) (x11 : Option (Nat × Nat)) (x12 : Int) (h : AHeap) (nx : Nat) : Option (AV × AHeap × Nat) :=
  goK W J drawK (machOf Try.prog) call Y (keepT 19) lf c19 [1, 1, 1, 0, 1, 0, 1, 0, 1, 0, 9] [n0] (retK (machOf Try.prog) ⟨c19, 140, r19, keepT 19⟩) ⟨140, mkL [(2, (.int .i64 x2)), (3, (.slice x3a x3n x3c)), (11, (.ptr x11)), (12, (.int .i64 x12))]⟩ h nx

noncomputable def F19_L4 (call : YldF → CallF) (Y : YldF) (lf : Nat) (n0 : Nat) (x2 : Int) (x3a : Option (Nat × Nat)) (x3n : Nat) (x3c : Bool) (x11 : Option (Nat × Nat)) (x12 : Int) (h : AHeap) (nx : Nat) : Option (AV × AHeap × Nat) := F19_L4' go1 go1 call Y lf n0 x2 x3a x3n x3c x11 x12 h nx

noncomputable def F19_L5' (W J : StepF (AV × AHeap × Nat) → StepF (AV × AHeap × Nat)) (call : YldF → CallF) (Y : YldF) (lf : Nat) (n0 : Nat) (x0a : Option (Nat × Nat)) (x0n : Nat) (x0c : Bool) (x1 : Int) (x2 : Int) (x3a : Option (Nat × Nat)) (x3n : Nat) (x3c : Bool) (x4a : Option (Nat × Nat)) (x4n : Nat) (x4c : Bool) (x11 : Option (Nat × Nat)) (x13 : Int) (h : AHeap) (nx : Nat) : Option (AV × AHeap × Nat) :=
  goK W J drawK (machOf Try.prog) call Y (keepT 19) lf c19 [1, 1, 1, 1, 1, 0, 1, 0, 9] [n0] (retK (machOf Try.prog) ⟨c19, 140, r19, keepT 19⟩) ⟨140, mkL [(0, (.slice x0a x0n x0c)), (1, (.int .i64 x1)), (2, (.int .i64 x2)), (3, (.slice x3a x3n x3c)), (4, (.slice x4a x4n x4c)), (11, (.ptr x11)), (13, (.int .i64 x13))]⟩ h nx

noncomputable def F19_L5 (call : YldF → CallF) (Y : YldF) (lf : Nat) (n0 : Nat) (x0a : Option (Nat × Nat)) (x0n : Nat) (x0c : Bool) (x1 : Int) (x2 : Int) (x3a : Option (Nat × Nat)) (x3n : Nat) (x3c : Bool) (x4a : Option (Nat × Nat)) (x4n : Nat) (x4c : Bool) (x11 : Option (Nat × Nat)) (x13 : Int) (h : AHeap) (nx : Nat) : Option (AV × AHeap × Nat) := F19_L5' go1 go1 call Y lf n0 x0a x0n x0c x1 x2 x3a x3n x3c x4a x4n x4c x11 x13 h nx

noncomputable def F19_J6' (W J : StepF (AV × AHeap × Nat) → StepF (AV × AHeap × Nat)) (call : YldF → CallF) (Y : YldF) (lf : Nat) (n0 : Nat) (x2 : Int) (x3a : Option (Nat × Nat)) (x3n : Nat) (x3c : Bool) (x11 : Option (Nat × Nat)) (x12 : Int) (h : AHeap) (nx : Nat) : Option (AV × AHeap × Nat) :=
  goK W J drawK (machOf Try.prog) call Y (keepT 19) lf c19 [1, 1, 1, 0, 1, 0, 1, 0, 1, 0, 0, 1] [n0] (retK (machOf Try.prog) ⟨c19, 140, r19, keepT 19⟩) ⟨140, mkL [(2, (.int .i64 x2)), (3, (.slice x3a x3n x3c)), (11, (.ptr x11)), (12, (.int .i64 x12))]⟩ h nx

noncomputable def F19_J6 (call : YldF → CallF) (Y : YldF) (lf : Nat) (n0 : Nat) (x2 : Int) (x3a : Option (Nat × Nat)) (x3n : Nat) (x3c : Bool) (x11 : Option (Nat × Nat)) (x12 : Int) (h : AHeap) (nx : Nat) : Option (AV × AHeap × Nat) := F19_J6' go1 go1 call Y lf n0 x2 x3a x3n x3c x11 x12 h nx

noncomputable def F19_J7' (W J : StepF (AV × AHeap × Nat) → StepF (AV × AHeap × Nat)) (call : YldF → CallF) (Y : YldF) (lf : Nat) (n0 : Nat) (x0a : Option (Nat × Nat)) (x0n : Nat) (x0c : Bool) (x1 : Int) (x2 : Int) (x3a : Option (Nat × Nat)) (x3n : Nat) (x3c : Bool) (x4a : Option (Nat × Nat)) (x4n : Nat) (x4c : Bool) (x11 : Option (Nat × Nat)) (x13 : Int) (x14 : Int) (h : AHeap) (nx : Nat) : Option (AV × AHeap × Nat) :=
  goK W J drawK (machOf Try.prog) call Y (keepT 19) lf c19 [1, 1, 1, 1, 1, 0, 1, 0, 0, 1, 0, 0, 1, 1, 1] [n0] (retK (machOf Try.prog) ⟨c19, 140, r19, keepT 19⟩) ⟨140, mkL [(0, (.slice x0a x0n x0c)), (1, (.int .i64 x1)), (2, (.int .i64 x2)), (3, (.slice x3a x3n x3c)), (4, (.slice x4a x4n x4c)), (11, (.ptr x11)), (13, (.int .i64 x13)), (14, (.int .i64 x14))]⟩ h nx

noncomputable def F19_J7 (call : YldF → CallF) (Y : YldF) (lf : Nat) (n0 : Nat) (x0a : Option (Nat × Nat)) (x0n : Nat) (x0c : Bool) (x1 : Int) (x2 : Int) (x3a : Option (Nat × Nat)) (x3n : Nat) (x3c : Bool) (x4a : Option (Nat × Nat)) (x4n : Nat) (x4c : Bool) (x11 : Option (Nat × Nat)) (x13 : Int) (x14 : Int) (h : AHeap) (nx : Nat) : Option (AV × AHeap × Nat) := F19_J7' go1 go1 call Y lf n0 x0a x0n x0c x1 x2 x3a x3n x3c x4a x4n x4c x11 x13 x14 h nx

theorem F19_J1_eq' (J : StepF (AV × AHeap × Nat) → StepF (AV × AHeap × Nat)) (call : YldF → CallF) (Y : YldF) (lf : Nat) (x0a : Option (Nat × Nat)) (x0n : Nat) (x0c : Bool) (x1 : Int) (x2 : Int) (x3a : Option (Nat × Nat)) (x3n : Nat) (x3c : Bool) (x4a : Option (Nat × Nat)) (x4n : Nat) (x4c : Bool) (x11 : Option (Nat × Nat)) (h : AHeap) (nx : Nat) : F19_J1' go1 J call Y lf x0a x0n x0c x1 x2 x3a x3n x3c x4a x4n x4c x11 h nx =
    (x11).bind fun p1 =>
    (ldA h p1.1 (p1.2 + 2)).bind fun v2 =>
    (asI .i64 v2).bind fun n3 =>
    if ((n3 : Int) == 0) = true then
    ((x11).bind fun p4 =>
    (ldA h p4.1 (p4.2 + 3)).bind fun v5 =>
    (asSl v5).bind fun s6 =>
    if ((((s6.2.1 : Nat) : Int) : Int) != 0) = true then
    (some ((.bool false), h, (nx + 14)))
    else
    ((x11).bind fun p7 =>
    (ldA h p7.1 (p7.2 + 4)).bind fun v8 =>
    (asSl v8).bind fun s9 =>
    if ((((s9.2.1 : Nat) : Int) : Int) != 64) = true then
    (some ((.bool false), h, (nx + 14)))
    else
    (F19_J2' J J call Y lf x2 x3a x3n x3c x11 h (nx + 13))))
    else
    ((x11).bind fun p10 =>
    (ldA h p10.1 (p10.2 + 3)).bind fun v11 =>
    (asSl v11).bind fun s12 =>
    if ((((s12.2.1 : Nat) : Int) : Int) != 4) = true then
    (some ((.bool false), h, (nx + 14)))
    else
    ((x11).bind fun p13 =>
    (ldA h p13.1 (p13.2 + 4)).bind fun v14 =>
    (asSl v14).bind fun s15 =>
    if ((((s15.2.1 : Nat) : Int) : Int) != 0) = true then
    (some ((.bool false), h, (nx + 14)))
    else
    (F19_J3' J J call Y lf x0a x0n x0c x1 x2 x3a x3n x3c x4a x4n x4c x11 h (nx + 13)))) := by kernel_rfl

theorem F19_J1_eq (call : YldF → CallF) (Y : YldF) (lf : Nat) (x0a : Option (Nat × Nat)) (x0n : Nat) (x0c : Bool) (x1 : Int) (x2 : Int) (x3a : Option (Nat × Nat)) (x3n : Nat) (x3c : Bool) (x4a : Option (Nat × Nat)) (x4n : Nat) (x4c : Bool) (x11 : Option (Nat × Nat)) (h : AHeap) (nx : Nat) : F19_J1 call Y lf x0a x0n x0c x1 x2 x3a x3n x3c x4a x4n x4c x11 h nx =
    (x11).bind fun p1 =>
    (ldA h p1.1 (p1.2 + 2)).bind fun v2 =>
    (asI .i64 v2).bind fun n3 =>
    if ((n3 : Int) == 0) = true then
    ((x11).bind fun p4 =>
    (ldA h p4.1 (p4.2 + 3)).bind fun v5 =>
    (asSl v5).bind fun s6 =>
    if ((((s6.2.1 : Nat) : Int) : Int) != 0) = true then
    (some ((.bool false), h, (nx + 14)))
    else
    ((x11).bind fun p7 =>
    (ldA h p7.1 (p7.2 + 4)).bind fun v8 =>
    (asSl v8).bind fun s9 =>
    if ((((s9.2.1 : Nat) : Int) : Int) != 64) = true then
    (some ((.bool false), h, (nx + 14)))
    else
    (F19_J2 call Y lf x2 x3a x3n x3c x11 h (nx + 13))))
    else
    ((x11).bind fun p10 =>
    (ldA h p10.1 (p10.2 + 3)).bind fun v11 =>
    (asSl v11).bind fun s12 =>
    if ((((s12.2.1 : Nat) : Int) : Int) != 4) = true then
    (some ((.bool false), h, (nx + 14)))
    else
    ((x11).bind fun p13 =>
    (ldA h p13.1 (p13.2 + 4)).bind fun v14 =>
    (asSl v14).bind fun s15 =>
    if ((((s15.2.1 : Nat) : Int) : Int) != 0) = true then
    (some ((.bool false), h, (nx + 14)))
    else
    (F19_J3 call Y lf x0a x0n x0c x1 x2 x3a x3n x3c x4a x4n x4c x11 h (nx + 13)))) := F19_J1_eq' go1 call Y lf x0a x0n x0c x1 x2 x3a x3n x3c x4a x4n x4c x11 h nx

theorem F19_J2_eq' (J : StepF (AV × AHeap × Nat) → StepF (AV × AHeap × Nat)) (call : YldF → CallF) (Y : YldF) (lf : Nat) (x2 : Int) (x3a : Option (Nat × Nat)) (x3n : Nat) (x3c : Bool) (x11 : Option (Nat × Nat)) (h : AHeap) (nx : Nat) : F19_J2' go1 J call Y lf x2 x3a x3n x3c x11 h nx =
    F19_L4' J J call Y lf lf x2 x3a x3n x3c x11 0 h (nx + 1) := by kernel_rfl

theorem F19_J2_eq (call : YldF → CallF) (Y : YldF) (lf : Nat) (x2 : Int) (x3a : Option (Nat × Nat)) (x3n : Nat) (x3c : Bool) (x11 : Option (Nat × Nat)) (h : AHeap) (nx : Nat) : F19_J2 call Y lf x2 x3a x3n x3c x11 h nx =
    F19_L4 call Y lf lf x2 x3a x3n x3c x11 0 h (nx + 1) := F19_J2_eq' go1 call Y lf x2 x3a x3n x3c x11 h nx

theorem F19_J3_eq' (J : StepF (AV × AHeap × Nat) → StepF (AV × AHeap × Nat)) (call : YldF → CallF) (Y : YldF) (lf : Nat) (x0a : Option (Nat × Nat)) (x0n : Nat) (x0c : Bool) (x1 : Int) (x2 : Int) (x3a : Option (Nat × Nat)) (x3n : Nat) (x3c : Bool) (x4a : Option (Nat × Nat)) (x4n : Nat) (x4c : Bool) (x11 : Option (Nat × Nat)) (h : AHeap) (nx : Nat) : F19_J3' go1 J call Y lf x0a x0n x0c x1 x2 x3a x3n x3c x4a x4n x4c x11 h nx =
    F19_L5' J J call Y lf lf x0a x0n x0c x1 x2 x3a x3n x3c x4a x4n x4c x11 0 h (nx + 1) := by kernel_rfl

theorem F19_J3_eq (call : YldF → CallF) (Y : YldF) (lf : Nat) (x0a : Option (Nat × Nat)) (x0n : Nat) (x0c : Bool) (x1 : Int) (x2 : Int) (x3a : Option (Nat × Nat)) (x3n : Nat) (x3c : Bool) (x4a : Option (Nat × Nat)) (x4n : Nat) (x4c : Bool) (x11 : Option (Nat × Nat)) (h : AHeap) (nx : Nat) : F19_J3 call Y lf x0a x0n x0c x1 x2 x3a x3n x3c x4a x4n x4c x11 h nx =
    F19_L5 call Y lf lf x0a x0n x0c x1 x2 x3a x3n x3c x4a x4n x4c x11 0 h (nx + 1) := F19_J3_eq' go1 call Y lf x0a x0n x0c x1 x2 x3a x3n x3c x4a x4n x4c x11 h nx

theorem F19_L4_eq' (J : StepF (AV × AHeap × Nat) → StepF (AV × AHeap × Nat)) (call : YldF → CallF) (Y : YldF) (lf : Nat) (n0 : Nat) (x2 : Int) (x3a : Option (Nat × Nat)) (x3n : Nat) (x3c : Bool) (x11 : Option (Nat × Nat)) (x12 : Int) (h : AHeap) (nx : Nat) : F19_L4' go1 J call Y lf (n0 + 1) x2 x3a x3n x3c x11 x12 h nx =
    if (decide ((x12 : Int) < 64)) = true then
    (if (decide (((wrapA .i64 (x2 + x12)) : Int) < ((x3n : Nat) : Int))) = true then
    (F19_J6' J J call Y lf n0 x2 x3a x3n x3c x11 x12 h (nx + 10))
    else
    (some ((.bool true), h, (nx + 11))))
    else
    (some ((.bool true), h, (nx + 11))) := by kernel_rfl

theorem F19_L4_eq (call : YldF → CallF) (Y : YldF) (lf : Nat) (n0 : Nat) (x2 : Int) (x3a : Option (Nat × Nat)) (x3n : Nat) (x3c : Bool) (x11 : Option (Nat × Nat)) (x12 : Int) (h : AHeap) (nx : Nat) : F19_L4 call Y lf (n0 + 1) x2 x3a x3n x3c x11 x12 h nx =
    if (decide ((x12 : Int) < 64)) = true then
    (if (decide (((wrapA .i64 (x2 + x12)) : Int) < ((x3n : Nat) : Int))) = true then
    (F19_J6 call Y lf n0 x2 x3a x3n x3c x11 x12 h (nx + 10))
    else
    (some ((.bool true), h, (nx + 11))))
    else
    (some ((.bool true), h, (nx + 11))) := F19_L4_eq' go1 call Y lf n0 x2 x3a x3n x3c x11 x12 h nx

theorem F19_L4_zero (call : YldF → CallF) (Y : YldF) (lf : Nat) (x2 : Int) (x3a : Option (Nat × Nat)) (x3n : Nat) (x3c : Bool) (x11 : Option (Nat × Nat)) (x12 : Int) (h : AHeap) (nx : Nat) : F19_L4 call Y lf 0 x2 x3a x3n x3c x11 x12 h nx = none := by kernel_rfl

theorem F19_L5_eq' (J : StepF (AV × AHeap × Nat) → StepF (AV × AHeap × Nat)) (call : YldF → CallF) (Y : YldF) (lf : Nat) (n0 : Nat) (x0a : Option (Nat × Nat)) (x0n : Nat) (x0c : Bool) (x1 : Int) (x2 : Int) (x3a : Option (Nat × Nat)) (x3n : Nat) (x3c : Bool) (x4a : Option (Nat × Nat)) (x4n : Nat) (x4c : Bool) (x11 : Option (Nat × Nat)) (x13 : Int) (h : AHeap) (nx : Nat) : F19_L5' go1 J call Y lf (n0 + 1) x0a x0n x0c x1 x2 x3a x3n x3c x4a x4n x4c x11 x13 h nx =
    if (decide ((x13 : Int) < 4)) = true then
    ((x11).bind fun p1 =>
    (ldA h p1.1 (p1.2 + 3)).bind fun v2 =>
    (asSl v2).bind fun s3 =>
    (s3.1).bind fun p4 =>
    if 0 ≤ (x13 : Int) ∧ x13 < ((s3.2.1 : Nat) : Int) then
    ((ldA h p4.1 (p4.2 + Int.toNat x13 * 1)).bind fun v5 =>
    (asI .i64 v5).bind fun n6 =>
    if ((n6 : Int) == (-1)) = true then
    (F19_L5' J J call Y lf n0 x0a x0n x0c x1 x2 x3a x3n x3c x4a x4n x4c x11 (wrapA .i64 (x13 + 1)) h (nx + 13))
    else
    (if (decide ((n6 : Int) ≤ x1)) = true then
    (some ((.bool false), h, (nx + 41)))
    else
    (if (decide ((n6 : Int) ≥ ((x0n : Nat) : Int))) = true then
    (some ((.bool false), h, (nx + 41)))
    else
    ((x0a).bind fun p7 =>
    if 0 ≤ (n6 : Int) ∧ n6 < ((x0n : Nat) : Int) then
    ((ldA h p7.1 ((p7.2 + Int.toNat n6 * 5) + 2)).bind fun v8 =>
    (asI .i64 v8).bind fun n9 =>
    (x11).bind fun p10 =>
    (ldA h p10.1 (p10.2 + 2)).bind fun v11 =>
    (asI .i64 v11).bind fun n12 =>
    if ((n9 : Int) != (wrapA .i64 (n12 - 1))) = true then
    (some ((.bool false), h, (nx + 41)))
    else
    ((x0a).bind fun p13 =>
    if 0 ≤ (n6 : Int) ∧ n6 < ((x0n : Nat) : Int) then
    ((ldA h p13.1 ((p13.2 + Int.toNat n6 * 5) + 1)).bind fun v14 =>
    (asI .i64 v14).bind fun n15 =>
    (x11).bind fun p16 =>
    (ldA h p16.1 (p16.2 + 1)).bind fun v17 =>
    (asI .i64 v17).bind fun n18 =>
    if (decide ((n15 : Int) > n18)) = true then
    (some ((.bool false), h, (nx + 41)))
    else
    (F19_J7' J J call Y lf n0 x0a x0n x0c x1 x2 x3a x3n x3c x4a x4n x4c x11 x13 n6 h (nx + 40)))
    else none))
    else none))))
    else none)
    else
    (some ((.bool true), h, (nx + 3))) := by kernel_rfl

theorem F19_L5_eq (call : YldF → CallF) (Y : YldF) (lf : Nat) (n0 : Nat) (x0a : Option (Nat × Nat)) (x0n : Nat) (x0c : Bool) (x1 : Int) (x2 : Int) (x3a : Option (Nat × Nat)) (x3n : Nat) (x3c : Bool) (x4a : Option (Nat × Nat)) (x4n : Nat) (x4c : Bool) (x11 : Option (Nat × Nat)) (x13 : Int) (h : AHeap) (nx : Nat) : F19_L5 call Y lf (n0 + 1) x0a x0n x0c x1 x2 x3a x3n x3c x4a x4n x4c x11 x13 h nx =
    if (decide ((x13 : Int) < 4)) = true then
    ((x11).bind fun p1 =>
    (ldA h p1.1 (p1.2 + 3)).bind fun v2 =>
    (asSl v2).bind fun s3 =>
    (s3.1).bind fun p4 =>
    if 0 ≤ (x13 : Int) ∧ x13 < ((s3.2.1 : Nat) : Int) then
    ((ldA h p4.1 (p4.2 + Int.toNat x13 * 1)).bind fun v5 =>
    (asI .i64 v5).bind fun n6 =>
    if ((n6 : Int) == (-1)) = true then
    (F19_L5 call Y lf n0 x0a x0n x0c x1 x2 x3a x3n x3c x4a x4n x4c x11 (wrapA .i64 (x13 + 1)) h (nx + 13))
    else
    (if (decide ((n6 : Int) ≤ x1)) = true then
    (some ((.bool false), h, (nx + 41)))
    else
    (if (decide ((n6 : Int) ≥ ((x0n : Nat) : Int))) = true then
    (some ((.bool false), h, (nx + 41)))
    else
    ((x0a).bind fun p7 =>
    if 0 ≤ (n6 : Int) ∧ n6 < ((x0n : Nat) : Int) then
    ((ldA h p7.1 ((p7.2 + Int.toNat n6 * 5) + 2)).bind fun v8 =>
    (asI .i64 v8).bind fun n9 =>
    (x11).bind fun p10 =>
    (ldA h p10.1 (p10.2 + 2)).bind fun v11 =>
    (asI .i64 v11).bind fun n12 =>
    if ((n9 : Int) != (wrapA .i64 (n12 - 1))) = true then
    (some ((.bool false), h, (nx + 41)))
    else
    ((x0a).bind fun p13 =>
    if 0 ≤ (n6 : Int) ∧ n6 < ((x0n : Nat) : Int) then
    ((ldA h p13.1 ((p13.2 + Int.toNat n6 * 5) + 1)).bind fun v14 =>
    (asI .i64 v14).bind fun n15 =>
    (x11).bind fun p16 =>
    (ldA h p16.1 (p16.2 + 1)).bind fun v17 =>
    (asI .i64 v17).bind fun n18 =>
    if (decide ((n15 : Int) > n18)) = true then
    (some ((.bool false), h, (nx + 41)))
    else
    (F19_J7 call Y lf n0 x0a x0n x0c x1 x2 x3a x3n x3c x4a x4n x4c x11 x13 n6 h (nx + 40)))
    else none))
    else none))))
    else none)
    else
    (some ((.bool true), h, (nx + 3))) := F19_L5_eq' go1 call Y lf n0 x0a x0n x0c x1 x2 x3a x3n x3c x4a x4n x4c x11 x13 h nx

theorem F19_L5_zero (call : YldF → CallF) (Y : YldF) (lf : Nat) (x0a : Option (Nat × Nat)) (x0n : Nat) (x0c : Bool) (x1 : Int) (x2 : Int) (x3a : Option (Nat × Nat)) (x3n : Nat) (x3c : Bool) (x4a : Option (Nat × Nat)) (x4n : Nat) (x4c : Bool) (x11 : Option (Nat × Nat)) (x13 : Int) (h : AHeap) (nx : Nat) : F19_L5 call Y lf 0 x0a x0n x0c x1 x2 x3a x3n x3c x4a x4n x4c x11 x13 h nx = none := by kernel_rfl

theorem F19_J6_eq' (J : StepF (AV × AHeap × Nat) → StepF (AV × AHeap × Nat)) (call : YldF → CallF) (Y : YldF) (lf : Nat) (n0 : Nat) (x2 : Int) (x3a : Option (Nat × Nat)) (x3n : Nat) (x3c : Bool) (x11 : Option (Nat × Nat)) (x12 : Int) (h : AHeap) (nx : Nat) : F19_J6' go1 J call Y lf n0 x2 x3a x3n x3c x11 x12 h nx =
    (x11).bind fun p1 =>
    (ldA h p1.1 (p1.2 + 4)).bind fun v2 =>
    (asSl v2).bind fun s3 =>
    (s3.1).bind fun p4 =>
    if 0 ≤ (x12 : Int) ∧ x12 < ((s3.2.1 : Nat) : Int) then
    ((ldA h p4.1 (p4.2 + Int.toNat x12 * 1)).bind fun v5 =>
    (asI .u8 v5).bind fun n6 =>
    (x3a).bind fun p7 =>
    if 0 ≤ ((wrapA .i64 (x2 + x12)) : Int) ∧ (wrapA .i64 (x2 + x12)) < ((x3n : Nat) : Int) then
    ((stA h p7.1 (p7.2 + Int.toNat (wrapA .i64 (x2 + x12)) * 1) (.int .u8 n6) 1).bind fun b8 =>
    let h9 := AHeap.put h p7.1 (some b8)
    F19_L4' J J call Y lf n0 x2 x3a x3n x3c x11 (wrapA .i64 (x12 + 1)) h9 (nx + 14))
    else none)
    else none := by kernel_rfl

theorem F19_J6_eq (call : YldF → CallF) (Y : YldF) (lf : Nat) (n0 : Nat) (x2 : Int) (x3a : Option (Nat × Nat)) (x3n : Nat) (x3c : Bool) (x11 : Option (Nat × Nat)) (x12 : Int) (h : AHeap) (nx : Nat) : F19_J6 call Y lf n0 x2 x3a x3n x3c x11 x12 h nx =
    (x11).bind fun p1 =>
    (ldA h p1.1 (p1.2 + 4)).bind fun v2 =>
    (asSl v2).bind fun s3 =>
    (s3.1).bind fun p4 =>
    if 0 ≤ (x12 : Int) ∧ x12 < ((s3.2.1 : Nat) : Int) then
    ((ldA h p4.1 (p4.2 + Int.toNat x12 * 1)).bind fun v5 =>
    (asI .u8 v5).bind fun n6 =>
    (x3a).bind fun p7 =>
    if 0 ≤ ((wrapA .i64 (x2 + x12)) : Int) ∧ (wrapA .i64 (x2 + x12)) < ((x3n : Nat) : Int) then
    ((stA h p7.1 (p7.2 + Int.toNat (wrapA .i64 (x2 + x12)) * 1) (.int .u8 n6) 1).bind fun b8 =>
    let h9 := AHeap.put h p7.1 (some b8)
    F19_L4 call Y lf n0 x2 x3a x3n x3c x11 (wrapA .i64 (x12 + 1)) h9 (nx + 14))
    else none)
    else none := F19_J6_eq' go1 call Y lf n0 x2 x3a x3n x3c x11 x12 h nx

theorem F19_J7_eq' (J : StepF (AV × AHeap × Nat) → StepF (AV × AHeap × Nat)) (call : YldF → CallF) (Y : YldF) (lf : Nat) (n0 : Nat) (x0a : Option (Nat × Nat)) (x0n : Nat) (x0c : Bool) (x1 : Int) (x2 : Int) (x3a : Option (Nat × Nat)) (x3n : Nat) (x3c : Bool) (x4a : Option (Nat × Nat)) (x4n : Nat) (x4c : Bool) (x11 : Option (Nat × Nat)) (x13 : Int) (x14 : Int) (h : AHeap) (nx : Nat) : F19_J7' go1 J call Y lf n0 x0a x0n x0c x1 x2 x3a x3n x3c x4a x4n x4c x11 x13 x14 h nx =
    (x4a).bind fun p1 =>
    if 0 ≤ (x14 : Int) ∧ x14 < ((x4n : Nat) : Int) then
    ((ldA h p1.1 (p1.2 + Int.toNat x14 * 1)).bind fun v2 =>
    (asI .i64 v2).bind fun n3 =>
    (x4a).bind fun p4 =>
    if 0 ≤ (x14 : Int) ∧ x14 < ((x4n : Nat) : Int) then
    ((stA h p4.1 (p4.2 + Int.toNat x14 * 1) (.int .i64 (wrapA .i64 (n3 + 1))) 1).bind fun b5 =>
    let h6 := AHeap.put h p4.1 (some b5)
    (x4a).bind fun p7 =>
    if 0 ≤ (x14 : Int) ∧ x14 < ((x4n : Nat) : Int) then
    ((ldA h6 p7.1 (p7.2 + Int.toNat x14 * 1)).bind fun v8 =>
    (asI .i64 v8).bind fun n9 =>
    if (decide ((n9 : Int) > 1)) = true then
    (some ((.bool false), h6, (nx + 29)))
    else
    ((x11).bind fun p10 =>
    (ldA h6 p10.1 (p10.2 + 2)).bind fun v11 =>
    (asI .i64 v11).bind fun n12 =>
    (call Y 14 [(.int .i64 (wrapA .i64 (n12 - 1)))] h6 (nx + 28)).bind fun r13 =>
    (asI .i64 r13.1).bind fun n14 =>
    (call Y 19 [(.slice x0a x0n x0c), (.int .i64 x14), (.int .i64 (wrapA .i64 (x2 + (wrapA .i64 (x13 * n14))))), (.slice x3a x3n x3c), (.slice x4a x4n x4c)] r13.2.1 r13.2.2).bind fun r15 =>
    (asB r15.1).bind fun t16 =>
    if (!t16) = true then
    (some ((.bool false), r15.2.1, (r15.2.2 + 1)))
    else
    (F19_L5' J J call Y lf n0 x0a x0n x0c x1 x2 x3a x3n x3c x4a x4n x4c x11 (wrapA .i64 (x13 + 1)) r15.2.1 (r15.2.2 + 3))))
    else none)
    else none)
    else none := by kernel_rfl

theorem F19_J7_eq (call : YldF → CallF) (Y : YldF) (lf : Nat) (n0 : Nat) (x0a : Option (Nat × Nat)) (x0n : Nat) (x0c : Bool) (x1 : Int) (x2 : Int) (x3a : Option (Nat × Nat)) (x3n : Nat) (x3c : Bool) (x4a : Option (Nat × Nat)) (x4n : Nat) (x4c : Bool) (x11 : Option (Nat × Nat)) (x13 : Int) (x14 : Int) (h : AHeap) (nx : Nat) : F19_J7 call Y lf n0 x0a x0n x0c x1 x2 x3a x3n x3c x4a x4n x4c x11 x13 x14 h nx =
    (x4a).bind fun p1 =>
    if 0 ≤ (x14 : Int) ∧ x14 < ((x4n : Nat) : Int) then
    ((ldA h p1.1 (p1.2 + Int.toNat x14 * 1)).bind fun v2 =>
    (asI .i64 v2).bind fun n3 =>
    (x4a).bind fun p4 =>
    if 0 ≤ (x14 : Int) ∧ x14 < ((x4n : Nat) : Int) then
    ((stA h p4.1 (p4.2 + Int.toNat x14 * 1) (.int .i64 (wrapA .i64 (n3 + 1))) 1).bind fun b5 =>
    let h6 := AHeap.put h p4.1 (some b5)
    (x4a).bind fun p7 =>
    if 0 ≤ (x14 : Int) ∧ x14 < ((x4n : Nat) : Int) then
    ((ldA h6 p7.1 (p7.2 + Int.toNat x14 * 1)).bind fun v8 =>
    (asI .i64 v8).bind fun n9 =>
    if (decide ((n9 : Int) > 1)) = true then
    (some ((.bool false), h6, (nx + 29)))
    else
    ((x11).bind fun p10 =>
    (ldA h6 p10.1 (p10.2 + 2)).bind fun v11 =>
    (asI .i64 v11).bind fun n12 =>
    (call Y 14 [(.int .i64 (wrapA .i64 (n12 - 1)))] h6 (nx + 28)).bind fun r13 =>
    (asI .i64 r13.1).bind fun n14 =>
    (call Y 19 [(.slice x0a x0n x0c), (.int .i64 x14), (.int .i64 (wrapA .i64 (x2 + (wrapA .i64 (x13 * n14))))), (.slice x3a x3n x3c), (.slice x4a x4n x4c)] r13.2.1 r13.2.2).bind fun r15 =>
    (asB r15.1).bind fun t16 =>
    if (!t16) = true then
    (some ((.bool false), r15.2.1, (r15.2.2 + 1)))
    else
    (F19_L5 call Y lf n0 x0a x0n x0c x1 x2 x3a x3n x3c x4a x4n x4c x11 (wrapA .i64 (x13 + 1)) r15.2.1 (r15.2.2 + 3))))
    else none)
    else none)
    else none := F19_J7_eq' go1 call Y lf n0 x0a x0n x0c x1 x2 x3a x3n x3c x4a x4n x4c x11 x13 x14 h nx

theorem F19_eq' (J : StepF (AV × AHeap × Nat) → StepF (AV × AHeap × Nat)) (n : Nat) (Y : YldF) (x0a : Option (Nat × Nat)) (x0n : Nat) (x0c : Bool) (x1 : Int) (x2 : Int) (x3a : Option (Nat × Nat)) (x3n : Nat) (x3c : Bool) (x4a : Option (Nat × Nat)) (x4n : Nat) (x4c : Bool) (h : AHeap) (nx : Nat) : rootJ J Try.prog keepT (callP Try.prog keepT n) Y n 19 [(.slice x0a x0n x0c), (.int .i64 x1), (.int .i64 x2), (.slice x3a x3n x3c), (.slice x4a x4n x4c)] h nx =
    (x0a).bind fun p1 =>
    if 0 ≤ (x1 : Int) ∧ x1 < ((x0n : Nat) : Int) then
    ((ldR h p1.1 (p1.2 + Int.toNat x1 * 5) 5).bind fun l2 =>
    (asAgg 5 (AV.agg l2)).bind fun d3 =>
    (asI .i64 (d3.getD 0 .bad)).bind fun n4 =>
    (asI .i64 (d3.getD 1 .bad)).bind fun n5 =>
    (asI .i64 (d3.getD 2 .bad)).bind fun n6 =>
    (asSl (d3.getD 3 .bad)).bind fun s7 =>
    (asSl (d3.getD 4 .bad)).bind fun s8 =>
    let h9 := AHeap.put h (nx + 5) (some ⟨[(.int .i64 0), (.int .i64 0), (.int .i64 0), (.slice none 0 false), (.slice none 0 false)], 5, true⟩)
    (stA h9 (nx + 5) 0 (.agg [(.int .i64 n4), (.int .i64 n5), (.int .i64 n6), (.slice s7.1 s7.2.1 s7.2.2), (.slice s8.1 s8.2.1 s8.2.2)]) 5).bind fun b10 =>
    let h11 := AHeap.put h9 (nx + 5) (some b10)
    (ldA h11 (nx + 5) 2).bind fun v12 =>
    (asI .i64 v12).bind fun n13 =>
    if (decide ((n13 : Int) < 0)) = true then
    (some ((.bool false), h11, (nx + 16)))
    else
    ((ldA h11 (nx + 5) 2).bind fun v14 =>
    (asI .i64 v14).bind fun n15 =>
    if (decide ((n15 : Int) > 6)) = true then
    (some ((.bool false), h11, (nx + 16)))
    else
    (F19_J1' J J (callP Try.prog keepT n) Y n x0a x0n x0c x1 x2 x3a x3n x3c x4a x4n x4c (some ((nx + 5), 0)) h11 (nx + 15))))
    else none := by kernel_rfl

/-- quickset/quicksetkeep.spread -/
theorem F19_eq (n : Nat) (Y : YldF) (x0a : Option (Nat × Nat)) (x0n : Nat) (x0c : Bool) (x1 : Int) (x2 : Int) (x3a : Option (Nat × Nat)) (x3n : Nat) (x3c : Bool) (x4a : Option (Nat × Nat)) (x4n : Nat) (x4c : Bool) (h : AHeap) (nx : Nat) : callP Try.prog keepT (n + 1) Y 19 [(.slice x0a x0n x0c), (.int .i64 x1), (.int .i64 x2), (.slice x3a x3n x3c), (.slice x4a x4n x4c)] h nx =
    (x0a).bind fun p1 =>
    if 0 ≤ (x1 : Int) ∧ x1 < ((x0n : Nat) : Int) then
    ((ldR h p1.1 (p1.2 + Int.toNat x1 * 5) 5).bind fun l2 =>
    (asAgg 5 (AV.agg l2)).bind fun d3 =>
    (asI .i64 (d3.getD 0 .bad)).bind fun n4 =>
    (asI .i64 (d3.getD 1 .bad)).bind fun n5 =>
    (asI .i64 (d3.getD 2 .bad)).bind fun n6 =>
    (asSl (d3.getD 3 .bad)).bind fun s7 =>
    (asSl (d3.getD 4 .bad)).bind fun s8 =>
    let h9 := AHeap.put h (nx + 5) (some ⟨[(.int .i64 0), (.int .i64 0), (.int .i64 0), (.slice none 0 false), (.slice none 0 false)], 5, true⟩)
    (stA h9 (nx + 5) 0 (.agg [(.int .i64 n4), (.int .i64 n5), (.int .i64 n6), (.slice s7.1 s7.2.1 s7.2.2), (.slice s8.1 s8.2.1 s8.2.2)]) 5).bind fun b10 =>
    let h11 := AHeap.put h9 (nx + 5) (some b10)
    (ldA h11 (nx + 5) 2).bind fun v12 =>
    (asI .i64 v12).bind fun n13 =>
    if (decide ((n13 : Int) < 0)) = true then
    (some ((.bool false), h11, (nx + 16)))
    else
    ((ldA h11 (nx + 5) 2).bind fun v14 =>
    (asI .i64 v14).bind fun n15 =>
    if (decide ((n15 : Int) > 6)) = true then
    (some ((.bool false), h11, (nx + 16)))
    else
    (F19_J1 (callP Try.prog keepT n) Y n x0a x0n x0c x1 x2 x3a x3n x3c x4a x4n x4c (some ((nx + 5), 0)) h11 (nx + 15))))
    else none := F19_eq' go1 n Y x0a x0n x0c x1 x2 x3a x3n x3c x4a x4n x4c h nx

end Go.Proofs.Ytogmdfbamgjjfaa.T
