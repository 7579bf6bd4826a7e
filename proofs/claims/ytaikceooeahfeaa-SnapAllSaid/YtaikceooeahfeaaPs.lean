/- Printed by mp.py: functions of the program as plain Lean, each by the kernel. -/
import Derived.Test.YtaikceooeahfeaaTG
import Derived.Test.YtaikceooeahfeaaProg
import Derived.KernelRfl
set_option linter.unusedVariables false
set_option linter.unusedSimpArgs false
namespace Go.Proofs.Ytaikceooeahfeaa.T
open Go Go.RowKit Go.Proofs
set_option maxRecDepth 100000

def keepL : List (Nat × List (Nat × Bool × List Nat)) := [(3, [(0, false, [0]), (1, false, [0]), (2, false, [3]), (3, false, [3, 4, 5]), (4, false, []), (5, false, [3, 4]), (6, false, [3, 4, 6]), (7, false, [3, 4, 6, 7]), (8, false, [3, 4, 6, 7, 8]), (9, false, [3, 4, 6, 7, 8, 9]), (10, false, [3, 4, 6, 7, 8, 9, 10]), (11, false, [3, 4, 6, 7, 8, 9, 10]), (12, false, [3, 4, 6, 7, 8, 9, 10]), (13, false, [3, 4, 6, 7, 8, 9, 10]), (14, false, [3, 4, 6, 7, 8, 9, 10, 42]), (15, false, [3, 4, 6, 7, 8, 9, 10]), (16, false, [3, 4, 6, 7, 8, 9, 10]), (17, false, [3, 4, 6, 7, 8, 9, 10, 42]), (18, false, [3, 4, 6, 7, 8, 9, 10]), (19, false, []), (20, true, [3, 4, 6, 7, 8, 9, 10]), (21, false, [3, 4, 6, 7, 8, 9, 10, 42]), (22, false, [3, 4, 6, 7, 8, 9, 10]), (23, false, [3, 4, 6, 7, 8, 9, 10]), (24, false, [3, 4, 6, 7, 8, 9, 10, 42]), (25, false, [3, 4, 6, 7, 8, 9, 10]), (26, false, []), (27, true, [3, 4, 6, 7, 8, 9, 10]), (28, true, [3, 4, 6, 7, 8, 9, 10]), (29, false, [3, 4, 6, 7, 8, 9, 10, 11]), (30, false, [3, 4, 6, 7, 8, 9, 10, 11]), (31, false, [3, 4, 6, 7, 8, 9, 10, 11]), (32, false, [3, 4, 6, 7, 8, 9, 10, 11, 12]), (33, false, []), (34, true, [3, 4, 6, 7, 8, 9, 10, 11, 12]), (35, false, [3, 4, 6, 7, 8, 9, 10, 11, 12]), (36, false, [3, 4, 6, 7, 8, 9, 10, 11, 12, 13]), (37, false, [3, 4, 6, 7, 8, 9, 10, 11, 12, 13]), (38, false, [3, 4, 6, 7, 8, 9, 10, 11, 12, 13]), (39, false, []), (40, false, []), (41, false, [14, 15])]),
  (4, [(0, false, [0]), (1, false, [0]), (2, false, [3]), (3, false, [3, 4]), (4, false, [3, 4]), (5, false, [3, 4]), (6, false, [3]), (7, false, [3, 5, 6]), (8, false, []), (9, false, [3, 5]), (10, false, [3, 5, 7]), (11, false, [3, 5, 7, 8]), (12, false, [3, 5, 7, 8, 9]), (13, false, [3, 5, 7, 8, 9]), (14, false, [3, 5, 7, 8, 9]), (15, false, [3, 5, 7, 8, 9]), (16, true, [3, 5, 7, 8, 9]), (17, false, [3, 5, 7, 8, 9, 10]), (18, false, [3, 5, 7, 8, 9, 10]), (19, false, [3, 5, 7, 8, 9, 10]), (20, false, [3, 5, 7, 8, 9, 10, 11]), (21, false, []), (22, true, [3, 5, 7, 8, 9, 10, 11]), (23, false, [7, 8]), (24, false, [7, 8, 12]), (25, false, [7, 8, 12]), (26, false, [7, 8, 12]), (27, false, []), (28, false, []), (29, false, [13, 14])]),
  (5, [(0, false, [0]), (1, false, [0]), (2, false, [3]), (3, false, [3, 4, 5]), (4, false, []), (5, false, [3, 4]), (6, false, [3, 4, 6]), (7, false, [3, 4, 6, 7]), (8, false, [3, 4, 6, 7, 8]), (9, false, [3, 4, 6, 7, 8, 9]), (10, false, [3, 4, 6, 7, 8, 9]), (11, false, [3, 4, 6, 7, 8, 9]), (12, false, [3, 4, 6, 7, 8, 9]), (13, false, []), (14, false, [3, 4, 6, 7, 8, 9]), (15, false, [3, 4, 6, 7, 8, 9, 46]), (16, false, [3, 4, 6, 7, 8, 9]), (17, false, [3, 4, 6, 7, 8, 9, 46]), (18, false, [3, 4, 6, 7, 8, 9]), (19, false, [3, 4, 6, 7, 8, 9]), (20, false, [3, 4, 6, 7, 8, 9, 46]), (21, false, [3, 4, 6, 7, 8, 9]), (22, false, []), (23, false, [3, 4, 6, 7, 8, 9]), (24, false, [3, 4, 6, 7, 8, 9, 46]), (25, false, [3, 4, 6, 7, 8, 9]), (26, false, []), (27, false, [3, 4, 6, 7, 8, 9]), (28, false, [3, 4, 6, 7, 8, 9, 10]), (29, false, [3, 4, 6, 7, 8, 9, 10, 11]), (30, false, [3, 4, 6, 7, 8, 9, 10, 11]), (31, false, [3, 4, 6, 7, 8, 9, 10, 11]), (32, false, [3, 4, 6, 7, 8, 9, 11]), (33, false, [3, 4, 6, 7, 8, 9, 10]), (34, false, []), (35, false, []), (36, false, [12, 13])]),
  (6, [(0, false, [0, 1]), (1, false, [0, 1]), (2, false, [0, 1, 5]), (3, false, [0, 1, 5, 6]), (4, false, [0, 1, 5, 6, 7]), (5, false, [0, 1, 5, 6, 7]), (6, true, [0, 1, 5, 6, 7]), (7, false, [6])]),
  (7, [(0, false, [0]), (1, false, [0]), (2, false, [0, 4, 5])]),
  (8, [(0, false, [0, 1]), (1, false, [0, 1]), (2, false, [0, 1]), (3, false, [0, 1]), (4, false, [0])]),
  (9, [(0, false, [0]), (1, false, [0]), (2, false, []), (3, false, [0]), (4, false, [0, 4]), (5, false, [0, 4, 5]), (6, false, [4, 5, 13, 14, 15]), (7, false, [4, 5, 13, 14, 15]), (8, false, [4, 5, 7, 13, 14, 15]), (9, false, [4, 5, 7, 13, 14, 15]), (10, false, [4, 5, 13, 14, 15]), (11, false, [5])]),
  (10, [(0, false, [0, 1]), (1, false, [0, 3, 4]), (2, false, [4]), (3, false, [0, 3, 4, 6]), (4, false, [0, 4]), (5, false, [4]), (6, false, [0, 4]), (7, false, [0, 3, 4, 6]), (8, false, [0, 3, 4]), (9, false, [0, 3, 4, 6]), (10, false, [0, 4]), (11, false, [4]), (12, false, [0, 4]), (13, false, [0, 4]), (14, false, [0, 3, 4, 6]), (15, false, [0, 3, 4]), (16, false, [4])]),
  (11, [(0, false, [0]), (1, false, [0, 2])]),
  (12, [(0, false, [0, 1]), (1, false, [0, 1, 4]), (2, false, [4]), (3, true, [0, 1, 4]), (4, false, [0, 1, 4]), (5, false, [0, 1, 4, 5]), (6, false, [1, 4]), (7, true, [0, 1, 4, 5]), (8, false, [1, 4, 6]), (9, false, [4])]),
  (13, [(0, false, [0, 1]), (1, false, [0, 3, 4]), (2, false, [0, 4, 5]), (3, false, [4]), (4, false, [0, 4, 5]), (5, false, [0, 4, 5, 6]), (6, false, [0, 4, 5]), (7, true, [0, 4, 5, 6]), (8, false, [0, 4, 5, 6, 7]), (9, false, [0, 4, 5, 6, 7, 37, 38, 39]), (10, false, [0, 4, 5, 6, 7, 37, 38, 39]), (11, false, [0, 4, 5, 6, 7, 9, 37, 38, 39]), (12, false, [0, 4, 5, 6, 7, 9, 37, 38, 39]), (13, false, [0, 4, 5, 6, 7, 9, 37, 38, 39]), (14, false, [0, 4, 5, 6, 7, 37, 38, 39]), (15, false, [0, 4, 5, 7]), (16, false, [4, 7]), (17, false, [4, 7])]),
  (14, [(0, false, [0, 1]), (1, false, [0, 1]), (2, false, [0, 1, 7, 8]), (3, false, [0, 1, 7, 8]), (4, false, [0, 1, 5, 7, 8]), (5, false, [5]), (6, false, [0, 1, 7, 8]), (7, false, [])]),
  (15, [(0, false, [0, 1]), (1, false, [1, 2])]),
  (16, [(0, false, [0, 1, 2]), (1, false, [0, 1, 2]), (2, false, [0, 1, 2]), (3, false, [0]), (4, false, [0, 1, 2]), (5, false, [0, 1, 2, 7]), (6, false, [0, 7]), (7, false, [0])]),
  (17, [(9000000, true, [1])])]
def keepT : Nat → Keep := keepOf keepL

noncomputable def c3 : Code := (Try.f3.body).getD .skip

noncomputable def r3 : List ResultVar := Try.f3.results.toList

noncomputable def F3_L1' (W J : StepF (AV × AHeap × Nat) → StepF (AV × AHeap × Nat)) (call : YldF → CallF) (Y : YldF) (lf : Nat) (n0 : Nat) (x3a : Option (Nat × Nat)) (x3n : Nat) (x3c : Option Nat) (x4a : Option (Nat × Nat)) (x4n : Nat) (x4c : Option Nat) (x6a : Option (Nat × Nat)) (x6n : Nat) (x6c : Option Nat) (x7a : Option (Nat × Nat)) (x7n : Nat) (x7c : Option Nat) (x8a : Option (Nat × Nat)) (x8n : Nat) (x8c : Option Nat) (x9a : Option (Nat × Nat)) (x9n : Nat) (x9c : Option Nat) (x10 : Int) (h : AHeap) (nx : Nat) : Option (AV × AHeap × Nat) :=
  goK W J drawK (machOf Try.prog) call Y (keepT 3) lf c3 [1, 1, 1, 1, 1, 1, 1, 1, 0, 1, 0, 9] [n0] (retK (machOf Try.prog) ⟨c3, 211, r3, keepT 3⟩) ⟨211, mkL [(3, (.slice x3a x3n x3c)), (4, (.slice x4a x4n x4c)), (6, (.slice x6a x6n x6c)), (7, (.slice x7a x7n x7c)), (8, (.slice x8a x8n x8c)), (9, (.slice x9a x9n x9c)), (10, (.int .i64 x10))]⟩ h nx

noncomputable def F3_L1 (call : YldF → CallF) (Y : YldF) (lf : Nat) (n0 : Nat) (x3a : Option (Nat × Nat)) (x3n : Nat) (x3c : Option Nat) (x4a : Option (Nat × Nat)) (x4n : Nat) (x4c : Option Nat) (x6a : Option (Nat × Nat)) (x6n : Nat) (x6c : Option Nat) (x7a : Option (Nat × Nat)) (x7n : Nat) (x7c : Option Nat) (x8a : Option (Nat × Nat)) (x8n : Nat) (x8c : Option Nat) (x9a : Option (Nat × Nat)) (x9n : Nat) (x9c : Option Nat) (x10 : Int) (h : AHeap) (nx : Nat) : Option (AV × AHeap × Nat) := F3_L1' go1 go1 call Y lf n0 x3a x3n x3c x4a x4n x4c x6a x6n x6c x7a x7n x7c x8a x8n x8c x9a x9n x9c x10 h nx

noncomputable def F3_J2' (W J : StepF (AV × AHeap × Nat) → StepF (AV × AHeap × Nat)) (call : YldF → CallF) (Y : YldF) (lf : Nat) (n0 : Nat) (x3a : Option (Nat × Nat)) (x3n : Nat) (x3c : Option Nat) (x4a : Option (Nat × Nat)) (x4n : Nat) (x4c : Option Nat) (x6a : Option (Nat × Nat)) (x6n : Nat) (x6c : Option Nat) (x7a : Option (Nat × Nat)) (x7n : Nat) (x7c : Option Nat) (x8a : Option (Nat × Nat)) (x8n : Nat) (x8c : Option Nat) (x9a : Option (Nat × Nat)) (x9n : Nat) (x9c : Option Nat) (x10 : Int) (h : AHeap) (nx : Nat) : Option (AV × AHeap × Nat) :=
  goK W J drawK (machOf Try.prog) call Y (keepT 3) lf c3 [1, 1, 1, 1, 1, 1, 1, 1, 0, 1, 0, 0, 1, 0, 0, 1] [n0] (retK (machOf Try.prog) ⟨c3, 211, r3, keepT 3⟩) ⟨211, mkL [(3, (.slice x3a x3n x3c)), (4, (.slice x4a x4n x4c)), (6, (.slice x6a x6n x6c)), (7, (.slice x7a x7n x7c)), (8, (.slice x8a x8n x8c)), (9, (.slice x9a x9n x9c)), (10, (.int .i64 x10))]⟩ h nx

noncomputable def F3_J2 (call : YldF → CallF) (Y : YldF) (lf : Nat) (n0 : Nat) (x3a : Option (Nat × Nat)) (x3n : Nat) (x3c : Option Nat) (x4a : Option (Nat × Nat)) (x4n : Nat) (x4c : Option Nat) (x6a : Option (Nat × Nat)) (x6n : Nat) (x6c : Option Nat) (x7a : Option (Nat × Nat)) (x7n : Nat) (x7c : Option Nat) (x8a : Option (Nat × Nat)) (x8n : Nat) (x8c : Option Nat) (x9a : Option (Nat × Nat)) (x9n : Nat) (x9c : Option Nat) (x10 : Int) (h : AHeap) (nx : Nat) : Option (AV × AHeap × Nat) := F3_J2' go1 go1 call Y lf n0 x3a x3n x3c x4a x4n x4c x6a x6n x6c x7a x7n x7c x8a x8n x8c x9a x9n x9c x10 h nx

noncomputable def F3_J3' (W J : StepF (AV × AHeap × Nat) → StepF (AV × AHeap × Nat)) (call : YldF → CallF) (Y : YldF) (lf : Nat) (n0 : Nat) (x3a : Option (Nat × Nat)) (x3n : Nat) (x3c : Option Nat) (x4a : Option (Nat × Nat)) (x4n : Nat) (x4c : Option Nat) (x6a : Option (Nat × Nat)) (x6n : Nat) (x6c : Option Nat) (x7a : Option (Nat × Nat)) (x7n : Nat) (x7c : Option Nat) (x8a : Option (Nat × Nat)) (x8n : Nat) (x8c : Option Nat) (x9a : Option (Nat × Nat)) (x9n : Nat) (x9c : Option Nat) (x10 : Int) (h : AHeap) (nx : Nat) : Option (AV × AHeap × Nat) :=
  goK W J drawK (machOf Try.prog) call Y (keepT 3) lf c3 [1, 1, 1, 1, 1, 1, 1, 1, 0, 1, 0, 0, 1, 0, 0, 0, 1, 0, 1, 0, 1, 1, 1, 0, 1] [n0] (retK (machOf Try.prog) ⟨c3, 211, r3, keepT 3⟩) ⟨211, mkL [(3, (.slice x3a x3n x3c)), (4, (.slice x4a x4n x4c)), (6, (.slice x6a x6n x6c)), (7, (.slice x7a x7n x7c)), (8, (.slice x8a x8n x8c)), (9, (.slice x9a x9n x9c)), (10, (.int .i64 x10))]⟩ h nx

noncomputable def F3_J3 (call : YldF → CallF) (Y : YldF) (lf : Nat) (n0 : Nat) (x3a : Option (Nat × Nat)) (x3n : Nat) (x3c : Option Nat) (x4a : Option (Nat × Nat)) (x4n : Nat) (x4c : Option Nat) (x6a : Option (Nat × Nat)) (x6n : Nat) (x6c : Option Nat) (x7a : Option (Nat × Nat)) (x7n : Nat) (x7c : Option Nat) (x8a : Option (Nat × Nat)) (x8n : Nat) (x8c : Option Nat) (x9a : Option (Nat × Nat)) (x9n : Nat) (x9c : Option Nat) (x10 : Int) (h : AHeap) (nx : Nat) : Option (AV × AHeap × Nat) := F3_J3' go1 go1 call Y lf n0 x3a x3n x3c x4a x4n x4c x6a x6n x6c x7a x7n x7c x8a x8n x8c x9a x9n x9c x10 h nx

noncomputable def F3_J4' (W J : StepF (AV × AHeap × Nat) → StepF (AV × AHeap × Nat)) (call : YldF → CallF) (Y : YldF) (lf : Nat) (n0 : Nat) (x3a : Option (Nat × Nat)) (x3n : Nat) (x3c : Option Nat) (x4a : Option (Nat × Nat)) (x4n : Nat) (x4c : Option Nat) (x6a : Option (Nat × Nat)) (x6n : Nat) (x6c : Option Nat) (x7a : Option (Nat × Nat)) (x7n : Nat) (x7c : Option Nat) (x8a : Option (Nat × Nat)) (x8n : Nat) (x8c : Option Nat) (x9a : Option (Nat × Nat)) (x9n : Nat) (x9c : Option Nat) (x10 : Int) (h : AHeap) (nx : Nat) : Option (AV × AHeap × Nat) :=
  goK W J drawK (machOf Try.prog) call Y (keepT 3) lf c3 [1, 1, 1, 1, 1, 1, 1, 1, 0, 1, 0, 0, 1, 0, 0, 0, 1, 0, 1, 0, 1, 1, 1, 1, 1, 1, 1, 0, 1] [n0] (retK (machOf Try.prog) ⟨c3, 211, r3, keepT 3⟩) ⟨211, mkL [(3, (.slice x3a x3n x3c)), (4, (.slice x4a x4n x4c)), (6, (.slice x6a x6n x6c)), (7, (.slice x7a x7n x7c)), (8, (.slice x8a x8n x8c)), (9, (.slice x9a x9n x9c)), (10, (.int .i64 x10))]⟩ h nx

noncomputable def F3_J4 (call : YldF → CallF) (Y : YldF) (lf : Nat) (n0 : Nat) (x3a : Option (Nat × Nat)) (x3n : Nat) (x3c : Option Nat) (x4a : Option (Nat × Nat)) (x4n : Nat) (x4c : Option Nat) (x6a : Option (Nat × Nat)) (x6n : Nat) (x6c : Option Nat) (x7a : Option (Nat × Nat)) (x7n : Nat) (x7c : Option Nat) (x8a : Option (Nat × Nat)) (x8n : Nat) (x8c : Option Nat) (x9a : Option (Nat × Nat)) (x9n : Nat) (x9c : Option Nat) (x10 : Int) (h : AHeap) (nx : Nat) : Option (AV × AHeap × Nat) := F3_J4' go1 go1 call Y lf n0 x3a x3n x3c x4a x4n x4c x6a x6n x6c x7a x7n x7c x8a x8n x8c x9a x9n x9c x10 h nx

noncomputable def F3_L5' (W J : StepF (AV × AHeap × Nat) → StepF (AV × AHeap × Nat)) (call : YldF → CallF) (Y : YldF) (lf : Nat) (n0 : Nat) (n1 : Nat) (x3a : Option (Nat × Nat)) (x3n : Nat) (x3c : Option Nat) (x4a : Option (Nat × Nat)) (x4n : Nat) (x4c : Option Nat) (x6a : Option (Nat × Nat)) (x6n : Nat) (x6c : Option Nat) (x7a : Option (Nat × Nat)) (x7n : Nat) (x7c : Option Nat) (x8a : Option (Nat × Nat)) (x8n : Nat) (x8c : Option Nat) (x9a : Option (Nat × Nat)) (x9n : Nat) (x9c : Option Nat) (x10 : Int) (x11 : Int) (h : AHeap) (nx : Nat) : Option (AV × AHeap × Nat) :=
  goK W J drawK (machOf Try.prog) call Y (keepT 3) lf c3 [1, 1, 1, 1, 1, 1, 1, 1, 0, 1, 0, 0, 1, 0, 0, 1, 1, 0, 9] [n0, n1] (retK (machOf Try.prog) ⟨c3, 211, r3, keepT 3⟩) ⟨211, mkL [(3, (.slice x3a x3n x3c)), (4, (.slice x4a x4n x4c)), (6, (.slice x6a x6n x6c)), (7, (.slice x7a x7n x7c)), (8, (.slice x8a x8n x8c)), (9, (.slice x9a x9n x9c)), (10, (.int .i64 x10)), (11, (.int .i64 x11))]⟩ h nx

noncomputable def F3_L5 (call : YldF → CallF) (Y : YldF) (lf : Nat) (n0 : Nat) (n1 : Nat) (x3a : Option (Nat × Nat)) (x3n : Nat) (x3c : Option Nat) (x4a : Option (Nat × Nat)) (x4n : Nat) (x4c : Option Nat) (x6a : Option (Nat × Nat)) (x6n : Nat) (x6c : Option Nat) (x7a : Option (Nat × Nat)) (x7n : Nat) (x7c : Option Nat) (x8a : Option (Nat × Nat)) (x8n : Nat) (x8c : Option Nat) (x9a : Option (Nat × Nat)) (x9n : Nat) (x9c : Option Nat) (x10 : Int) (x11 : Int) (h : AHeap) (nx : Nat) : Option (AV × AHeap × Nat) := F3_L5' go1 go1 call Y lf n0 n1 x3a x3n x3c x4a x4n x4c x6a x6n x6c x7a x7n x7c x8a x8n x8c x9a x9n x9c x10 x11 h nx

noncomputable def F3_J6' (W J : StepF (AV × AHeap × Nat) → StepF (AV × AHeap × Nat)) (call : YldF → CallF) (Y : YldF) (lf : Nat) (n0 : Nat) (n1 : Nat) (x3a : Option (Nat × Nat)) (x3n : Nat) (x3c : Option Nat) (x4a : Option (Nat × Nat)) (x4n : Nat) (x4c : Option Nat) (x6a : Option (Nat × Nat)) (x6n : Nat) (x6c : Option Nat) (x7a : Option (Nat × Nat)) (x7n : Nat) (x7c : Option Nat) (x8a : Option (Nat × Nat)) (x8n : Nat) (x8c : Option Nat) (x9a : Option (Nat × Nat)) (x9n : Nat) (x9c : Option Nat) (x10 : Int) (x11 : Int) (x12 : Int) (h : AHeap) (nx : Nat) : Option (AV × AHeap × Nat) :=
  goK W J drawK (machOf Try.prog) call Y (keepT 3) lf c3 [1, 1, 1, 1, 1, 1, 1, 1, 0, 1, 0, 0, 1, 0, 0, 1, 1, 0, 0, 1, 0, 0, 1, 1] [n0, n1] (retK (machOf Try.prog) ⟨c3, 211, r3, keepT 3⟩) ⟨211, mkL [(3, (.slice x3a x3n x3c)), (4, (.slice x4a x4n x4c)), (6, (.slice x6a x6n x6c)), (7, (.slice x7a x7n x7c)), (8, (.slice x8a x8n x8c)), (9, (.slice x9a x9n x9c)), (10, (.int .i64 x10)), (11, (.int .i64 x11)), (12, (.int .i64 x12))]⟩ h nx

noncomputable def F3_J6 (call : YldF → CallF) (Y : YldF) (lf : Nat) (n0 : Nat) (n1 : Nat) (x3a : Option (Nat × Nat)) (x3n : Nat) (x3c : Option Nat) (x4a : Option (Nat × Nat)) (x4n : Nat) (x4c : Option Nat) (x6a : Option (Nat × Nat)) (x6n : Nat) (x6c : Option Nat) (x7a : Option (Nat × Nat)) (x7n : Nat) (x7c : Option Nat) (x8a : Option (Nat × Nat)) (x8n : Nat) (x8c : Option Nat) (x9a : Option (Nat × Nat)) (x9n : Nat) (x9c : Option Nat) (x10 : Int) (x11 : Int) (x12 : Int) (h : AHeap) (nx : Nat) : Option (AV × AHeap × Nat) := F3_J6' go1 go1 call Y lf n0 n1 x3a x3n x3c x4a x4n x4c x6a x6n x6c x7a x7n x7c x8a x8n x8c x9a x9n x9c x10 x11 x12 h nx

noncomputable def F3_L7' (W J : StepF (AV × AHeap × Nat) → StepF (AV × AHeap × Nat)) (call : YldF → CallF) (Y : YldF) (lf : Nat) (n0 : Nat) (n1 : Nat) (n2 : Nat) (x3a : Option (Nat × Nat)) (x3n : Nat) (x3c : Option Nat) (x4a : Option (Nat × Nat)) (x4n : Nat) (x4c : Option Nat) (x6a : Option (Nat × Nat)) (x6n : Nat) (x6c : Option Nat) (x7a : Option (Nat × Nat)) (x7n : Nat) (x7c : Option Nat) (x8a : Option (Nat × Nat)) (x8n : Nat) (x8c : Option Nat) (x9a : Option (Nat × Nat)) (x9n : Nat) (x9c : Option Nat) (x10 : Int) (x11 : Int) (x12 : Int) (x13 : Int) (h : AHeap) (nx : Nat) : Option (AV × AHeap × Nat) :=
  goK W J drawK (machOf Try.prog) call Y (keepT 3) lf c3 [1, 1, 1, 1, 1, 1, 1, 1, 0, 1, 0, 0, 1, 0, 0, 1, 1, 0, 0, 1, 0, 0, 1, 1, 1, 1, 0, 9] [n0, n1, n2] (retK (machOf Try.prog) ⟨c3, 211, r3, keepT 3⟩) ⟨211, mkL [(3, (.slice x3a x3n x3c)), (4, (.slice x4a x4n x4c)), (6, (.slice x6a x6n x6c)), (7, (.slice x7a x7n x7c)), (8, (.slice x8a x8n x8c)), (9, (.slice x9a x9n x9c)), (10, (.int .i64 x10)), (11, (.int .i64 x11)), (12, (.int .i64 x12)), (13, (.int .i64 x13))]⟩ h nx

noncomputable def F3_L7 (call : YldF → CallF) (Y : YldF) (lf : Nat) (n0 : Nat) (n1 : Nat) (n2 : Nat) (x3a : Option (Nat × Nat)) (x3n : Nat) (x3c : Option Nat) (x4a : Option (Nat × Nat)) (x4n : Nat) (x4c : Option Nat) (x6a : Option (Nat × Nat)) (x6n : Nat) (x6c : Option Nat) (x7a : Option (Nat × Nat)) (x7n : Nat) (x7c : Option Nat) (x8a : Option (Nat × Nat)) (x8n : Nat) (x8c : Option Nat) (x9a : Option (Nat × Nat)) (x9n : Nat) (x9c : Option Nat) (x10 : Int) (x11 : Int) (x12 : Int) (x13 : Int) (h : AHeap) (nx : Nat) : Option (AV × AHeap × Nat) := F3_L7' go1 go1 call Y lf n0 n1 n2 x3a x3n x3c x4a x4n x4c x6a x6n x6c x7a x7n x7c x8a x8n x8c x9a x9n x9c x10 x11 x12 x13 h nx

theorem F3_L1_eq' (J : StepF (AV × AHeap × Nat) → StepF (AV × AHeap × Nat)) (call : YldF → CallF) (Y : YldF) (lf : Nat) (n0 : Nat) (x3a : Option (Nat × Nat)) (x3n : Nat) (x3c : Option Nat) (x4a : Option (Nat × Nat)) (x4n : Nat) (x4c : Option Nat) (x6a : Option (Nat × Nat)) (x6n : Nat) (x6c : Option Nat) (x7a : Option (Nat × Nat)) (x7n : Nat) (x7c : Option Nat) (x8a : Option (Nat × Nat)) (x8n : Nat) (x8c : Option Nat) (x9a : Option (Nat × Nat)) (x9n : Nat) (x9c : Option Nat) (x10 : Int) (h : AHeap) (nx : Nat) : F3_L1' go1 J call Y lf (n0 + 1) x3a x3n x3c x4a x4n x4c x6a x6n x6c x7a x7n x7c x8a x8n x8c x9a x9n x9c x10 h nx =
    if (decide ((x10 : Int) < ((x3n : Nat) : Int))) = true then
    ((x4a).bind fun p1 =>
    if 0 ≤ (x10 : Int) ∧ x10 < ((x4n : Nat) : Int) then
    ((ldA h p1.1 (p1.2 + Int.toNat x10 * 2)).bind fun v2 =>
    (asI .i64 v2).bind fun n3 =>
    if ((n3 : Int) == 0) = true then
    ((x3a).bind fun p4 =>
    if 0 ≤ (x10 : Int) ∧ x10 < ((x3n : Nat) : Int) then
    ((ldA h p4.1 (p4.2 + Int.toNat x10 * 2)).bind fun v5 =>
    (asI .i64 v5).bind fun n6 =>
    if ((n6 : Int) == 1) = true then
    (let h7 := AHeap.put h (nx + 18) (some ⟨[(.bool true)], 1, true⟩)
    (srcS h7 (some ((nx + 18), 0)) 1 1).bind fun q8 =>
    (appD h7 x6a x6n x6c 1 1 (nx + 19) q8).bind fun e9 =>
    let h10 := AHeap.puts h7 e9.sets
    let h11 := AHeap.put h10 (nx + 22) (some ⟨[(.bool false)], 1, true⟩)
    (srcS h11 (some ((nx + 22), 0)) 1 1).bind fun q12 =>
    (appD h11 x7a x7n x7c 1 1 (nx + 23) q12).bind fun e13 =>
    let h14 := AHeap.puts h11 e13.sets
    F3_J2' J J call Y lf n0 x3a x3n x3c x4a x4n x4c e9.a e9.n e9.c e13.a e13.n e13.c x8a x8n x8c x9a x9n x9c x10 h14 (nx + 25))
    else
    (if ((n6 : Int) == 2) = true then
    ((x3a).bind fun p15 =>
    if 0 ≤ (x10 : Int) ∧ x10 < ((x3n : Nat) : Int) then
    ((ldA h p15.1 ((p15.2 + Int.toNat x10 * 2) + 1)).bind fun v16 =>
    (asI .i64 v16).bind fun n17 =>
    if (decide ((n17 : Int) ≥ ((x6n : Nat) : Int))) = true then
    (some ((.bool false), h, (nx + 39)))
    else
    ((x3a).bind fun p18 =>
    if 0 ≤ (x10 : Int) ∧ x10 < ((x3n : Nat) : Int) then
    ((ldA h p18.1 ((p18.2 + Int.toNat x10 * 2) + 1)).bind fun v19 =>
    (asI .i64 v19).bind fun n20 =>
    (x6a).bind fun p21 =>
    if 0 ≤ (n20 : Int) ∧ n20 < ((x6n : Nat) : Int) then
    ((ldA h p21.1 (p21.2 + Int.toNat n20 * 1)).bind fun v22 =>
    (asB v22).bind fun t23 =>
    if (!t23) = true then
    (some ((.bool false), h, (nx + 39)))
    else
    (F3_J3' J J call Y lf n0 x3a x3n x3c x4a x4n x4c x6a x6n x6c x7a x7n x7c x8a x8n x8c x9a x9n x9c x10 h (nx + 38)))
    else none)
    else none))
    else none)
    else
    (if ((n6 : Int) == 3) = true then
    ((srcS h x6a x6n 1).bind fun q24 =>
    (appD h none 0 none 1 1 (nx + 23) q24).bind fun e25 =>
    let h26 := AHeap.puts h e25.sets
    let h27 := AHeap.put h26 (nx + 24) (some ⟨[(.slice e25.a e25.n e25.c)], 1, true⟩)
    (srcS h27 (some ((nx + 24), 0)) 1 1).bind fun q28 =>
    (appD h27 x8a x8n x8c 1 24 (nx + 25) q28).bind fun e29 =>
    let h30 := AHeap.puts h27 e29.sets
    let h31 := AHeap.put h30 (nx + 28) (some ⟨[(.bool true)], 1, true⟩)
    (srcS h31 (some ((nx + 28), 0)) 1 1).bind fun q32 =>
    (appD h31 x9a x9n x9c 1 1 (nx + 29) q32).bind fun e33 =>
    let h34 := AHeap.puts h31 e33.sets
    F3_J2' J J call Y lf n0 x3a x3n x3c x4a x4n x4c x6a x6n x6c x7a x7n x7c e29.a e29.n e29.c e33.a e33.n e33.c x10 h34 (nx + 31))
    else
    (if ((n6 : Int) == 4) = true then
    ((x3a).bind fun p35 =>
    if 0 ≤ (x10 : Int) ∧ x10 < ((x3n : Nat) : Int) then
    ((ldA h p35.1 ((p35.2 + Int.toNat x10 * 2) + 1)).bind fun v36 =>
    (asI .i64 v36).bind fun n37 =>
    if (decide ((n37 : Int) ≥ ((x9n : Nat) : Int))) = true then
    (some ((.bool false), h, (nx + 43)))
    else
    ((x3a).bind fun p38 =>
    if 0 ≤ (x10 : Int) ∧ x10 < ((x3n : Nat) : Int) then
    ((ldA h p38.1 ((p38.2 + Int.toNat x10 * 2) + 1)).bind fun v39 =>
    (asI .i64 v39).bind fun n40 =>
    (x9a).bind fun p41 =>
    if 0 ≤ (n40 : Int) ∧ n40 < ((x9n : Nat) : Int) then
    ((ldA h p41.1 (p41.2 + Int.toNat n40 * 1)).bind fun v42 =>
    (asB v42).bind fun t43 =>
    if (!t43) = true then
    (some ((.bool false), h, (nx + 43)))
    else
    (F3_J4' J J call Y lf n0 x3a x3n x3c x4a x4n x4c x6a x6n x6c x7a x7n x7c x8a x8n x8c x9a x9n x9c x10 h (nx + 42)))
    else none)
    else none))
    else none)
    else
    (F3_J2' J J call Y lf n0 x3a x3n x3c x4a x4n x4c x6a x6n x6c x7a x7n x7c x8a x8n x8c x9a x9n x9c x10 h (nx + 23))))))
    else none)
    else
    (F3_J2' J J call Y lf n0 x3a x3n x3c x4a x4n x4c x6a x6n x6c x7a x7n x7c x8a x8n x8c x9a x9n x9c x10 h (nx + 10)))
    else none)
    else
    (let h44 := AHeap.put h (nx + 6) (some ⟨[(.int .i64 1), (.int .i64 0), (.int .i64 2), (.int .i64 0)], 2, true⟩)
    (call Y 7 [(.slice (some ((nx + 6), 0)) 2 (some 2))] h44 (nx + 13)).bind fun r45 =>
    (asTup 2 r45.1).bind fun d46 =>
    (asSl (d46.getD 0 .bad)).bind fun s47 =>
    (asB (d46.getD 1 .bad)).bind fun t48 =>
    if t48 = true then
    ((s47.1).bind fun p49 =>
    if 0 ≤ (1 : Int) ∧ 1 < ((s47.2.1 : Nat) : Int) then
    ((ldA r45.2.1 p49.1 ((p49.2 + Int.toNat 1 * 2) + 1)).bind fun v50 =>
    (asSl v50).bind fun s51 =>
    if ((((s51.2.1 : Nat) : Int) : Int) == 1) = true then
    ((s47.1).bind fun p52 =>
    if 0 ≤ (1 : Int) ∧ 1 < ((s47.2.1 : Nat) : Int) then
    ((ldA r45.2.1 p52.1 ((p52.2 + Int.toNat 1 * 2) + 1)).bind fun v53 =>
    (asSl v53).bind fun s54 =>
    (s54.1).bind fun p55 =>
    if 0 ≤ (0 : Int) ∧ 0 < ((s54.2.1 : Nat) : Int) then
    ((ldA r45.2.1 p55.1 (p55.2 + Int.toNat 0 * 1)).bind fun v56 =>
    (asI .i64 v56).bind fun n57 =>
    some ((.bool ((n57 : Int) == 0)), r45.2.1, (r45.2.2 + 19)))
    else none)
    else none)
    else
    (some ((.bool false), r45.2.1, (r45.2.2 + 19))))
    else none)
    else
    (some ((.bool false), r45.2.1, (r45.2.2 + 19)))) := by kernel_rfl

theorem F3_L1_eq (call : YldF → CallF) (Y : YldF) (lf : Nat) (n0 : Nat) (x3a : Option (Nat × Nat)) (x3n : Nat) (x3c : Option Nat) (x4a : Option (Nat × Nat)) (x4n : Nat) (x4c : Option Nat) (x6a : Option (Nat × Nat)) (x6n : Nat) (x6c : Option Nat) (x7a : Option (Nat × Nat)) (x7n : Nat) (x7c : Option Nat) (x8a : Option (Nat × Nat)) (x8n : Nat) (x8c : Option Nat) (x9a : Option (Nat × Nat)) (x9n : Nat) (x9c : Option Nat) (x10 : Int) (h : AHeap) (nx : Nat) : F3_L1 call Y lf (n0 + 1) x3a x3n x3c x4a x4n x4c x6a x6n x6c x7a x7n x7c x8a x8n x8c x9a x9n x9c x10 h nx =
    if (decide ((x10 : Int) < ((x3n : Nat) : Int))) = true then
    ((x4a).bind fun p1 =>
    if 0 ≤ (x10 : Int) ∧ x10 < ((x4n : Nat) : Int) then
    ((ldA h p1.1 (p1.2 + Int.toNat x10 * 2)).bind fun v2 =>
    (asI .i64 v2).bind fun n3 =>
    if ((n3 : Int) == 0) = true then
    ((x3a).bind fun p4 =>
    if 0 ≤ (x10 : Int) ∧ x10 < ((x3n : Nat) : Int) then
    ((ldA h p4.1 (p4.2 + Int.toNat x10 * 2)).bind fun v5 =>
    (asI .i64 v5).bind fun n6 =>
    if ((n6 : Int) == 1) = true then
    (let h7 := AHeap.put h (nx + 18) (some ⟨[(.bool true)], 1, true⟩)
    (srcS h7 (some ((nx + 18), 0)) 1 1).bind fun q8 =>
    (appD h7 x6a x6n x6c 1 1 (nx + 19) q8).bind fun e9 =>
    let h10 := AHeap.puts h7 e9.sets
    let h11 := AHeap.put h10 (nx + 22) (some ⟨[(.bool false)], 1, true⟩)
    (srcS h11 (some ((nx + 22), 0)) 1 1).bind fun q12 =>
    (appD h11 x7a x7n x7c 1 1 (nx + 23) q12).bind fun e13 =>
    let h14 := AHeap.puts h11 e13.sets
    F3_J2 call Y lf n0 x3a x3n x3c x4a x4n x4c e9.a e9.n e9.c e13.a e13.n e13.c x8a x8n x8c x9a x9n x9c x10 h14 (nx + 25))
    else
    (if ((n6 : Int) == 2) = true then
    ((x3a).bind fun p15 =>
    if 0 ≤ (x10 : Int) ∧ x10 < ((x3n : Nat) : Int) then
    ((ldA h p15.1 ((p15.2 + Int.toNat x10 * 2) + 1)).bind fun v16 =>
    (asI .i64 v16).bind fun n17 =>
    if (decide ((n17 : Int) ≥ ((x6n : Nat) : Int))) = true then
    (some ((.bool false), h, (nx + 39)))
    else
    ((x3a).bind fun p18 =>
    if 0 ≤ (x10 : Int) ∧ x10 < ((x3n : Nat) : Int) then
    ((ldA h p18.1 ((p18.2 + Int.toNat x10 * 2) + 1)).bind fun v19 =>
    (asI .i64 v19).bind fun n20 =>
    (x6a).bind fun p21 =>
    if 0 ≤ (n20 : Int) ∧ n20 < ((x6n : Nat) : Int) then
    ((ldA h p21.1 (p21.2 + Int.toNat n20 * 1)).bind fun v22 =>
    (asB v22).bind fun t23 =>
    if (!t23) = true then
    (some ((.bool false), h, (nx + 39)))
    else
    (F3_J3 call Y lf n0 x3a x3n x3c x4a x4n x4c x6a x6n x6c x7a x7n x7c x8a x8n x8c x9a x9n x9c x10 h (nx + 38)))
    else none)
    else none))
    else none)
    else
    (if ((n6 : Int) == 3) = true then
    ((srcS h x6a x6n 1).bind fun q24 =>
    (appD h none 0 none 1 1 (nx + 23) q24).bind fun e25 =>
    let h26 := AHeap.puts h e25.sets
    let h27 := AHeap.put h26 (nx + 24) (some ⟨[(.slice e25.a e25.n e25.c)], 1, true⟩)
    (srcS h27 (some ((nx + 24), 0)) 1 1).bind fun q28 =>
    (appD h27 x8a x8n x8c 1 24 (nx + 25) q28).bind fun e29 =>
    let h30 := AHeap.puts h27 e29.sets
    let h31 := AHeap.put h30 (nx + 28) (some ⟨[(.bool true)], 1, true⟩)
    (srcS h31 (some ((nx + 28), 0)) 1 1).bind fun q32 =>
    (appD h31 x9a x9n x9c 1 1 (nx + 29) q32).bind fun e33 =>
    let h34 := AHeap.puts h31 e33.sets
    F3_J2 call Y lf n0 x3a x3n x3c x4a x4n x4c x6a x6n x6c x7a x7n x7c e29.a e29.n e29.c e33.a e33.n e33.c x10 h34 (nx + 31))
    else
    (if ((n6 : Int) == 4) = true then
    ((x3a).bind fun p35 =>
    if 0 ≤ (x10 : Int) ∧ x10 < ((x3n : Nat) : Int) then
    ((ldA h p35.1 ((p35.2 + Int.toNat x10 * 2) + 1)).bind fun v36 =>
    (asI .i64 v36).bind fun n37 =>
    if (decide ((n37 : Int) ≥ ((x9n : Nat) : Int))) = true then
    (some ((.bool false), h, (nx + 43)))
    else
    ((x3a).bind fun p38 =>
    if 0 ≤ (x10 : Int) ∧ x10 < ((x3n : Nat) : Int) then
    ((ldA h p38.1 ((p38.2 + Int.toNat x10 * 2) + 1)).bind fun v39 =>
    (asI .i64 v39).bind fun n40 =>
    (x9a).bind fun p41 =>
    if 0 ≤ (n40 : Int) ∧ n40 < ((x9n : Nat) : Int) then
    ((ldA h p41.1 (p41.2 + Int.toNat n40 * 1)).bind fun v42 =>
    (asB v42).bind fun t43 =>
    if (!t43) = true then
    (some ((.bool false), h, (nx + 43)))
    else
    (F3_J4 call Y lf n0 x3a x3n x3c x4a x4n x4c x6a x6n x6c x7a x7n x7c x8a x8n x8c x9a x9n x9c x10 h (nx + 42)))
    else none)
    else none))
    else none)
    else
    (F3_J2 call Y lf n0 x3a x3n x3c x4a x4n x4c x6a x6n x6c x7a x7n x7c x8a x8n x8c x9a x9n x9c x10 h (nx + 23))))))
    else none)
    else
    (F3_J2 call Y lf n0 x3a x3n x3c x4a x4n x4c x6a x6n x6c x7a x7n x7c x8a x8n x8c x9a x9n x9c x10 h (nx + 10)))
    else none)
    else
    (let h44 := AHeap.put h (nx + 6) (some ⟨[(.int .i64 1), (.int .i64 0), (.int .i64 2), (.int .i64 0)], 2, true⟩)
    (call Y 7 [(.slice (some ((nx + 6), 0)) 2 (some 2))] h44 (nx + 13)).bind fun r45 =>
    (asTup 2 r45.1).bind fun d46 =>
    (asSl (d46.getD 0 .bad)).bind fun s47 =>
    (asB (d46.getD 1 .bad)).bind fun t48 =>
    if t48 = true then
    ((s47.1).bind fun p49 =>
    if 0 ≤ (1 : Int) ∧ 1 < ((s47.2.1 : Nat) : Int) then
    ((ldA r45.2.1 p49.1 ((p49.2 + Int.toNat 1 * 2) + 1)).bind fun v50 =>
    (asSl v50).bind fun s51 =>
    if ((((s51.2.1 : Nat) : Int) : Int) == 1) = true then
    ((s47.1).bind fun p52 =>
    if 0 ≤ (1 : Int) ∧ 1 < ((s47.2.1 : Nat) : Int) then
    ((ldA r45.2.1 p52.1 ((p52.2 + Int.toNat 1 * 2) + 1)).bind fun v53 =>
    (asSl v53).bind fun s54 =>
    (s54.1).bind fun p55 =>
    if 0 ≤ (0 : Int) ∧ 0 < ((s54.2.1 : Nat) : Int) then
    ((ldA r45.2.1 p55.1 (p55.2 + Int.toNat 0 * 1)).bind fun v56 =>
    (asI .i64 v56).bind fun n57 =>
    some ((.bool ((n57 : Int) == 0)), r45.2.1, (r45.2.2 + 19)))
    else none)
    else none)
    else
    (some ((.bool false), r45.2.1, (r45.2.2 + 19))))
    else none)
    else
    (some ((.bool false), r45.2.1, (r45.2.2 + 19)))) := F3_L1_eq' go1 call Y lf n0 x3a x3n x3c x4a x4n x4c x6a x6n x6c x7a x7n x7c x8a x8n x8c x9a x9n x9c x10 h nx

theorem F3_L1_zero (call : YldF → CallF) (Y : YldF) (lf : Nat) (x3a : Option (Nat × Nat)) (x3n : Nat) (x3c : Option Nat) (x4a : Option (Nat × Nat)) (x4n : Nat) (x4c : Option Nat) (x6a : Option (Nat × Nat)) (x6n : Nat) (x6c : Option Nat) (x7a : Option (Nat × Nat)) (x7n : Nat) (x7c : Option Nat) (x8a : Option (Nat × Nat)) (x8n : Nat) (x8c : Option Nat) (x9a : Option (Nat × Nat)) (x9n : Nat) (x9c : Option Nat) (x10 : Int) (h : AHeap) (nx : Nat) : F3_L1 call Y lf 0 x3a x3n x3c x4a x4n x4c x6a x6n x6c x7a x7n x7c x8a x8n x8c x9a x9n x9c x10 h nx = none := by kernel_rfl

theorem F3_J2_eq' (J : StepF (AV × AHeap × Nat) → StepF (AV × AHeap × Nat)) (call : YldF → CallF) (Y : YldF) (lf : Nat) (n0 : Nat) (x3a : Option (Nat × Nat)) (x3n : Nat) (x3c : Option Nat) (x4a : Option (Nat × Nat)) (x4n : Nat) (x4c : Option Nat) (x6a : Option (Nat × Nat)) (x6n : Nat) (x6c : Option Nat) (x7a : Option (Nat × Nat)) (x7n : Nat) (x7c : Option Nat) (x8a : Option (Nat × Nat)) (x8n : Nat) (x8c : Option Nat) (x9a : Option (Nat × Nat)) (x9n : Nat) (x9c : Option Nat) (x10 : Int) (h : AHeap) (nx : Nat) : F3_J2' go1 J call Y lf n0 x3a x3n x3c x4a x4n x4c x6a x6n x6c x7a x7n x7c x8a x8n x8c x9a x9n x9c x10 h nx =
    F3_L5' J J call Y lf n0 lf x3a x3n x3c x4a x4n x4c x6a x6n x6c x7a x7n x7c x8a x8n x8c x9a x9n x9c x10 0 h (nx + 1) := by kernel_rfl

theorem F3_J2_eq (call : YldF → CallF) (Y : YldF) (lf : Nat) (n0 : Nat) (x3a : Option (Nat × Nat)) (x3n : Nat) (x3c : Option Nat) (x4a : Option (Nat × Nat)) (x4n : Nat) (x4c : Option Nat) (x6a : Option (Nat × Nat)) (x6n : Nat) (x6c : Option Nat) (x7a : Option (Nat × Nat)) (x7n : Nat) (x7c : Option Nat) (x8a : Option (Nat × Nat)) (x8n : Nat) (x8c : Option Nat) (x9a : Option (Nat × Nat)) (x9n : Nat) (x9c : Option Nat) (x10 : Int) (h : AHeap) (nx : Nat) : F3_J2 call Y lf n0 x3a x3n x3c x4a x4n x4c x6a x6n x6c x7a x7n x7c x8a x8n x8c x9a x9n x9c x10 h nx =
    F3_L5 call Y lf n0 lf x3a x3n x3c x4a x4n x4c x6a x6n x6c x7a x7n x7c x8a x8n x8c x9a x9n x9c x10 0 h (nx + 1) := F3_J2_eq' go1 call Y lf n0 x3a x3n x3c x4a x4n x4c x6a x6n x6c x7a x7n x7c x8a x8n x8c x9a x9n x9c x10 h nx

theorem F3_J3_eq' (J : StepF (AV × AHeap × Nat) → StepF (AV × AHeap × Nat)) (call : YldF → CallF) (Y : YldF) (lf : Nat) (n0 : Nat) (x3a : Option (Nat × Nat)) (x3n : Nat) (x3c : Option Nat) (x4a : Option (Nat × Nat)) (x4n : Nat) (x4c : Option Nat) (x6a : Option (Nat × Nat)) (x6n : Nat) (x6c : Option Nat) (x7a : Option (Nat × Nat)) (x7n : Nat) (x7c : Option Nat) (x8a : Option (Nat × Nat)) (x8n : Nat) (x8c : Option Nat) (x9a : Option (Nat × Nat)) (x9n : Nat) (x9c : Option Nat) (x10 : Int) (h : AHeap) (nx : Nat) : F3_J3' go1 J call Y lf n0 x3a x3n x3c x4a x4n x4c x6a x6n x6c x7a x7n x7c x8a x8n x8c x9a x9n x9c x10 h nx =
    (x3a).bind fun p1 =>
    if 0 ≤ (x10 : Int) ∧ x10 < ((x3n : Nat) : Int) then
    ((ldA h p1.1 ((p1.2 + Int.toNat x10 * 2) + 1)).bind fun v2 =>
    (asI .i64 v2).bind fun n3 =>
    (x6a).bind fun p4 =>
    if 0 ≤ (n3 : Int) ∧ n3 < ((x6n : Nat) : Int) then
    ((stA h p4.1 (p4.2 + Int.toNat n3 * 1) (.bool false) 1).bind fun b5 =>
    let h6 := AHeap.put h p4.1 (some b5)
    F3_J2' J J call Y lf n0 x3a x3n x3c x4a x4n x4c x6a x6n x6c x7a x7n x7c x8a x8n x8c x9a x9n x9c x10 h6 (nx + 8))
    else none)
    else none := by kernel_rfl

theorem F3_J3_eq (call : YldF → CallF) (Y : YldF) (lf : Nat) (n0 : Nat) (x3a : Option (Nat × Nat)) (x3n : Nat) (x3c : Option Nat) (x4a : Option (Nat × Nat)) (x4n : Nat) (x4c : Option Nat) (x6a : Option (Nat × Nat)) (x6n : Nat) (x6c : Option Nat) (x7a : Option (Nat × Nat)) (x7n : Nat) (x7c : Option Nat) (x8a : Option (Nat × Nat)) (x8n : Nat) (x8c : Option Nat) (x9a : Option (Nat × Nat)) (x9n : Nat) (x9c : Option Nat) (x10 : Int) (h : AHeap) (nx : Nat) : F3_J3 call Y lf n0 x3a x3n x3c x4a x4n x4c x6a x6n x6c x7a x7n x7c x8a x8n x8c x9a x9n x9c x10 h nx =
    (x3a).bind fun p1 =>
    if 0 ≤ (x10 : Int) ∧ x10 < ((x3n : Nat) : Int) then
    ((ldA h p1.1 ((p1.2 + Int.toNat x10 * 2) + 1)).bind fun v2 =>
    (asI .i64 v2).bind fun n3 =>
    (x6a).bind fun p4 =>
    if 0 ≤ (n3 : Int) ∧ n3 < ((x6n : Nat) : Int) then
    ((stA h p4.1 (p4.2 + Int.toNat n3 * 1) (.bool false) 1).bind fun b5 =>
    let h6 := AHeap.put h p4.1 (some b5)
    F3_J2 call Y lf n0 x3a x3n x3c x4a x4n x4c x6a x6n x6c x7a x7n x7c x8a x8n x8c x9a x9n x9c x10 h6 (nx + 8))
    else none)
    else none := F3_J3_eq' go1 call Y lf n0 x3a x3n x3c x4a x4n x4c x6a x6n x6c x7a x7n x7c x8a x8n x8c x9a x9n x9c x10 h nx

theorem F3_J4_eq' (J : StepF (AV × AHeap × Nat) → StepF (AV × AHeap × Nat)) (call : YldF → CallF) (Y : YldF) (lf : Nat) (n0 : Nat) (x3a : Option (Nat × Nat)) (x3n : Nat) (x3c : Option Nat) (x4a : Option (Nat × Nat)) (x4n : Nat) (x4c : Option Nat) (x6a : Option (Nat × Nat)) (x6n : Nat) (x6c : Option Nat) (x7a : Option (Nat × Nat)) (x7n : Nat) (x7c : Option Nat) (x8a : Option (Nat × Nat)) (x8n : Nat) (x8c : Option Nat) (x9a : Option (Nat × Nat)) (x9n : Nat) (x9c : Option Nat) (x10 : Int) (h : AHeap) (nx : Nat) : F3_J4' go1 J call Y lf n0 x3a x3n x3c x4a x4n x4c x6a x6n x6c x7a x7n x7c x8a x8n x8c x9a x9n x9c x10 h nx =
    (x3a).bind fun p1 =>
    if 0 ≤ (x10 : Int) ∧ x10 < ((x3n : Nat) : Int) then
    ((ldA h p1.1 ((p1.2 + Int.toNat x10 * 2) + 1)).bind fun v2 =>
    (asI .i64 v2).bind fun n3 =>
    (x9a).bind fun p4 =>
    if 0 ≤ (n3 : Int) ∧ n3 < ((x9n : Nat) : Int) then
    ((stA h p4.1 (p4.2 + Int.toNat n3 * 1) (.bool false) 1).bind fun b5 =>
    let h6 := AHeap.put h p4.1 (some b5)
    F3_J2' J J call Y lf n0 x3a x3n x3c x4a x4n x4c x6a x6n x6c x7a x7n x7c x8a x8n x8c x9a x9n x9c x10 h6 (nx + 8))
    else none)
    else none := by kernel_rfl

theorem F3_J4_eq (call : YldF → CallF) (Y : YldF) (lf : Nat) (n0 : Nat) (x3a : Option (Nat × Nat)) (x3n : Nat) (x3c : Option Nat) (x4a : Option (Nat × Nat)) (x4n : Nat) (x4c : Option Nat) (x6a : Option (Nat × Nat)) (x6n : Nat) (x6c : Option Nat) (x7a : Option (Nat × Nat)) (x7n : Nat) (x7c : Option Nat) (x8a : Option (Nat × Nat)) (x8n : Nat) (x8c : Option Nat) (x9a : Option (Nat × Nat)) (x9n : Nat) (x9c : Option Nat) (x10 : Int) (h : AHeap) (nx : Nat) : F3_J4 call Y lf n0 x3a x3n x3c x4a x4n x4c x6a x6n x6c x7a x7n x7c x8a x8n x8c x9a x9n x9c x10 h nx =
    (x3a).bind fun p1 =>
    if 0 ≤ (x10 : Int) ∧ x10 < ((x3n : Nat) : Int) then
    ((ldA h p1.1 ((p1.2 + Int.toNat x10 * 2) + 1)).bind fun v2 =>
    (asI .i64 v2).bind fun n3 =>
    (x9a).bind fun p4 =>
    if 0 ≤ (n3 : Int) ∧ n3 < ((x9n : Nat) : Int) then
    ((stA h p4.1 (p4.2 + Int.toNat n3 * 1) (.bool false) 1).bind fun b5 =>
    let h6 := AHeap.put h p4.1 (some b5)
    F3_J2 call Y lf n0 x3a x3n x3c x4a x4n x4c x6a x6n x6c x7a x7n x7c x8a x8n x8c x9a x9n x9c x10 h6 (nx + 8))
    else none)
    else none := F3_J4_eq' go1 call Y lf n0 x3a x3n x3c x4a x4n x4c x6a x6n x6c x7a x7n x7c x8a x8n x8c x9a x9n x9c x10 h nx

theorem F3_L5_eq' (J : StepF (AV × AHeap × Nat) → StepF (AV × AHeap × Nat)) (call : YldF → CallF) (Y : YldF) (lf : Nat) (n0 : Nat) (n1 : Nat) (x3a : Option (Nat × Nat)) (x3n : Nat) (x3c : Option Nat) (x4a : Option (Nat × Nat)) (x4n : Nat) (x4c : Option Nat) (x6a : Option (Nat × Nat)) (x6n : Nat) (x6c : Option Nat) (x7a : Option (Nat × Nat)) (x7n : Nat) (x7c : Option Nat) (x8a : Option (Nat × Nat)) (x8n : Nat) (x8c : Option Nat) (x9a : Option (Nat × Nat)) (x9n : Nat) (x9c : Option Nat) (x10 : Int) (x11 : Int) (h : AHeap) (nx : Nat) : F3_L5' go1 J call Y lf n0 (n1 + 1) x3a x3n x3c x4a x4n x4c x6a x6n x6c x7a x7n x7c x8a x8n x8c x9a x9n x9c x10 x11 h nx =
    (x4a).bind fun p1 =>
    if 0 ≤ (x10 : Int) ∧ x10 < ((x4n : Nat) : Int) then
    ((ldA h p1.1 ((p1.2 + Int.toNat x10 * 2) + 1)).bind fun v2 =>
    (asSl v2).bind fun s3 =>
    if (decide ((x11 : Int) < ((s3.2.1 : Nat) : Int))) = true then
    ((x4a).bind fun p4 =>
    if 0 ≤ (x10 : Int) ∧ x10 < ((x4n : Nat) : Int) then
    ((ldA h p4.1 ((p4.2 + Int.toNat x10 * 2) + 1)).bind fun v5 =>
    (asSl v5).bind fun s6 =>
    (s6.1).bind fun p7 =>
    if 0 ≤ (x11 : Int) ∧ x11 < ((s6.2.1 : Nat) : Int) then
    ((ldA h p7.1 (p7.2 + Int.toNat x11 * 1)).bind fun v8 =>
    (asI .i64 v8).bind fun n9 =>
    if (decide ((n9 : Int) < 0)) = true then
    (some ((.bool false), h, (nx + 38)))
    else
    (if (decide ((n9 : Int) ≥ ((x6n : Nat) : Int))) = true then
    (some ((.bool false), h, (nx + 38)))
    else
    ((x6a).bind fun p10 =>
    if 0 ≤ (n9 : Int) ∧ n9 < ((x6n : Nat) : Int) then
    ((ldA h p10.1 (p10.2 + Int.toNat n9 * 1)).bind fun v11 =>
    (asB v11).bind fun t12 =>
    if t12 = true then
    (some ((.bool false), h, (nx + 38)))
    else
    ((x7a).bind fun p13 =>
    if 0 ≤ (n9 : Int) ∧ n9 < ((x7n : Nat) : Int) then
    ((ldA h p13.1 (p13.2 + Int.toNat n9 * 1)).bind fun v14 =>
    (asB v14).bind fun t15 =>
    if t15 = true then
    (some ((.bool false), h, (nx + 38)))
    else
    (F3_J6' J J call Y lf n0 n1 x3a x3n x3c x4a x4n x4c x6a x6n x6c x7a x7n x7c x8a x8n x8c x9a x9n x9c x10 x11 n9 h (nx + 37)))
    else none))
    else none)))
    else none)
    else none)
    else
    (F3_L1' J J call Y lf n0 x3a x3n x3c x4a x4n x4c x6a x6n x6c x7a x7n x7c x8a x8n x8c x9a x9n x9c (wrapA .i64 (x10 + 1)) h (nx + 11)))
    else none := by kernel_rfl

theorem F3_L5_eq (call : YldF → CallF) (Y : YldF) (lf : Nat) (n0 : Nat) (n1 : Nat) (x3a : Option (Nat × Nat)) (x3n : Nat) (x3c : Option Nat) (x4a : Option (Nat × Nat)) (x4n : Nat) (x4c : Option Nat) (x6a : Option (Nat × Nat)) (x6n : Nat) (x6c : Option Nat) (x7a : Option (Nat × Nat)) (x7n : Nat) (x7c : Option Nat) (x8a : Option (Nat × Nat)) (x8n : Nat) (x8c : Option Nat) (x9a : Option (Nat × Nat)) (x9n : Nat) (x9c : Option Nat) (x10 : Int) (x11 : Int) (h : AHeap) (nx : Nat) : F3_L5 call Y lf n0 (n1 + 1) x3a x3n x3c x4a x4n x4c x6a x6n x6c x7a x7n x7c x8a x8n x8c x9a x9n x9c x10 x11 h nx =
    (x4a).bind fun p1 =>
    if 0 ≤ (x10 : Int) ∧ x10 < ((x4n : Nat) : Int) then
    ((ldA h p1.1 ((p1.2 + Int.toNat x10 * 2) + 1)).bind fun v2 =>
    (asSl v2).bind fun s3 =>
    if (decide ((x11 : Int) < ((s3.2.1 : Nat) : Int))) = true then
    ((x4a).bind fun p4 =>
    if 0 ≤ (x10 : Int) ∧ x10 < ((x4n : Nat) : Int) then
    ((ldA h p4.1 ((p4.2 + Int.toNat x10 * 2) + 1)).bind fun v5 =>
    (asSl v5).bind fun s6 =>
    (s6.1).bind fun p7 =>
    if 0 ≤ (x11 : Int) ∧ x11 < ((s6.2.1 : Nat) : Int) then
    ((ldA h p7.1 (p7.2 + Int.toNat x11 * 1)).bind fun v8 =>
    (asI .i64 v8).bind fun n9 =>
    if (decide ((n9 : Int) < 0)) = true then
    (some ((.bool false), h, (nx + 38)))
    else
    (if (decide ((n9 : Int) ≥ ((x6n : Nat) : Int))) = true then
    (some ((.bool false), h, (nx + 38)))
    else
    ((x6a).bind fun p10 =>
    if 0 ≤ (n9 : Int) ∧ n9 < ((x6n : Nat) : Int) then
    ((ldA h p10.1 (p10.2 + Int.toNat n9 * 1)).bind fun v11 =>
    (asB v11).bind fun t12 =>
    if t12 = true then
    (some ((.bool false), h, (nx + 38)))
    else
    ((x7a).bind fun p13 =>
    if 0 ≤ (n9 : Int) ∧ n9 < ((x7n : Nat) : Int) then
    ((ldA h p13.1 (p13.2 + Int.toNat n9 * 1)).bind fun v14 =>
    (asB v14).bind fun t15 =>
    if t15 = true then
    (some ((.bool false), h, (nx + 38)))
    else
    (F3_J6 call Y lf n0 n1 x3a x3n x3c x4a x4n x4c x6a x6n x6c x7a x7n x7c x8a x8n x8c x9a x9n x9c x10 x11 n9 h (nx + 37)))
    else none))
    else none)))
    else none)
    else none)
    else
    (F3_L1 call Y lf n0 x3a x3n x3c x4a x4n x4c x6a x6n x6c x7a x7n x7c x8a x8n x8c x9a x9n x9c (wrapA .i64 (x10 + 1)) h (nx + 11)))
    else none := F3_L5_eq' go1 call Y lf n0 n1 x3a x3n x3c x4a x4n x4c x6a x6n x6c x7a x7n x7c x8a x8n x8c x9a x9n x9c x10 x11 h nx

theorem F3_L5_zero (call : YldF → CallF) (Y : YldF) (lf : Nat) (n0 : Nat) (x3a : Option (Nat × Nat)) (x3n : Nat) (x3c : Option Nat) (x4a : Option (Nat × Nat)) (x4n : Nat) (x4c : Option Nat) (x6a : Option (Nat × Nat)) (x6n : Nat) (x6c : Option Nat) (x7a : Option (Nat × Nat)) (x7n : Nat) (x7c : Option Nat) (x8a : Option (Nat × Nat)) (x8n : Nat) (x8c : Option Nat) (x9a : Option (Nat × Nat)) (x9n : Nat) (x9c : Option Nat) (x10 : Int) (x11 : Int) (h : AHeap) (nx : Nat) : F3_L5 call Y lf n0 0 x3a x3n x3c x4a x4n x4c x6a x6n x6c x7a x7n x7c x8a x8n x8c x9a x9n x9c x10 x11 h nx = none := by kernel_rfl

theorem F3_J6_eq' (J : StepF (AV × AHeap × Nat) → StepF (AV × AHeap × Nat)) (call : YldF → CallF) (Y : YldF) (lf : Nat) (n0 : Nat) (n1 : Nat) (x3a : Option (Nat × Nat)) (x3n : Nat) (x3c : Option Nat) (x4a : Option (Nat × Nat)) (x4n : Nat) (x4c : Option Nat) (x6a : Option (Nat × Nat)) (x6n : Nat) (x6c : Option Nat) (x7a : Option (Nat × Nat)) (x7n : Nat) (x7c : Option Nat) (x8a : Option (Nat × Nat)) (x8n : Nat) (x8c : Option Nat) (x9a : Option (Nat × Nat)) (x9n : Nat) (x9c : Option Nat) (x10 : Int) (x11 : Int) (x12 : Int) (h : AHeap) (nx : Nat) : F3_J6' go1 J call Y lf n0 n1 x3a x3n x3c x4a x4n x4c x6a x6n x6c x7a x7n x7c x8a x8n x8c x9a x9n x9c x10 x11 x12 h nx =
    (x7a).bind fun p1 =>
    if 0 ≤ (x12 : Int) ∧ x12 < ((x7n : Nat) : Int) then
    ((stA h p1.1 (p1.2 + Int.toNat x12 * 1) (.bool true) 1).bind fun b2 =>
    let h3 := AHeap.put h p1.1 (some b2)
    F3_L7' J J call Y lf n0 n1 lf x3a x3n x3c x4a x4n x4c x6a x6n x6c x7a x7n x7c x8a x8n x8c x9a x9n x9c x10 x11 x12 0 h3 (nx + 5))
    else none := by kernel_rfl

theorem F3_J6_eq (call : YldF → CallF) (Y : YldF) (lf : Nat) (n0 : Nat) (n1 : Nat) (x3a : Option (Nat × Nat)) (x3n : Nat) (x3c : Option Nat) (x4a : Option (Nat × Nat)) (x4n : Nat) (x4c : Option Nat) (x6a : Option (Nat × Nat)) (x6n : Nat) (x6c : Option Nat) (x7a : Option (Nat × Nat)) (x7n : Nat) (x7c : Option Nat) (x8a : Option (Nat × Nat)) (x8n : Nat) (x8c : Option Nat) (x9a : Option (Nat × Nat)) (x9n : Nat) (x9c : Option Nat) (x10 : Int) (x11 : Int) (x12 : Int) (h : AHeap) (nx : Nat) : F3_J6 call Y lf n0 n1 x3a x3n x3c x4a x4n x4c x6a x6n x6c x7a x7n x7c x8a x8n x8c x9a x9n x9c x10 x11 x12 h nx =
    (x7a).bind fun p1 =>
    if 0 ≤ (x12 : Int) ∧ x12 < ((x7n : Nat) : Int) then
    ((stA h p1.1 (p1.2 + Int.toNat x12 * 1) (.bool true) 1).bind fun b2 =>
    let h3 := AHeap.put h p1.1 (some b2)
    F3_L7 call Y lf n0 n1 lf x3a x3n x3c x4a x4n x4c x6a x6n x6c x7a x7n x7c x8a x8n x8c x9a x9n x9c x10 x11 x12 0 h3 (nx + 5))
    else none := F3_J6_eq' go1 call Y lf n0 n1 x3a x3n x3c x4a x4n x4c x6a x6n x6c x7a x7n x7c x8a x8n x8c x9a x9n x9c x10 x11 x12 h nx

theorem F3_L7_eq' (J : StepF (AV × AHeap × Nat) → StepF (AV × AHeap × Nat)) (call : YldF → CallF) (Y : YldF) (lf : Nat) (n0 : Nat) (n1 : Nat) (n2 : Nat) (x3a : Option (Nat × Nat)) (x3n : Nat) (x3c : Option Nat) (x4a : Option (Nat × Nat)) (x4n : Nat) (x4c : Option Nat) (x6a : Option (Nat × Nat)) (x6n : Nat) (x6c : Option Nat) (x7a : Option (Nat × Nat)) (x7n : Nat) (x7c : Option Nat) (x8a : Option (Nat × Nat)) (x8n : Nat) (x8c : Option Nat) (x9a : Option (Nat × Nat)) (x9n : Nat) (x9c : Option Nat) (x10 : Int) (x11 : Int) (x12 : Int) (x13 : Int) (h : AHeap) (nx : Nat) : F3_L7' go1 J call Y lf n0 n1 (n2 + 1) x3a x3n x3c x4a x4n x4c x6a x6n x6c x7a x7n x7c x8a x8n x8c x9a x9n x9c x10 x11 x12 x13 h nx =
    if (decide ((x13 : Int) < ((x8n : Nat) : Int))) = true then
    ((x9a).bind fun p1 =>
    if 0 ≤ (x13 : Int) ∧ x13 < ((x9n : Nat) : Int) then
    ((ldA h p1.1 (p1.2 + Int.toNat x13 * 1)).bind fun v2 =>
    (asB v2).bind fun t3 =>
    if t3 = true then
    ((x8a).bind fun p4 =>
    if 0 ≤ (x13 : Int) ∧ x13 < ((x8n : Nat) : Int) then
    ((ldA h p4.1 (p4.2 + Int.toNat x13 * 1)).bind fun v5 =>
    (asSl v5).bind fun s6 =>
    if (decide ((x12 : Int) < ((s6.2.1 : Nat) : Int))) = true then
    ((x8a).bind fun p7 =>
    if 0 ≤ (x13 : Int) ∧ x13 < ((x8n : Nat) : Int) then
    ((ldA h p7.1 (p7.2 + Int.toNat x13 * 1)).bind fun v8 =>
    (asSl v8).bind fun s9 =>
    (s9.1).bind fun p10 =>
    if 0 ≤ (x12 : Int) ∧ x12 < ((s9.2.1 : Nat) : Int) then
    ((ldA h p10.1 (p10.2 + Int.toNat x12 * 1)).bind fun v11 =>
    (asB v11).bind fun t12 =>
    if t12 = true then
    (some ((.bool false), h, (nx + 27)))
    else
    (F3_L7' J J call Y lf n0 n1 n2 x3a x3n x3c x4a x4n x4c x6a x6n x6c x7a x7n x7c x8a x8n x8c x9a x9n x9c x10 x11 x12 (wrapA .i64 (x13 + 1)) h (nx + 29)))
    else none)
    else none)
    else
    (F3_L7' J J call Y lf n0 n1 n2 x3a x3n x3c x4a x4n x4c x6a x6n x6c x7a x7n x7c x8a x8n x8c x9a x9n x9c x10 x11 x12 (wrapA .i64 (x13 + 1)) h (nx + 29)))
    else none)
    else
    (F3_L7' J J call Y lf n0 n1 n2 x3a x3n x3c x4a x4n x4c x6a x6n x6c x7a x7n x7c x8a x8n x8c x9a x9n x9c x10 x11 x12 (wrapA .i64 (x13 + 1)) h (nx + 29)))
    else none)
    else
    (F3_L5' J J call Y lf n0 n1 x3a x3n x3c x4a x4n x4c x6a x6n x6c x7a x7n x7c x8a x8n x8c x9a x9n x9c x10 (wrapA .i64 (x11 + 1)) h (nx + 7)) := by kernel_rfl

theorem F3_L7_eq (call : YldF → CallF) (Y : YldF) (lf : Nat) (n0 : Nat) (n1 : Nat) (n2 : Nat) (x3a : Option (Nat × Nat)) (x3n : Nat) (x3c : Option Nat) (x4a : Option (Nat × Nat)) (x4n : Nat) (x4c : Option Nat) (x6a : Option (Nat × Nat)) (x6n : Nat) (x6c : Option Nat) (x7a : Option (Nat × Nat)) (x7n : Nat) (x7c : Option Nat) (x8a : Option (Nat × Nat)) (x8n : Nat) (x8c : Option Nat) (x9a : Option (Nat × Nat)) (x9n : Nat) (x9c : Option Nat) (x10 : Int) (x11 : Int) (x12 : Int) (x13 : Int) (h : AHeap) (nx : Nat) : F3_L7 call Y lf n0 n1 (n2 + 1) x3a x3n x3c x4a x4n x4c x6a x6n x6c x7a x7n x7c x8a x8n x8c x9a x9n x9c x10 x11 x12 x13 h nx =
    if (decide ((x13 : Int) < ((x8n : Nat) : Int))) = true then
    ((x9a).bind fun p1 =>
    if 0 ≤ (x13 : Int) ∧ x13 < ((x9n : Nat) : Int) then
    ((ldA h p1.1 (p1.2 + Int.toNat x13 * 1)).bind fun v2 =>
    (asB v2).bind fun t3 =>
    if t3 = true then
    ((x8a).bind fun p4 =>
    if 0 ≤ (x13 : Int) ∧ x13 < ((x8n : Nat) : Int) then
    ((ldA h p4.1 (p4.2 + Int.toNat x13 * 1)).bind fun v5 =>
    (asSl v5).bind fun s6 =>
    if (decide ((x12 : Int) < ((s6.2.1 : Nat) : Int))) = true then
    ((x8a).bind fun p7 =>
    if 0 ≤ (x13 : Int) ∧ x13 < ((x8n : Nat) : Int) then
    ((ldA h p7.1 (p7.2 + Int.toNat x13 * 1)).bind fun v8 =>
    (asSl v8).bind fun s9 =>
    (s9.1).bind fun p10 =>
    if 0 ≤ (x12 : Int) ∧ x12 < ((s9.2.1 : Nat) : Int) then
    ((ldA h p10.1 (p10.2 + Int.toNat x12 * 1)).bind fun v11 =>
    (asB v11).bind fun t12 =>
    if t12 = true then
    (some ((.bool false), h, (nx + 27)))
    else
    (F3_L7 call Y lf n0 n1 n2 x3a x3n x3c x4a x4n x4c x6a x6n x6c x7a x7n x7c x8a x8n x8c x9a x9n x9c x10 x11 x12 (wrapA .i64 (x13 + 1)) h (nx + 29)))
    else none)
    else none)
    else
    (F3_L7 call Y lf n0 n1 n2 x3a x3n x3c x4a x4n x4c x6a x6n x6c x7a x7n x7c x8a x8n x8c x9a x9n x9c x10 x11 x12 (wrapA .i64 (x13 + 1)) h (nx + 29)))
    else none)
    else
    (F3_L7 call Y lf n0 n1 n2 x3a x3n x3c x4a x4n x4c x6a x6n x6c x7a x7n x7c x8a x8n x8c x9a x9n x9c x10 x11 x12 (wrapA .i64 (x13 + 1)) h (nx + 29)))
    else none)
    else
    (F3_L5 call Y lf n0 n1 x3a x3n x3c x4a x4n x4c x6a x6n x6c x7a x7n x7c x8a x8n x8c x9a x9n x9c x10 (wrapA .i64 (x11 + 1)) h (nx + 7)) := F3_L7_eq' go1 call Y lf n0 n1 n2 x3a x3n x3c x4a x4n x4c x6a x6n x6c x7a x7n x7c x8a x8n x8c x9a x9n x9c x10 x11 x12 x13 h nx

theorem F3_L7_zero (call : YldF → CallF) (Y : YldF) (lf : Nat) (n0 : Nat) (n1 : Nat) (x3a : Option (Nat × Nat)) (x3n : Nat) (x3c : Option Nat) (x4a : Option (Nat × Nat)) (x4n : Nat) (x4c : Option Nat) (x6a : Option (Nat × Nat)) (x6n : Nat) (x6c : Option Nat) (x7a : Option (Nat × Nat)) (x7n : Nat) (x7c : Option Nat) (x8a : Option (Nat × Nat)) (x8n : Nat) (x8c : Option Nat) (x9a : Option (Nat × Nat)) (x9n : Nat) (x9c : Option Nat) (x10 : Int) (x11 : Int) (x12 : Int) (x13 : Int) (h : AHeap) (nx : Nat) : F3_L7 call Y lf n0 n1 0 x3a x3n x3c x4a x4n x4c x6a x6n x6c x7a x7n x7c x8a x8n x8c x9a x9n x9c x10 x11 x12 x13 h nx = none := by kernel_rfl

theorem F3_eq' (J : StepF (AV × AHeap × Nat) → StepF (AV × AHeap × Nat)) (n : Nat) (Y : YldF) (x0a : Option (Nat × Nat)) (x0n : Nat) (x0c : Option Nat) (h : AHeap) (nx : Nat) : rootJ J Try.prog keepT (callP Try.prog keepT n) Y n 3 [(.slice x0a x0n x0c)] h nx =
    ((callP Try.prog keepT n) Y 6 [(.slice x0a x0n x0c), (.int .i64 150)] h (nx + 4)).bind fun r1 =>
    (asSl r1.1).bind fun s2 =>
    ((callP Try.prog keepT n) Y 7 [(.slice s2.1 s2.2.1 s2.2.2)] r1.2.1 (r1.2.2 + 7)).bind fun r3 =>
    (asTup 2 r3.1).bind fun d4 =>
    (asSl (d4.getD 0 .bad)).bind fun s5 =>
    (asB (d4.getD 1 .bad)).bind fun t6 =>
    if (!t6) = true then
    (some ((.bool false), r3.2.1, (r3.2.2 + 3)))
    else
    (if (decide (0 ≤ (0 : Int)) && decide ((0 : Int) ≤ 0) && decide (((24 : Nat) : Int) * 0 ≤ 281474976710656) && decide ((0 : Int) ≤ 9223372036854775807) && 1 != 0) = true then
    (let h7 := AHeap.put r3.2.1 (r3.2.2 + 4) (some ⟨(madeA [(.slice none 0 none)] (Int.toNat 0 * 1)), 1, true⟩)
    F3_L1' J J (callP Try.prog keepT n) Y n n s2.1 s2.2.1 s2.2.2 s5.1 s5.2.1 s5.2.2 none 0 none none 0 none (some ((r3.2.2 + 4), 0)) (Int.toNat 0) (some (Int.toNat 0)) none 0 none 0 h7 (r3.2.2 + 8))
    else none) := by kernel_rfl

/-- quickset/quicksetkeep.SnapSafe -/
theorem F3_eq (n : Nat) (Y : YldF) (x0a : Option (Nat × Nat)) (x0n : Nat) (x0c : Option Nat) (h : AHeap) (nx : Nat) : callP Try.prog keepT (n + 1) Y 3 [(.slice x0a x0n x0c)] h nx =
    ((callP Try.prog keepT n) Y 6 [(.slice x0a x0n x0c), (.int .i64 150)] h (nx + 4)).bind fun r1 =>
    (asSl r1.1).bind fun s2 =>
    ((callP Try.prog keepT n) Y 7 [(.slice s2.1 s2.2.1 s2.2.2)] r1.2.1 (r1.2.2 + 7)).bind fun r3 =>
    (asTup 2 r3.1).bind fun d4 =>
    (asSl (d4.getD 0 .bad)).bind fun s5 =>
    (asB (d4.getD 1 .bad)).bind fun t6 =>
    if (!t6) = true then
    (some ((.bool false), r3.2.1, (r3.2.2 + 3)))
    else
    (if (decide (0 ≤ (0 : Int)) && decide ((0 : Int) ≤ 0) && decide (((24 : Nat) : Int) * 0 ≤ 281474976710656) && decide ((0 : Int) ≤ 9223372036854775807) && 1 != 0) = true then
    (let h7 := AHeap.put r3.2.1 (r3.2.2 + 4) (some ⟨(madeA [(.slice none 0 none)] (Int.toNat 0 * 1)), 1, true⟩)
    F3_L1 (callP Try.prog keepT n) Y n n s2.1 s2.2.1 s2.2.2 s5.1 s5.2.1 s5.2.2 none 0 none none 0 none (some ((r3.2.2 + 4), 0)) (Int.toNat 0) (some (Int.toNat 0)) none 0 none 0 h7 (r3.2.2 + 8))
    else none) := F3_eq' go1 n Y x0a x0n x0c h nx

noncomputable def c4 : Code := (Try.f4.body).getD .skip

noncomputable def r4 : List ResultVar := Try.f4.results.toList

noncomputable def F4_L1' (W J : StepF (AV × AHeap × Nat) → StepF (AV × AHeap × Nat)) (call : YldF → CallF) (Y : YldF) (lf : Nat) (n0 : Nat) (x3a : Option (Nat × Nat)) (x3n : Nat) (x3c : Option Nat) (x4 : Int) (h : AHeap) (nx : Nat) : Option (AV × AHeap × Nat) :=
  goK W J drawK (machOf Try.prog) call Y (keepT 4) lf c4 [1, 1, 0, 1, 0, 9] [n0] (retK (machOf Try.prog) ⟨c4, 128, r4, keepT 4⟩) ⟨128, mkL [(3, (.slice x3a x3n x3c)), (4, (.int .i64 x4))]⟩ h nx

noncomputable def F4_L1 (call : YldF → CallF) (Y : YldF) (lf : Nat) (n0 : Nat) (x3a : Option (Nat × Nat)) (x3n : Nat) (x3c : Option Nat) (x4 : Int) (h : AHeap) (nx : Nat) : Option (AV × AHeap × Nat) := F4_L1' go1 go1 call Y lf n0 x3a x3n x3c x4 h nx

noncomputable def F4_L2' (W J : StepF (AV × AHeap × Nat) → StepF (AV × AHeap × Nat)) (call : YldF → CallF) (Y : YldF) (lf : Nat) (n0 : Nat) (x3a : Option (Nat × Nat)) (x3n : Nat) (x3c : Option Nat) (x5a : Option (Nat × Nat)) (x5n : Nat) (x5c : Option Nat) (x7 : Int) (x8a : Option (Nat × Nat)) (x8n : Nat) (x8c : Option Nat) (x9 : Int) (h : AHeap) (nx : Nat) : Option (AV × AHeap × Nat) :=
  goK W J drawK (machOf Try.prog) call Y (keepT 4) lf c4 [1, 1, 1, 1, 1, 1, 1, 0, 1, 0, 9] [n0] (retK (machOf Try.prog) ⟨c4, 128, r4, keepT 4⟩) ⟨128, mkL [(3, (.slice x3a x3n x3c)), (5, (.slice x5a x5n x5c)), (7, (.int .i64 x7)), (8, (.slice x8a x8n x8c)), (9, (.int .i64 x9))]⟩ h nx

noncomputable def F4_L2 (call : YldF → CallF) (Y : YldF) (lf : Nat) (n0 : Nat) (x3a : Option (Nat × Nat)) (x3n : Nat) (x3c : Option Nat) (x5a : Option (Nat × Nat)) (x5n : Nat) (x5c : Option Nat) (x7 : Int) (x8a : Option (Nat × Nat)) (x8n : Nat) (x8c : Option Nat) (x9 : Int) (h : AHeap) (nx : Nat) : Option (AV × AHeap × Nat) := F4_L2' go1 go1 call Y lf n0 x3a x3n x3c x5a x5n x5c x7 x8a x8n x8c x9 h nx

noncomputable def F4_J3' (W J : StepF (AV × AHeap × Nat) → StepF (AV × AHeap × Nat)) (call : YldF → CallF) (Y : YldF) (lf : Nat) (n0 : Nat) (x3a : Option (Nat × Nat)) (x3n : Nat) (x3c : Option Nat) (x5a : Option (Nat × Nat)) (x5n : Nat) (x5c : Option Nat) (x7 : Int) (x8a : Option (Nat × Nat)) (x8n : Nat) (x8c : Option Nat) (x9 : Int) (h : AHeap) (nx : Nat) : Option (AV × AHeap × Nat) :=
  goK W J drawK (machOf Try.prog) call Y (keepT 4) lf c4 [1, 1, 1, 1, 1, 1, 1, 0, 1, 0, 0, 1, 0, 0, 1] [n0] (retK (machOf Try.prog) ⟨c4, 128, r4, keepT 4⟩) ⟨128, mkL [(3, (.slice x3a x3n x3c)), (5, (.slice x5a x5n x5c)), (7, (.int .i64 x7)), (8, (.slice x8a x8n x8c)), (9, (.int .i64 x9))]⟩ h nx

noncomputable def F4_J3 (call : YldF → CallF) (Y : YldF) (lf : Nat) (n0 : Nat) (x3a : Option (Nat × Nat)) (x3n : Nat) (x3c : Option Nat) (x5a : Option (Nat × Nat)) (x5n : Nat) (x5c : Option Nat) (x7 : Int) (x8a : Option (Nat × Nat)) (x8n : Nat) (x8c : Option Nat) (x9 : Int) (h : AHeap) (nx : Nat) : Option (AV × AHeap × Nat) := F4_J3' go1 go1 call Y lf n0 x3a x3n x3c x5a x5n x5c x7 x8a x8n x8c x9 h nx

noncomputable def F4_L4' (W J : StepF (AV × AHeap × Nat) → StepF (AV × AHeap × Nat)) (call : YldF → CallF) (Y : YldF) (lf : Nat) (n0 : Nat) (x7 : Int) (x8a : Option (Nat × Nat)) (x8n : Nat) (x8c : Option Nat) (x12 : Int) (h : AHeap) (nx : Nat) : Option (AV × AHeap × Nat) :=
  goK W J drawK (machOf Try.prog) call Y (keepT 4) lf c4 [1, 1, 1, 1, 1, 1, 1, 1, 0, 1, 0, 9] [n0] (retK (machOf Try.prog) ⟨c4, 128, r4, keepT 4⟩) ⟨128, mkL [(7, (.int .i64 x7)), (8, (.slice x8a x8n x8c)), (12, (.int .i64 x12))]⟩ h nx

noncomputable def F4_L4 (call : YldF → CallF) (Y : YldF) (lf : Nat) (n0 : Nat) (x7 : Int) (x8a : Option (Nat × Nat)) (x8n : Nat) (x8c : Option Nat) (x12 : Int) (h : AHeap) (nx : Nat) : Option (AV × AHeap × Nat) := F4_L4' go1 go1 call Y lf n0 x7 x8a x8n x8c x12 h nx

noncomputable def F4_L5' (W J : StepF (AV × AHeap × Nat) → StepF (AV × AHeap × Nat)) (call : YldF → CallF) (Y : YldF) (lf : Nat) (n0 : Nat) (n1 : Nat) (x3a : Option (Nat × Nat)) (x3n : Nat) (x3c : Option Nat) (x5a : Option (Nat × Nat)) (x5n : Nat) (x5c : Option Nat) (x7 : Int) (x8a : Option (Nat × Nat)) (x8n : Nat) (x8c : Option Nat) (x9 : Int) (x10 : Int) (h : AHeap) (nx : Nat) : Option (AV × AHeap × Nat) :=
  goK W J drawK (machOf Try.prog) call Y (keepT 4) lf c4 [1, 1, 1, 1, 1, 1, 1, 0, 1, 0, 0, 1, 0, 0, 1, 1, 0, 9] [n0, n1] (retK (machOf Try.prog) ⟨c4, 128, r4, keepT 4⟩) ⟨128, mkL [(3, (.slice x3a x3n x3c)), (5, (.slice x5a x5n x5c)), (7, (.int .i64 x7)), (8, (.slice x8a x8n x8c)), (9, (.int .i64 x9)), (10, (.int .i64 x10))]⟩ h nx

noncomputable def F4_L5 (call : YldF → CallF) (Y : YldF) (lf : Nat) (n0 : Nat) (n1 : Nat) (x3a : Option (Nat × Nat)) (x3n : Nat) (x3c : Option Nat) (x5a : Option (Nat × Nat)) (x5n : Nat) (x5c : Option Nat) (x7 : Int) (x8a : Option (Nat × Nat)) (x8n : Nat) (x8c : Option Nat) (x9 : Int) (x10 : Int) (h : AHeap) (nx : Nat) : Option (AV × AHeap × Nat) := F4_L5' go1 go1 call Y lf n0 n1 x3a x3n x3c x5a x5n x5c x7 x8a x8n x8c x9 x10 h nx

noncomputable def F4_J6' (W J : StepF (AV × AHeap × Nat) → StepF (AV × AHeap × Nat)) (call : YldF → CallF) (Y : YldF) (lf : Nat) (n0 : Nat) (n1 : Nat) (x3a : Option (Nat × Nat)) (x3n : Nat) (x3c : Option Nat) (x5a : Option (Nat × Nat)) (x5n : Nat) (x5c : Option Nat) (x7 : Int) (x8a : Option (Nat × Nat)) (x8n : Nat) (x8c : Option Nat) (x9 : Int) (x10 : Int) (x11 : Int) (h : AHeap) (nx : Nat) : Option (AV × AHeap × Nat) :=
  goK W J drawK (machOf Try.prog) call Y (keepT 4) lf c4 [1, 1, 1, 1, 1, 1, 1, 0, 1, 0, 0, 1, 0, 0, 1, 1, 0, 0, 1, 0, 0, 1, 1] [n0, n1] (retK (machOf Try.prog) ⟨c4, 128, r4, keepT 4⟩) ⟨128, mkL [(3, (.slice x3a x3n x3c)), (5, (.slice x5a x5n x5c)), (7, (.int .i64 x7)), (8, (.slice x8a x8n x8c)), (9, (.int .i64 x9)), (10, (.int .i64 x10)), (11, (.int .i64 x11))]⟩ h nx

noncomputable def F4_J6 (call : YldF → CallF) (Y : YldF) (lf : Nat) (n0 : Nat) (n1 : Nat) (x3a : Option (Nat × Nat)) (x3n : Nat) (x3c : Option Nat) (x5a : Option (Nat × Nat)) (x5n : Nat) (x5c : Option Nat) (x7 : Int) (x8a : Option (Nat × Nat)) (x8n : Nat) (x8c : Option Nat) (x9 : Int) (x10 : Int) (x11 : Int) (h : AHeap) (nx : Nat) : Option (AV × AHeap × Nat) := F4_J6' go1 go1 call Y lf n0 n1 x3a x3n x3c x5a x5n x5c x7 x8a x8n x8c x9 x10 x11 h nx

theorem F4_L1_eq' (J : StepF (AV × AHeap × Nat) → StepF (AV × AHeap × Nat)) (call : YldF → CallF) (Y : YldF) (lf : Nat) (n0 : Nat) (x3a : Option (Nat × Nat)) (x3n : Nat) (x3c : Option Nat) (x4 : Int) (h : AHeap) (nx : Nat) : F4_L1' go1 J call Y lf (n0 + 1) x3a x3n x3c x4 h nx =
    if (decide ((x4 : Int) < 60)) = true then
    (let h1 := AHeap.put h (nx + 7) (some ⟨[(.int .i64 2), (.int .i64 x4), (.int .i64 4), (.int .i64 x4)], 2, true⟩)
    (srcS h1 (some ((nx + 7), 0)) 2 2).bind fun q2 =>
    (appD h1 x3a x3n x3c 2 16 (nx + 8) q2).bind fun e3 =>
    let h4 := AHeap.puts h1 e3.sets
    F4_L1' J J call Y lf n0 e3.a e3.n e3.c (wrapA .i64 (x4 + 1)) h4 (nx + 13))
    else
    ((call Y 7 [(.slice x3a x3n x3c)] h (nx + 9)).bind fun r5 =>
    (asTup 2 r5.1).bind fun d6 =>
    (asSl (d6.getD 0 .bad)).bind fun s7 =>
    (asB (d6.getD 1 .bad)).bind fun t8 =>
    if (!t8) = true then
    (some ((.bool false), r5.2.1, (r5.2.2 + 3)))
    else
    (if (decide (0 ≤ (60 : Int)) && decide ((60 : Int) ≤ 60) && decide (((8 : Nat) : Int) * 60 ≤ 281474976710656) && decide ((60 : Int) ≤ 9223372036854775807) && 1 != 0) = true then
    (let h9 := AHeap.put r5.2.1 (r5.2.2 + 3) (some ⟨(madeA [(.int .i64 0)] (Int.toNat 60 * 1)), 1, true⟩)
    F4_L2' J J call Y lf lf x3a x3n x3c s7.1 s7.2.1 s7.2.2 0 (some ((r5.2.2 + 3), 0)) (Int.toNat 60) (some (Int.toNat 60)) 0 h9 (r5.2.2 + 6))
    else none)) := by kernel_rfl

theorem F4_L1_eq (call : YldF → CallF) (Y : YldF) (lf : Nat) (n0 : Nat) (x3a : Option (Nat × Nat)) (x3n : Nat) (x3c : Option Nat) (x4 : Int) (h : AHeap) (nx : Nat) : F4_L1 call Y lf (n0 + 1) x3a x3n x3c x4 h nx =
    if (decide ((x4 : Int) < 60)) = true then
    (let h1 := AHeap.put h (nx + 7) (some ⟨[(.int .i64 2), (.int .i64 x4), (.int .i64 4), (.int .i64 x4)], 2, true⟩)
    (srcS h1 (some ((nx + 7), 0)) 2 2).bind fun q2 =>
    (appD h1 x3a x3n x3c 2 16 (nx + 8) q2).bind fun e3 =>
    let h4 := AHeap.puts h1 e3.sets
    F4_L1 call Y lf n0 e3.a e3.n e3.c (wrapA .i64 (x4 + 1)) h4 (nx + 13))
    else
    ((call Y 7 [(.slice x3a x3n x3c)] h (nx + 9)).bind fun r5 =>
    (asTup 2 r5.1).bind fun d6 =>
    (asSl (d6.getD 0 .bad)).bind fun s7 =>
    (asB (d6.getD 1 .bad)).bind fun t8 =>
    if (!t8) = true then
    (some ((.bool false), r5.2.1, (r5.2.2 + 3)))
    else
    (if (decide (0 ≤ (60 : Int)) && decide ((60 : Int) ≤ 60) && decide (((8 : Nat) : Int) * 60 ≤ 281474976710656) && decide ((60 : Int) ≤ 9223372036854775807) && 1 != 0) = true then
    (let h9 := AHeap.put r5.2.1 (r5.2.2 + 3) (some ⟨(madeA [(.int .i64 0)] (Int.toNat 60 * 1)), 1, true⟩)
    F4_L2 call Y lf lf x3a x3n x3c s7.1 s7.2.1 s7.2.2 0 (some ((r5.2.2 + 3), 0)) (Int.toNat 60) (some (Int.toNat 60)) 0 h9 (r5.2.2 + 6))
    else none)) := F4_L1_eq' go1 call Y lf n0 x3a x3n x3c x4 h nx

theorem F4_L1_zero (call : YldF → CallF) (Y : YldF) (lf : Nat) (x3a : Option (Nat × Nat)) (x3n : Nat) (x3c : Option Nat) (x4 : Int) (h : AHeap) (nx : Nat) : F4_L1 call Y lf 0 x3a x3n x3c x4 h nx = none := by kernel_rfl

theorem F4_L2_eq' (J : StepF (AV × AHeap × Nat) → StepF (AV × AHeap × Nat)) (call : YldF → CallF) (Y : YldF) (lf : Nat) (n0 : Nat) (x3a : Option (Nat × Nat)) (x3n : Nat) (x3c : Option Nat) (x5a : Option (Nat × Nat)) (x5n : Nat) (x5c : Option Nat) (x7 : Int) (x8a : Option (Nat × Nat)) (x8n : Nat) (x8c : Option Nat) (x9 : Int) (h : AHeap) (nx : Nat) : F4_L2' go1 J call Y lf (n0 + 1) x3a x3n x3c x5a x5n x5c x7 x8a x8n x8c x9 h nx =
    if (decide ((x9 : Int) < ((x3n : Nat) : Int))) = true then
    ((x3a).bind fun p1 =>
    if 0 ≤ (x9 : Int) ∧ x9 < ((x3n : Nat) : Int) then
    ((ldA h p1.1 (p1.2 + Int.toNat x9 * 2)).bind fun v2 =>
    (asI .i64 v2).bind fun n3 =>
    if ((n3 : Int) == 1) = true then
    ((x5a).bind fun p4 =>
    if 0 ≤ (x9 : Int) ∧ x9 < ((x5n : Nat) : Int) then
    ((ldA h p4.1 (p4.2 + Int.toNat x9 * 2)).bind fun v5 =>
    (asI .i64 v5).bind fun n6 =>
    if ((n6 : Int) == 0) = true then
    (F4_J3' J J call Y lf n0 x3a x3n x3c x5a x5n x5c (wrapA .i64 (x7 + 1)) x8a x8n x8c x9 h (nx + 21))
    else
    (F4_J3' J J call Y lf n0 x3a x3n x3c x5a x5n x5c x7 x8a x8n x8c x9 h (nx + 18)))
    else none)
    else
    (F4_J3' J J call Y lf n0 x3a x3n x3c x5a x5n x5c x7 x8a x8n x8c x9 h (nx + 18)))
    else none)
    else
    (F4_L4' J J call Y lf lf x7 x8a x8n x8c 0 h (nx + 5)) := by kernel_rfl

theorem F4_L2_eq (call : YldF → CallF) (Y : YldF) (lf : Nat) (n0 : Nat) (x3a : Option (Nat × Nat)) (x3n : Nat) (x3c : Option Nat) (x5a : Option (Nat × Nat)) (x5n : Nat) (x5c : Option Nat) (x7 : Int) (x8a : Option (Nat × Nat)) (x8n : Nat) (x8c : Option Nat) (x9 : Int) (h : AHeap) (nx : Nat) : F4_L2 call Y lf (n0 + 1) x3a x3n x3c x5a x5n x5c x7 x8a x8n x8c x9 h nx =
    if (decide ((x9 : Int) < ((x3n : Nat) : Int))) = true then
    ((x3a).bind fun p1 =>
    if 0 ≤ (x9 : Int) ∧ x9 < ((x3n : Nat) : Int) then
    ((ldA h p1.1 (p1.2 + Int.toNat x9 * 2)).bind fun v2 =>
    (asI .i64 v2).bind fun n3 =>
    if ((n3 : Int) == 1) = true then
    ((x5a).bind fun p4 =>
    if 0 ≤ (x9 : Int) ∧ x9 < ((x5n : Nat) : Int) then
    ((ldA h p4.1 (p4.2 + Int.toNat x9 * 2)).bind fun v5 =>
    (asI .i64 v5).bind fun n6 =>
    if ((n6 : Int) == 0) = true then
    (F4_J3 call Y lf n0 x3a x3n x3c x5a x5n x5c (wrapA .i64 (x7 + 1)) x8a x8n x8c x9 h (nx + 21))
    else
    (F4_J3 call Y lf n0 x3a x3n x3c x5a x5n x5c x7 x8a x8n x8c x9 h (nx + 18)))
    else none)
    else
    (F4_J3 call Y lf n0 x3a x3n x3c x5a x5n x5c x7 x8a x8n x8c x9 h (nx + 18)))
    else none)
    else
    (F4_L4 call Y lf lf x7 x8a x8n x8c 0 h (nx + 5)) := F4_L2_eq' go1 call Y lf n0 x3a x3n x3c x5a x5n x5c x7 x8a x8n x8c x9 h nx

theorem F4_L2_zero (call : YldF → CallF) (Y : YldF) (lf : Nat) (x3a : Option (Nat × Nat)) (x3n : Nat) (x3c : Option Nat) (x5a : Option (Nat × Nat)) (x5n : Nat) (x5c : Option Nat) (x7 : Int) (x8a : Option (Nat × Nat)) (x8n : Nat) (x8c : Option Nat) (x9 : Int) (h : AHeap) (nx : Nat) : F4_L2 call Y lf 0 x3a x3n x3c x5a x5n x5c x7 x8a x8n x8c x9 h nx = none := by kernel_rfl

theorem F4_J3_eq' (J : StepF (AV × AHeap × Nat) → StepF (AV × AHeap × Nat)) (call : YldF → CallF) (Y : YldF) (lf : Nat) (n0 : Nat) (x3a : Option (Nat × Nat)) (x3n : Nat) (x3c : Option Nat) (x5a : Option (Nat × Nat)) (x5n : Nat) (x5c : Option Nat) (x7 : Int) (x8a : Option (Nat × Nat)) (x8n : Nat) (x8c : Option Nat) (x9 : Int) (h : AHeap) (nx : Nat) : F4_J3' go1 J call Y lf n0 x3a x3n x3c x5a x5n x5c x7 x8a x8n x8c x9 h nx =
    F4_L5' J J call Y lf n0 lf x3a x3n x3c x5a x5n x5c x7 x8a x8n x8c x9 0 h (nx + 1) := by kernel_rfl

theorem F4_J3_eq (call : YldF → CallF) (Y : YldF) (lf : Nat) (n0 : Nat) (x3a : Option (Nat × Nat)) (x3n : Nat) (x3c : Option Nat) (x5a : Option (Nat × Nat)) (x5n : Nat) (x5c : Option Nat) (x7 : Int) (x8a : Option (Nat × Nat)) (x8n : Nat) (x8c : Option Nat) (x9 : Int) (h : AHeap) (nx : Nat) : F4_J3 call Y lf n0 x3a x3n x3c x5a x5n x5c x7 x8a x8n x8c x9 h nx =
    F4_L5 call Y lf n0 lf x3a x3n x3c x5a x5n x5c x7 x8a x8n x8c x9 0 h (nx + 1) := F4_J3_eq' go1 call Y lf n0 x3a x3n x3c x5a x5n x5c x7 x8a x8n x8c x9 h nx

theorem F4_L4_eq' (J : StepF (AV × AHeap × Nat) → StepF (AV × AHeap × Nat)) (call : YldF → CallF) (Y : YldF) (lf : Nat) (n0 : Nat) (x7 : Int) (x8a : Option (Nat × Nat)) (x8n : Nat) (x8c : Option Nat) (x12 : Int) (h : AHeap) (nx : Nat) : F4_L4' go1 J call Y lf (n0 + 1) x7 x8a x8n x8c x12 h nx =
    if (decide ((x12 : Int) < 60)) = true then
    (if (decide ((x12 : Int) < x7)) = true then
    ((x8a).bind fun p1 =>
    if 0 ≤ (x12 : Int) ∧ x12 < ((x8n : Nat) : Int) then
    ((ldA h p1.1 (p1.2 + Int.toNat x12 * 1)).bind fun v2 =>
    (asI .i64 v2).bind fun n3 =>
    if ((n3 : Int) != 1) = true then
    (some ((.bool false), h, (nx + 25)))
    else
    (if (decide ((x12 : Int) ≥ x7)) = true then
    ((x8a).bind fun p4 =>
    if 0 ≤ (x12 : Int) ∧ x12 < ((x8n : Nat) : Int) then
    ((ldA h p4.1 (p4.2 + Int.toNat x12 * 1)).bind fun v5 =>
    (asI .i64 v5).bind fun n6 =>
    if ((n6 : Int) != 0) = true then
    (some ((.bool false), h, (nx + 25)))
    else
    (F4_L4' J J call Y lf n0 x7 x8a x8n x8c (wrapA .i64 (x12 + 1)) h (nx + 27)))
    else none)
    else
    (F4_L4' J J call Y lf n0 x7 x8a x8n x8c (wrapA .i64 (x12 + 1)) h (nx + 27))))
    else none)
    else
    (if (decide ((x12 : Int) ≥ x7)) = true then
    ((x8a).bind fun p7 =>
    if 0 ≤ (x12 : Int) ∧ x12 < ((x8n : Nat) : Int) then
    ((ldA h p7.1 (p7.2 + Int.toNat x12 * 1)).bind fun v8 =>
    (asI .i64 v8).bind fun n9 =>
    if ((n9 : Int) != 0) = true then
    (some ((.bool false), h, (nx + 25)))
    else
    (F4_L4' J J call Y lf n0 x7 x8a x8n x8c (wrapA .i64 (x12 + 1)) h (nx + 27)))
    else none)
    else
    (F4_L4' J J call Y lf n0 x7 x8a x8n x8c (wrapA .i64 (x12 + 1)) h (nx + 27))))
    else
    (let h10 := AHeap.put h (nx + 3) (some ⟨[(.int .i64 1), (.int .i64 0)], 2, true⟩)
    (call Y 7 [(.slice (some ((nx + 3), 0)) 1 (some 1))] h10 (nx + 10)).bind fun r11 =>
    (asTup 2 r11.1).bind fun d12 =>
    (asSl (d12.getD 0 .bad)).bind fun s13 =>
    (asB (d12.getD 1 .bad)).bind fun t14 =>
    if t14 = true then
    ((s13.1).bind fun p15 =>
    if 0 ≤ (0 : Int) ∧ 0 < ((s13.2.1 : Nat) : Int) then
    ((ldA r11.2.1 p15.1 (p15.2 + Int.toNat 0 * 2)).bind fun v16 =>
    (asI .i64 v16).bind fun n17 =>
    some ((.bool ((n17 : Int) == 0)), r11.2.1, (r11.2.2 + 9)))
    else none)
    else
    (some ((.bool false), r11.2.1, (r11.2.2 + 9)))) := by kernel_rfl

theorem F4_L4_eq (call : YldF → CallF) (Y : YldF) (lf : Nat) (n0 : Nat) (x7 : Int) (x8a : Option (Nat × Nat)) (x8n : Nat) (x8c : Option Nat) (x12 : Int) (h : AHeap) (nx : Nat) : F4_L4 call Y lf (n0 + 1) x7 x8a x8n x8c x12 h nx =
    if (decide ((x12 : Int) < 60)) = true then
    (if (decide ((x12 : Int) < x7)) = true then
    ((x8a).bind fun p1 =>
    if 0 ≤ (x12 : Int) ∧ x12 < ((x8n : Nat) : Int) then
    ((ldA h p1.1 (p1.2 + Int.toNat x12 * 1)).bind fun v2 =>
    (asI .i64 v2).bind fun n3 =>
    if ((n3 : Int) != 1) = true then
    (some ((.bool false), h, (nx + 25)))
    else
    (if (decide ((x12 : Int) ≥ x7)) = true then
    ((x8a).bind fun p4 =>
    if 0 ≤ (x12 : Int) ∧ x12 < ((x8n : Nat) : Int) then
    ((ldA h p4.1 (p4.2 + Int.toNat x12 * 1)).bind fun v5 =>
    (asI .i64 v5).bind fun n6 =>
    if ((n6 : Int) != 0) = true then
    (some ((.bool false), h, (nx + 25)))
    else
    (F4_L4 call Y lf n0 x7 x8a x8n x8c (wrapA .i64 (x12 + 1)) h (nx + 27)))
    else none)
    else
    (F4_L4 call Y lf n0 x7 x8a x8n x8c (wrapA .i64 (x12 + 1)) h (nx + 27))))
    else none)
    else
    (if (decide ((x12 : Int) ≥ x7)) = true then
    ((x8a).bind fun p7 =>
    if 0 ≤ (x12 : Int) ∧ x12 < ((x8n : Nat) : Int) then
    ((ldA h p7.1 (p7.2 + Int.toNat x12 * 1)).bind fun v8 =>
    (asI .i64 v8).bind fun n9 =>
    if ((n9 : Int) != 0) = true then
    (some ((.bool false), h, (nx + 25)))
    else
    (F4_L4 call Y lf n0 x7 x8a x8n x8c (wrapA .i64 (x12 + 1)) h (nx + 27)))
    else none)
    else
    (F4_L4 call Y lf n0 x7 x8a x8n x8c (wrapA .i64 (x12 + 1)) h (nx + 27))))
    else
    (let h10 := AHeap.put h (nx + 3) (some ⟨[(.int .i64 1), (.int .i64 0)], 2, true⟩)
    (call Y 7 [(.slice (some ((nx + 3), 0)) 1 (some 1))] h10 (nx + 10)).bind fun r11 =>
    (asTup 2 r11.1).bind fun d12 =>
    (asSl (d12.getD 0 .bad)).bind fun s13 =>
    (asB (d12.getD 1 .bad)).bind fun t14 =>
    if t14 = true then
    ((s13.1).bind fun p15 =>
    if 0 ≤ (0 : Int) ∧ 0 < ((s13.2.1 : Nat) : Int) then
    ((ldA r11.2.1 p15.1 (p15.2 + Int.toNat 0 * 2)).bind fun v16 =>
    (asI .i64 v16).bind fun n17 =>
    some ((.bool ((n17 : Int) == 0)), r11.2.1, (r11.2.2 + 9)))
    else none)
    else
    (some ((.bool false), r11.2.1, (r11.2.2 + 9)))) := F4_L4_eq' go1 call Y lf n0 x7 x8a x8n x8c x12 h nx

theorem F4_L4_zero (call : YldF → CallF) (Y : YldF) (lf : Nat) (x7 : Int) (x8a : Option (Nat × Nat)) (x8n : Nat) (x8c : Option Nat) (x12 : Int) (h : AHeap) (nx : Nat) : F4_L4 call Y lf 0 x7 x8a x8n x8c x12 h nx = none := by kernel_rfl

theorem F4_L5_eq' (J : StepF (AV × AHeap × Nat) → StepF (AV × AHeap × Nat)) (call : YldF → CallF) (Y : YldF) (lf : Nat) (n0 : Nat) (n1 : Nat) (x3a : Option (Nat × Nat)) (x3n : Nat) (x3c : Option Nat) (x5a : Option (Nat × Nat)) (x5n : Nat) (x5c : Option Nat) (x7 : Int) (x8a : Option (Nat × Nat)) (x8n : Nat) (x8c : Option Nat) (x9 : Int) (x10 : Int) (h : AHeap) (nx : Nat) : F4_L5' go1 J call Y lf n0 (n1 + 1) x3a x3n x3c x5a x5n x5c x7 x8a x8n x8c x9 x10 h nx =
    (x5a).bind fun p1 =>
    if 0 ≤ (x9 : Int) ∧ x9 < ((x5n : Nat) : Int) then
    ((ldA h p1.1 ((p1.2 + Int.toNat x9 * 2) + 1)).bind fun v2 =>
    (asSl v2).bind fun s3 =>
    if (decide ((x10 : Int) < ((s3.2.1 : Nat) : Int))) = true then
    ((x5a).bind fun p4 =>
    if 0 ≤ (x9 : Int) ∧ x9 < ((x5n : Nat) : Int) then
    ((ldA h p4.1 ((p4.2 + Int.toNat x9 * 2) + 1)).bind fun v5 =>
    (asSl v5).bind fun s6 =>
    (s6.1).bind fun p7 =>
    if 0 ≤ (x10 : Int) ∧ x10 < ((s6.2.1 : Nat) : Int) then
    ((ldA h p7.1 (p7.2 + Int.toNat x10 * 1)).bind fun v8 =>
    (asI .i64 v8).bind fun n9 =>
    if (decide ((n9 : Int) < 0)) = true then
    (some ((.bool false), h, (nx + 24)))
    else
    (if (decide ((n9 : Int) ≥ 60)) = true then
    (some ((.bool false), h, (nx + 24)))
    else
    (F4_J6' J J call Y lf n0 n1 x3a x3n x3c x5a x5n x5c x7 x8a x8n x8c x9 x10 n9 h (nx + 23))))
    else none)
    else none)
    else
    (F4_L2' J J call Y lf n0 x3a x3n x3c x5a x5n x5c x7 x8a x8n x8c (wrapA .i64 (x9 + 1)) h (nx + 11)))
    else none := by kernel_rfl

theorem F4_L5_eq (call : YldF → CallF) (Y : YldF) (lf : Nat) (n0 : Nat) (n1 : Nat) (x3a : Option (Nat × Nat)) (x3n : Nat) (x3c : Option Nat) (x5a : Option (Nat × Nat)) (x5n : Nat) (x5c : Option Nat) (x7 : Int) (x8a : Option (Nat × Nat)) (x8n : Nat) (x8c : Option Nat) (x9 : Int) (x10 : Int) (h : AHeap) (nx : Nat) : F4_L5 call Y lf n0 (n1 + 1) x3a x3n x3c x5a x5n x5c x7 x8a x8n x8c x9 x10 h nx =
    (x5a).bind fun p1 =>
    if 0 ≤ (x9 : Int) ∧ x9 < ((x5n : Nat) : Int) then
    ((ldA h p1.1 ((p1.2 + Int.toNat x9 * 2) + 1)).bind fun v2 =>
    (asSl v2).bind fun s3 =>
    if (decide ((x10 : Int) < ((s3.2.1 : Nat) : Int))) = true then
    ((x5a).bind fun p4 =>
    if 0 ≤ (x9 : Int) ∧ x9 < ((x5n : Nat) : Int) then
    ((ldA h p4.1 ((p4.2 + Int.toNat x9 * 2) + 1)).bind fun v5 =>
    (asSl v5).bind fun s6 =>
    (s6.1).bind fun p7 =>
    if 0 ≤ (x10 : Int) ∧ x10 < ((s6.2.1 : Nat) : Int) then
    ((ldA h p7.1 (p7.2 + Int.toNat x10 * 1)).bind fun v8 =>
    (asI .i64 v8).bind fun n9 =>
    if (decide ((n9 : Int) < 0)) = true then
    (some ((.bool false), h, (nx + 24)))
    else
    (if (decide ((n9 : Int) ≥ 60)) = true then
    (some ((.bool false), h, (nx + 24)))
    else
    (F4_J6 call Y lf n0 n1 x3a x3n x3c x5a x5n x5c x7 x8a x8n x8c x9 x10 n9 h (nx + 23))))
    else none)
    else none)
    else
    (F4_L2 call Y lf n0 x3a x3n x3c x5a x5n x5c x7 x8a x8n x8c (wrapA .i64 (x9 + 1)) h (nx + 11)))
    else none := F4_L5_eq' go1 call Y lf n0 n1 x3a x3n x3c x5a x5n x5c x7 x8a x8n x8c x9 x10 h nx

theorem F4_L5_zero (call : YldF → CallF) (Y : YldF) (lf : Nat) (n0 : Nat) (x3a : Option (Nat × Nat)) (x3n : Nat) (x3c : Option Nat) (x5a : Option (Nat × Nat)) (x5n : Nat) (x5c : Option Nat) (x7 : Int) (x8a : Option (Nat × Nat)) (x8n : Nat) (x8c : Option Nat) (x9 : Int) (x10 : Int) (h : AHeap) (nx : Nat) : F4_L5 call Y lf n0 0 x3a x3n x3c x5a x5n x5c x7 x8a x8n x8c x9 x10 h nx = none := by kernel_rfl

theorem F4_J6_eq' (J : StepF (AV × AHeap × Nat) → StepF (AV × AHeap × Nat)) (call : YldF → CallF) (Y : YldF) (lf : Nat) (n0 : Nat) (n1 : Nat) (x3a : Option (Nat × Nat)) (x3n : Nat) (x3c : Option Nat) (x5a : Option (Nat × Nat)) (x5n : Nat) (x5c : Option Nat) (x7 : Int) (x8a : Option (Nat × Nat)) (x8n : Nat) (x8c : Option Nat) (x9 : Int) (x10 : Int) (x11 : Int) (h : AHeap) (nx : Nat) : F4_J6' go1 J call Y lf n0 n1 x3a x3n x3c x5a x5n x5c x7 x8a x8n x8c x9 x10 x11 h nx =
    (x8a).bind fun p1 =>
    if 0 ≤ (x11 : Int) ∧ x11 < ((x8n : Nat) : Int) then
    ((ldA h p1.1 (p1.2 + Int.toNat x11 * 1)).bind fun v2 =>
    (asI .i64 v2).bind fun n3 =>
    (x8a).bind fun p4 =>
    if 0 ≤ (x11 : Int) ∧ x11 < ((x8n : Nat) : Int) then
    ((stA h p4.1 (p4.2 + Int.toNat x11 * 1) (.int .i64 (wrapA .i64 (n3 + 1))) 1).bind fun b5 =>
    let h6 := AHeap.put h p4.1 (some b5)
    F4_L5' J J call Y lf n0 n1 x3a x3n x3c x5a x5n x5c x7 x8a x8n x8c x9 (wrapA .i64 (x10 + 1)) h6 (nx + 10))
    else none)
    else none := by kernel_rfl

theorem F4_J6_eq (call : YldF → CallF) (Y : YldF) (lf : Nat) (n0 : Nat) (n1 : Nat) (x3a : Option (Nat × Nat)) (x3n : Nat) (x3c : Option Nat) (x5a : Option (Nat × Nat)) (x5n : Nat) (x5c : Option Nat) (x7 : Int) (x8a : Option (Nat × Nat)) (x8n : Nat) (x8c : Option Nat) (x9 : Int) (x10 : Int) (x11 : Int) (h : AHeap) (nx : Nat) : F4_J6 call Y lf n0 n1 x3a x3n x3c x5a x5n x5c x7 x8a x8n x8c x9 x10 x11 h nx =
    (x8a).bind fun p1 =>
    if 0 ≤ (x11 : Int) ∧ x11 < ((x8n : Nat) : Int) then
    ((ldA h p1.1 (p1.2 + Int.toNat x11 * 1)).bind fun v2 =>
    (asI .i64 v2).bind fun n3 =>
    (x8a).bind fun p4 =>
    if 0 ≤ (x11 : Int) ∧ x11 < ((x8n : Nat) : Int) then
    ((stA h p4.1 (p4.2 + Int.toNat x11 * 1) (.int .i64 (wrapA .i64 (n3 + 1))) 1).bind fun b5 =>
    let h6 := AHeap.put h p4.1 (some b5)
    F4_L5 call Y lf n0 n1 x3a x3n x3c x5a x5n x5c x7 x8a x8n x8c x9 (wrapA .i64 (x10 + 1)) h6 (nx + 10))
    else none)
    else none := F4_J6_eq' go1 call Y lf n0 n1 x3a x3n x3c x5a x5n x5c x7 x8a x8n x8c x9 x10 x11 h nx

theorem F4_eq' (J : StepF (AV × AHeap × Nat) → StepF (AV × AHeap × Nat)) (n : Nat) (Y : YldF) (x0a : Option (Nat × Nat)) (x0n : Nat) (x0c : Option Nat) (h : AHeap) (nx : Nat) : rootJ J Try.prog keepT (callP Try.prog keepT n) Y n 4 [(.slice x0a x0n x0c)] h nx =
    ((callP Try.prog keepT n) Y 6 [(.slice x0a x0n x0c), (.int .i64 60)] h (nx + 4)).bind fun r1 =>
    (asSl r1.1).bind fun s2 =>
    F4_L1' J J (callP Try.prog keepT n) Y n n s2.1 s2.2.1 s2.2.2 0 r1.2.1 (r1.2.2 + 1) := by kernel_rfl

/-- quickset/quicksetkeep.SnapAll -/
theorem F4_eq (n : Nat) (Y : YldF) (x0a : Option (Nat × Nat)) (x0n : Nat) (x0c : Option Nat) (h : AHeap) (nx : Nat) : callP Try.prog keepT (n + 1) Y 4 [(.slice x0a x0n x0c)] h nx =
    ((callP Try.prog keepT n) Y 6 [(.slice x0a x0n x0c), (.int .i64 60)] h (nx + 4)).bind fun r1 =>
    (asSl r1.1).bind fun s2 =>
    F4_L1 (callP Try.prog keepT n) Y n n s2.1 s2.2.1 s2.2.2 0 r1.2.1 (r1.2.2 + 1) := F4_eq' go1 n Y x0a x0n x0c h nx

noncomputable def c5 : Code := (Try.f5.body).getD .skip

noncomputable def r5 : List ResultVar := Try.f5.results.toList

noncomputable def F5_L1' (W J : StepF (AV × AHeap × Nat) → StepF (AV × AHeap × Nat)) (call : YldF → CallF) (Y : YldF) (lf : Nat) (n0 : Nat) (x3a : Option (Nat × Nat)) (x3n : Nat) (x3c : Option Nat) (x4a : Option (Nat × Nat)) (x4n : Nat) (x4c : Option Nat) (x6a : Option (Nat × Nat)) (x6n : Nat) (x6c : Option Nat) (x7a : Option (Nat × Nat)) (x7n : Nat) (x7c : Option Nat) (x8a : Option (Nat × Nat)) (x8n : Nat) (x8c : Option Nat) (x9 : Int) (h : AHeap) (nx : Nat) : Option (AV × AHeap × Nat) :=
  goK W J drawK (machOf Try.prog) call Y (keepT 5) lf c5 [1, 1, 1, 1, 1, 1, 1, 0, 1, 0, 9] [n0] (retK (machOf Try.prog) ⟨c5, 162, r5, keepT 5⟩) ⟨162, mkL [(3, (.slice x3a x3n x3c)), (4, (.slice x4a x4n x4c)), (6, (.slice x6a x6n x6c)), (7, (.slice x7a x7n x7c)), (8, (.slice x8a x8n x8c)), (9, (.int .i64 x9))]⟩ h nx

noncomputable def F5_L1 (call : YldF → CallF) (Y : YldF) (lf : Nat) (n0 : Nat) (x3a : Option (Nat × Nat)) (x3n : Nat) (x3c : Option Nat) (x4a : Option (Nat × Nat)) (x4n : Nat) (x4c : Option Nat) (x6a : Option (Nat × Nat)) (x6n : Nat) (x6c : Option Nat) (x7a : Option (Nat × Nat)) (x7n : Nat) (x7c : Option Nat) (x8a : Option (Nat × Nat)) (x8n : Nat) (x8c : Option Nat) (x9 : Int) (h : AHeap) (nx : Nat) : Option (AV × AHeap × Nat) := F5_L1' go1 go1 call Y lf n0 x3a x3n x3c x4a x4n x4c x6a x6n x6c x7a x7n x7c x8a x8n x8c x9 h nx

noncomputable def F5_L2' (W J : StepF (AV × AHeap × Nat) → StepF (AV × AHeap × Nat)) (call : YldF → CallF) (Y : YldF) (lf : Nat) (n0 : Nat) (n1 : Nat) (x3a : Option (Nat × Nat)) (x3n : Nat) (x3c : Option Nat) (x4a : Option (Nat × Nat)) (x4n : Nat) (x4c : Option Nat) (x6a : Option (Nat × Nat)) (x6n : Nat) (x6c : Option Nat) (x7a : Option (Nat × Nat)) (x7n : Nat) (x7c : Option Nat) (x8a : Option (Nat × Nat)) (x8n : Nat) (x8c : Option Nat) (x9 : Int) (x10 : Int) (x11 : Int) (h : AHeap) (nx : Nat) : Option (AV × AHeap × Nat) :=
  goK W J drawK (machOf Try.prog) call Y (keepT 5) lf c5 [1, 1, 1, 1, 1, 1, 1, 0, 1, 0, 0, 1, 0, 0, 1, 1, 0, 1, 1, 1, 1, 1, 1, 1, 0, 1, 1, 0, 1, 0, 9] [n0, n1] (retK (machOf Try.prog) ⟨c5, 162, r5, keepT 5⟩) ⟨162, mkL [(3, (.slice x3a x3n x3c)), (4, (.slice x4a x4n x4c)), (6, (.slice x6a x6n x6c)), (7, (.slice x7a x7n x7c)), (8, (.slice x8a x8n x8c)), (9, (.int .i64 x9)), (10, (.int .i64 x10)), (11, (.int .i64 x11))]⟩ h nx

noncomputable def F5_L2 (call : YldF → CallF) (Y : YldF) (lf : Nat) (n0 : Nat) (n1 : Nat) (x3a : Option (Nat × Nat)) (x3n : Nat) (x3c : Option Nat) (x4a : Option (Nat × Nat)) (x4n : Nat) (x4c : Option Nat) (x6a : Option (Nat × Nat)) (x6n : Nat) (x6c : Option Nat) (x7a : Option (Nat × Nat)) (x7n : Nat) (x7c : Option Nat) (x8a : Option (Nat × Nat)) (x8n : Nat) (x8c : Option Nat) (x9 : Int) (x10 : Int) (x11 : Int) (h : AHeap) (nx : Nat) : Option (AV × AHeap × Nat) := F5_L2' go1 go1 call Y lf n0 n1 x3a x3n x3c x4a x4n x4c x6a x6n x6c x7a x7n x7c x8a x8n x8c x9 x10 x11 h nx

theorem F5_L1_eq' (J : StepF (AV × AHeap × Nat) → StepF (AV × AHeap × Nat)) (call : YldF → CallF) (Y : YldF) (lf : Nat) (n0 : Nat) (x3a : Option (Nat × Nat)) (x3n : Nat) (x3c : Option Nat) (x4a : Option (Nat × Nat)) (x4n : Nat) (x4c : Option Nat) (x6a : Option (Nat × Nat)) (x6n : Nat) (x6c : Option Nat) (x7a : Option (Nat × Nat)) (x7n : Nat) (x7c : Option Nat) (x8a : Option (Nat × Nat)) (x8n : Nat) (x8c : Option Nat) (x9 : Int) (h : AHeap) (nx : Nat) : F5_L1' go1 J call Y lf (n0 + 1) x3a x3n x3c x4a x4n x4c x6a x6n x6c x7a x7n x7c x8a x8n x8c x9 h nx =
    if (decide ((x9 : Int) < ((x3n : Nat) : Int))) = true then
    ((x4a).bind fun p1 =>
    if 0 ≤ (x9 : Int) ∧ x9 < ((x4n : Nat) : Int) then
    ((ldA h p1.1 (p1.2 + Int.toNat x9 * 2)).bind fun v2 =>
    (asI .i64 v2).bind fun n3 =>
    if ((n3 : Int) != 0) = true then
    ((x4a).bind fun p4 =>
    if 0 ≤ (x9 : Int) ∧ x9 < ((x4n : Nat) : Int) then
    ((ldA h p4.1 ((p4.2 + Int.toNat x9 * 2) + 1)).bind fun v5 =>
    (asSl v5).bind fun s6 =>
    if (decide ((((s6.2.1 : Nat) : Int) : Int) > 0)) = true then
    (some ((.bool false), h, (nx + 18)))
    else
    (F5_L1' J J call Y lf n0 x3a x3n x3c x4a x4n x4c x6a x6n x6c x7a x7n x7c x8a x8n x8c (wrapA .i64 (x9 + 1)) h (nx + 20)))
    else none)
    else
    ((x3a).bind fun p7 =>
    if 0 ≤ (x9 : Int) ∧ x9 < ((x3n : Nat) : Int) then
    ((ldA h p7.1 (p7.2 + Int.toNat x9 * 2)).bind fun v8 =>
    (asI .i64 v8).bind fun n9 =>
    if ((n9 : Int) == 1) = true then
    (let h10 := AHeap.put h (nx + 19) (some ⟨[(.int .i64 x9)], 1, true⟩)
    (srcS h10 (some ((nx + 19), 0)) 1 1).bind fun q11 =>
    (appD h10 x6a x6n x6c 1 8 (nx + 20) q11).bind fun e12 =>
    let h13 := AHeap.puts h10 e12.sets
    F5_L1' J J call Y lf n0 x3a x3n x3c x4a x4n x4c e12.a e12.n e12.c x7a x7n x7c x8a x8n x8c (wrapA .i64 (x9 + 1)) h13 (nx + 25))
    else
    (if ((n9 : Int) == 3) = true then
    (let h14 := AHeap.put h (nx + 21) (some ⟨[(.int .i64 x9)], 1, true⟩)
    (srcS h14 (some ((nx + 21), 0)) 1 1).bind fun q15 =>
    (appD h14 x7a x7n x7c 1 8 (nx + 22) q15).bind fun e16 =>
    let h17 := AHeap.puts h14 e16.sets
    let h18 := AHeap.put h17 (nx + 25) (some ⟨[(.bool true)], 1, true⟩)
    (srcS h18 (some ((nx + 25), 0)) 1 1).bind fun q19 =>
    (appD h18 x8a x8n x8c 1 1 (nx + 26) q19).bind fun e20 =>
    let h21 := AHeap.puts h18 e20.sets
    F5_L1' J J call Y lf n0 x3a x3n x3c x4a x4n x4c x6a x6n x6c e16.a e16.n e16.c e20.a e20.n e20.c (wrapA .i64 (x9 + 1)) h21 (nx + 31))
    else
    (if ((n9 : Int) == 4) = true then
    ((x3a).bind fun p22 =>
    if 0 ≤ (x9 : Int) ∧ x9 < ((x3n : Nat) : Int) then
    ((ldA h p22.1 ((p22.2 + Int.toNat x9 * 2) + 1)).bind fun v23 =>
    (asI .i64 v23).bind fun n24 =>
    if (decide ((n24 : Int) ≥ ((x8n : Nat) : Int))) = true then
    (some ((.bool false), h, (nx + 30)))
    else
    ((x3a).bind fun p25 =>
    if 0 ≤ (x9 : Int) ∧ x9 < ((x3n : Nat) : Int) then
    ((ldA h p25.1 ((p25.2 + Int.toNat x9 * 2) + 1)).bind fun v26 =>
    (asI .i64 v26).bind fun n27 =>
    (x8a).bind fun p28 =>
    if 0 ≤ (n27 : Int) ∧ n27 < ((x8n : Nat) : Int) then
    ((stA h p28.1 (p28.2 + Int.toNat n27 * 1) (.bool false) 1).bind fun b29 =>
    let h30 := AHeap.put h p28.1 (some b29)
    F5_L1' J J call Y lf n0 x3a x3n x3c x4a x4n x4c x6a x6n x6c x7a x7n x7c x8a x8n x8c (wrapA .i64 (x9 + 1)) h30 (nx + 40))
    else none)
    else none))
    else none)
    else
    (if ((n9 : Int) == 2) = true then
    ((x3a).bind fun p31 =>
    if 0 ≤ (x9 : Int) ∧ x9 < ((x3n : Nat) : Int) then
    ((ldA h p31.1 ((p31.2 + Int.toNat x9 * 2) + 1)).bind fun v32 =>
    (asI .i64 v32).bind fun n33 =>
    if (decide ((n33 : Int) ≥ ((x6n : Nat) : Int))) = true then
    (some ((.bool false), h, (nx + 32)))
    else
    (F5_L2' J J call Y lf n0 lf x3a x3n x3c x4a x4n x4c x6a x6n x6c x7a x7n x7c x8a x8n x8c x9 (-1) 0 h (nx + 33)))
    else none)
    else
    (F5_L1' J J call Y lf n0 x3a x3n x3c x4a x4n x4c x6a x6n x6c x7a x7n x7c x8a x8n x8c (wrapA .i64 (x9 + 1)) h (nx + 26))))))
    else none))
    else none)
    else
    (let h34 := AHeap.put h (nx + 8) (some ⟨[(.int .i64 1), (.int .i64 0), (.int .i64 3), (.int .i64 0), (.int .i64 2), (.int .i64 0), (.int .i64 4), (.int .i64 0)], 2, true⟩)
    (call Y 7 [(.slice (some ((nx + 8), 0)) 4 (some 4))] h34 (nx + 15)).bind fun r35 =>
    (asTup 2 r35.1).bind fun d36 =>
    (asSl (d36.getD 0 .bad)).bind fun s37 =>
    (asB (d36.getD 1 .bad)).bind fun t38 =>
    if t38 = true then
    ((s37.1).bind fun p39 =>
    if 0 ≤ (2 : Int) ∧ 2 < ((s37.2.1 : Nat) : Int) then
    ((ldA r35.2.1 p39.1 ((p39.2 + Int.toNat 2 * 2) + 1)).bind fun v40 =>
    (asSl v40).bind fun s41 =>
    if ((((s41.2.1 : Nat) : Int) : Int) == 0) = true then
    ((s37.1).bind fun p42 =>
    if 0 ≤ (3 : Int) ∧ 3 < ((s37.2.1 : Nat) : Int) then
    ((ldA r35.2.1 p42.1 ((p42.2 + Int.toNat 3 * 2) + 1)).bind fun v43 =>
    (asSl v43).bind fun s44 =>
    some ((.bool ((((s44.2.1 : Nat) : Int) : Int) == 1)), r35.2.1, (r35.2.2 + 18)))
    else none)
    else
    (some ((.bool false), r35.2.1, (r35.2.2 + 18))))
    else none)
    else
    (some ((.bool false), r35.2.1, (r35.2.2 + 18)))) := by kernel_rfl

theorem F5_L1_eq (call : YldF → CallF) (Y : YldF) (lf : Nat) (n0 : Nat) (x3a : Option (Nat × Nat)) (x3n : Nat) (x3c : Option Nat) (x4a : Option (Nat × Nat)) (x4n : Nat) (x4c : Option Nat) (x6a : Option (Nat × Nat)) (x6n : Nat) (x6c : Option Nat) (x7a : Option (Nat × Nat)) (x7n : Nat) (x7c : Option Nat) (x8a : Option (Nat × Nat)) (x8n : Nat) (x8c : Option Nat) (x9 : Int) (h : AHeap) (nx : Nat) : F5_L1 call Y lf (n0 + 1) x3a x3n x3c x4a x4n x4c x6a x6n x6c x7a x7n x7c x8a x8n x8c x9 h nx =
    if (decide ((x9 : Int) < ((x3n : Nat) : Int))) = true then
    ((x4a).bind fun p1 =>
    if 0 ≤ (x9 : Int) ∧ x9 < ((x4n : Nat) : Int) then
    ((ldA h p1.1 (p1.2 + Int.toNat x9 * 2)).bind fun v2 =>
    (asI .i64 v2).bind fun n3 =>
    if ((n3 : Int) != 0) = true then
    ((x4a).bind fun p4 =>
    if 0 ≤ (x9 : Int) ∧ x9 < ((x4n : Nat) : Int) then
    ((ldA h p4.1 ((p4.2 + Int.toNat x9 * 2) + 1)).bind fun v5 =>
    (asSl v5).bind fun s6 =>
    if (decide ((((s6.2.1 : Nat) : Int) : Int) > 0)) = true then
    (some ((.bool false), h, (nx + 18)))
    else
    (F5_L1 call Y lf n0 x3a x3n x3c x4a x4n x4c x6a x6n x6c x7a x7n x7c x8a x8n x8c (wrapA .i64 (x9 + 1)) h (nx + 20)))
    else none)
    else
    ((x3a).bind fun p7 =>
    if 0 ≤ (x9 : Int) ∧ x9 < ((x3n : Nat) : Int) then
    ((ldA h p7.1 (p7.2 + Int.toNat x9 * 2)).bind fun v8 =>
    (asI .i64 v8).bind fun n9 =>
    if ((n9 : Int) == 1) = true then
    (let h10 := AHeap.put h (nx + 19) (some ⟨[(.int .i64 x9)], 1, true⟩)
    (srcS h10 (some ((nx + 19), 0)) 1 1).bind fun q11 =>
    (appD h10 x6a x6n x6c 1 8 (nx + 20) q11).bind fun e12 =>
    let h13 := AHeap.puts h10 e12.sets
    F5_L1 call Y lf n0 x3a x3n x3c x4a x4n x4c e12.a e12.n e12.c x7a x7n x7c x8a x8n x8c (wrapA .i64 (x9 + 1)) h13 (nx + 25))
    else
    (if ((n9 : Int) == 3) = true then
    (let h14 := AHeap.put h (nx + 21) (some ⟨[(.int .i64 x9)], 1, true⟩)
    (srcS h14 (some ((nx + 21), 0)) 1 1).bind fun q15 =>
    (appD h14 x7a x7n x7c 1 8 (nx + 22) q15).bind fun e16 =>
    let h17 := AHeap.puts h14 e16.sets
    let h18 := AHeap.put h17 (nx + 25) (some ⟨[(.bool true)], 1, true⟩)
    (srcS h18 (some ((nx + 25), 0)) 1 1).bind fun q19 =>
    (appD h18 x8a x8n x8c 1 1 (nx + 26) q19).bind fun e20 =>
    let h21 := AHeap.puts h18 e20.sets
    F5_L1 call Y lf n0 x3a x3n x3c x4a x4n x4c x6a x6n x6c e16.a e16.n e16.c e20.a e20.n e20.c (wrapA .i64 (x9 + 1)) h21 (nx + 31))
    else
    (if ((n9 : Int) == 4) = true then
    ((x3a).bind fun p22 =>
    if 0 ≤ (x9 : Int) ∧ x9 < ((x3n : Nat) : Int) then
    ((ldA h p22.1 ((p22.2 + Int.toNat x9 * 2) + 1)).bind fun v23 =>
    (asI .i64 v23).bind fun n24 =>
    if (decide ((n24 : Int) ≥ ((x8n : Nat) : Int))) = true then
    (some ((.bool false), h, (nx + 30)))
    else
    ((x3a).bind fun p25 =>
    if 0 ≤ (x9 : Int) ∧ x9 < ((x3n : Nat) : Int) then
    ((ldA h p25.1 ((p25.2 + Int.toNat x9 * 2) + 1)).bind fun v26 =>
    (asI .i64 v26).bind fun n27 =>
    (x8a).bind fun p28 =>
    if 0 ≤ (n27 : Int) ∧ n27 < ((x8n : Nat) : Int) then
    ((stA h p28.1 (p28.2 + Int.toNat n27 * 1) (.bool false) 1).bind fun b29 =>
    let h30 := AHeap.put h p28.1 (some b29)
    F5_L1 call Y lf n0 x3a x3n x3c x4a x4n x4c x6a x6n x6c x7a x7n x7c x8a x8n x8c (wrapA .i64 (x9 + 1)) h30 (nx + 40))
    else none)
    else none))
    else none)
    else
    (if ((n9 : Int) == 2) = true then
    ((x3a).bind fun p31 =>
    if 0 ≤ (x9 : Int) ∧ x9 < ((x3n : Nat) : Int) then
    ((ldA h p31.1 ((p31.2 + Int.toNat x9 * 2) + 1)).bind fun v32 =>
    (asI .i64 v32).bind fun n33 =>
    if (decide ((n33 : Int) ≥ ((x6n : Nat) : Int))) = true then
    (some ((.bool false), h, (nx + 32)))
    else
    (F5_L2 call Y lf n0 lf x3a x3n x3c x4a x4n x4c x6a x6n x6c x7a x7n x7c x8a x8n x8c x9 (-1) 0 h (nx + 33)))
    else none)
    else
    (F5_L1 call Y lf n0 x3a x3n x3c x4a x4n x4c x6a x6n x6c x7a x7n x7c x8a x8n x8c (wrapA .i64 (x9 + 1)) h (nx + 26))))))
    else none))
    else none)
    else
    (let h34 := AHeap.put h (nx + 8) (some ⟨[(.int .i64 1), (.int .i64 0), (.int .i64 3), (.int .i64 0), (.int .i64 2), (.int .i64 0), (.int .i64 4), (.int .i64 0)], 2, true⟩)
    (call Y 7 [(.slice (some ((nx + 8), 0)) 4 (some 4))] h34 (nx + 15)).bind fun r35 =>
    (asTup 2 r35.1).bind fun d36 =>
    (asSl (d36.getD 0 .bad)).bind fun s37 =>
    (asB (d36.getD 1 .bad)).bind fun t38 =>
    if t38 = true then
    ((s37.1).bind fun p39 =>
    if 0 ≤ (2 : Int) ∧ 2 < ((s37.2.1 : Nat) : Int) then
    ((ldA r35.2.1 p39.1 ((p39.2 + Int.toNat 2 * 2) + 1)).bind fun v40 =>
    (asSl v40).bind fun s41 =>
    if ((((s41.2.1 : Nat) : Int) : Int) == 0) = true then
    ((s37.1).bind fun p42 =>
    if 0 ≤ (3 : Int) ∧ 3 < ((s37.2.1 : Nat) : Int) then
    ((ldA r35.2.1 p42.1 ((p42.2 + Int.toNat 3 * 2) + 1)).bind fun v43 =>
    (asSl v43).bind fun s44 =>
    some ((.bool ((((s44.2.1 : Nat) : Int) : Int) == 1)), r35.2.1, (r35.2.2 + 18)))
    else none)
    else
    (some ((.bool false), r35.2.1, (r35.2.2 + 18))))
    else none)
    else
    (some ((.bool false), r35.2.1, (r35.2.2 + 18)))) := F5_L1_eq' go1 call Y lf n0 x3a x3n x3c x4a x4n x4c x6a x6n x6c x7a x7n x7c x8a x8n x8c x9 h nx

theorem F5_L1_zero (call : YldF → CallF) (Y : YldF) (lf : Nat) (x3a : Option (Nat × Nat)) (x3n : Nat) (x3c : Option Nat) (x4a : Option (Nat × Nat)) (x4n : Nat) (x4c : Option Nat) (x6a : Option (Nat × Nat)) (x6n : Nat) (x6c : Option Nat) (x7a : Option (Nat × Nat)) (x7n : Nat) (x7c : Option Nat) (x8a : Option (Nat × Nat)) (x8n : Nat) (x8c : Option Nat) (x9 : Int) (h : AHeap) (nx : Nat) : F5_L1 call Y lf 0 x3a x3n x3c x4a x4n x4c x6a x6n x6c x7a x7n x7c x8a x8n x8c x9 h nx = none := by kernel_rfl

theorem F5_L2_eq' (J : StepF (AV × AHeap × Nat) → StepF (AV × AHeap × Nat)) (call : YldF → CallF) (Y : YldF) (lf : Nat) (n0 : Nat) (n1 : Nat) (x3a : Option (Nat × Nat)) (x3n : Nat) (x3c : Option Nat) (x4a : Option (Nat × Nat)) (x4n : Nat) (x4c : Option Nat) (x6a : Option (Nat × Nat)) (x6n : Nat) (x6c : Option Nat) (x7a : Option (Nat × Nat)) (x7n : Nat) (x7c : Option Nat) (x8a : Option (Nat × Nat)) (x8n : Nat) (x8c : Option Nat) (x9 : Int) (x10 : Int) (x11 : Int) (h : AHeap) (nx : Nat) : F5_L2' go1 J call Y lf n0 (n1 + 1) x3a x3n x3c x4a x4n x4c x6a x6n x6c x7a x7n x7c x8a x8n x8c x9 x10 x11 h nx =
    if (decide ((x11 : Int) < ((x7n : Nat) : Int))) = true then
    ((x8a).bind fun p1 =>
    if 0 ≤ (x11 : Int) ∧ x11 < ((x8n : Nat) : Int) then
    ((ldA h p1.1 (p1.2 + Int.toNat x11 * 1)).bind fun v2 =>
    (asB v2).bind fun t3 =>
    if t3 = true then
    ((x7a).bind fun p4 =>
    if 0 ≤ (x11 : Int) ∧ x11 < ((x7n : Nat) : Int) then
    ((ldA h p4.1 (p4.2 + Int.toNat x11 * 1)).bind fun v5 =>
    (asI .i64 v5).bind fun n6 =>
    F5_L2' J J call Y lf n0 n1 x3a x3n x3c x4a x4n x4c x6a x6n x6c x7a x7n x7c x8a x8n x8c x9 n6 (wrapA .i64 (x11 + 1)) h (nx + 16))
    else none)
    else
    (F5_L2' J J call Y lf n0 n1 x3a x3n x3c x4a x4n x4c x6a x6n x6c x7a x7n x7c x8a x8n x8c x9 x10 (wrapA .i64 (x11 + 1)) h (nx + 11)))
    else none)
    else
    ((x4a).bind fun p7 =>
    if 0 ≤ (x9 : Int) ∧ x9 < ((x4n : Nat) : Int) then
    ((ldA h p7.1 ((p7.2 + Int.toNat x9 * 2) + 1)).bind fun v8 =>
    (asSl v8).bind fun s9 =>
    if ((((s9.2.1 : Nat) : Int) : Int) == 1) = true then
    ((x4a).bind fun p10 =>
    if 0 ≤ (x9 : Int) ∧ x9 < ((x4n : Nat) : Int) then
    ((ldA h p10.1 ((p10.2 + Int.toNat x9 * 2) + 1)).bind fun v11 =>
    (asSl v11).bind fun s12 =>
    (s12.1).bind fun p13 =>
    if 0 ≤ (0 : Int) ∧ 0 < ((s12.2.1 : Nat) : Int) then
    ((ldA h p13.1 (p13.2 + Int.toNat 0 * 1)).bind fun v14 =>
    (asI .i64 v14).bind fun n15 =>
    (x3a).bind fun p16 =>
    if 0 ≤ (x9 : Int) ∧ x9 < ((x3n : Nat) : Int) then
    ((ldA h p16.1 ((p16.2 + Int.toNat x9 * 2) + 1)).bind fun v17 =>
    (asI .i64 v17).bind fun n18 =>
    (x3a).bind fun p19 =>
    if 0 ≤ (x9 : Int) ∧ x9 < ((x3n : Nat) : Int) then
    ((ldA h p19.1 ((p19.2 + Int.toNat x9 * 2) + 1)).bind fun v20 =>
    (asI .i64 v20).bind fun n21 =>
    (x6a).bind fun p22 =>
    if 0 ≤ (n21 : Int) ∧ n21 < ((x6n : Nat) : Int) then
    ((ldA h p22.1 (p22.2 + Int.toNat n21 * 1)).bind fun v23 =>
    (asI .i64 v23).bind fun n24 =>
    if (!(((n15 : Int) == n18) == (decide ((n24 : Int) > x10)))) = true then
    (some ((.bool false), h, (nx + 38)))
    else
    (F5_L1' J J call Y lf n0 x3a x3n x3c x4a x4n x4c x6a x6n x6c x7a x7n x7c x8a x8n x8c (wrapA .i64 (x9 + 1)) h (nx + 40)))
    else none)
    else none)
    else none)
    else none)
    else none)
    else
    ((x3a).bind fun p25 =>
    if 0 ≤ (x9 : Int) ∧ x9 < ((x3n : Nat) : Int) then
    ((ldA h p25.1 ((p25.2 + Int.toNat x9 * 2) + 1)).bind fun v26 =>
    (asI .i64 v26).bind fun n27 =>
    (x6a).bind fun p28 =>
    if 0 ≤ (n27 : Int) ∧ n27 < ((x6n : Nat) : Int) then
    ((ldA h p28.1 (p28.2 + Int.toNat n27 * 1)).bind fun v29 =>
    (asI .i64 v29).bind fun n30 =>
    if (!(false == (decide ((n30 : Int) > x10)))) = true then
    (some ((.bool false), h, (nx + 38)))
    else
    (F5_L1' J J call Y lf n0 x3a x3n x3c x4a x4n x4c x6a x6n x6c x7a x7n x7c x8a x8n x8c (wrapA .i64 (x9 + 1)) h (nx + 40)))
    else none)
    else none))
    else none) := by kernel_rfl

theorem F5_L2_eq (call : YldF → CallF) (Y : YldF) (lf : Nat) (n0 : Nat) (n1 : Nat) (x3a : Option (Nat × Nat)) (x3n : Nat) (x3c : Option Nat) (x4a : Option (Nat × Nat)) (x4n : Nat) (x4c : Option Nat) (x6a : Option (Nat × Nat)) (x6n : Nat) (x6c : Option Nat) (x7a : Option (Nat × Nat)) (x7n : Nat) (x7c : Option Nat) (x8a : Option (Nat × Nat)) (x8n : Nat) (x8c : Option Nat) (x9 : Int) (x10 : Int) (x11 : Int) (h : AHeap) (nx : Nat) : F5_L2 call Y lf n0 (n1 + 1) x3a x3n x3c x4a x4n x4c x6a x6n x6c x7a x7n x7c x8a x8n x8c x9 x10 x11 h nx =
    if (decide ((x11 : Int) < ((x7n : Nat) : Int))) = true then
    ((x8a).bind fun p1 =>
    if 0 ≤ (x11 : Int) ∧ x11 < ((x8n : Nat) : Int) then
    ((ldA h p1.1 (p1.2 + Int.toNat x11 * 1)).bind fun v2 =>
    (asB v2).bind fun t3 =>
    if t3 = true then
    ((x7a).bind fun p4 =>
    if 0 ≤ (x11 : Int) ∧ x11 < ((x7n : Nat) : Int) then
    ((ldA h p4.1 (p4.2 + Int.toNat x11 * 1)).bind fun v5 =>
    (asI .i64 v5).bind fun n6 =>
    F5_L2 call Y lf n0 n1 x3a x3n x3c x4a x4n x4c x6a x6n x6c x7a x7n x7c x8a x8n x8c x9 n6 (wrapA .i64 (x11 + 1)) h (nx + 16))
    else none)
    else
    (F5_L2 call Y lf n0 n1 x3a x3n x3c x4a x4n x4c x6a x6n x6c x7a x7n x7c x8a x8n x8c x9 x10 (wrapA .i64 (x11 + 1)) h (nx + 11)))
    else none)
    else
    ((x4a).bind fun p7 =>
    if 0 ≤ (x9 : Int) ∧ x9 < ((x4n : Nat) : Int) then
    ((ldA h p7.1 ((p7.2 + Int.toNat x9 * 2) + 1)).bind fun v8 =>
    (asSl v8).bind fun s9 =>
    if ((((s9.2.1 : Nat) : Int) : Int) == 1) = true then
    ((x4a).bind fun p10 =>
    if 0 ≤ (x9 : Int) ∧ x9 < ((x4n : Nat) : Int) then
    ((ldA h p10.1 ((p10.2 + Int.toNat x9 * 2) + 1)).bind fun v11 =>
    (asSl v11).bind fun s12 =>
    (s12.1).bind fun p13 =>
    if 0 ≤ (0 : Int) ∧ 0 < ((s12.2.1 : Nat) : Int) then
    ((ldA h p13.1 (p13.2 + Int.toNat 0 * 1)).bind fun v14 =>
    (asI .i64 v14).bind fun n15 =>
    (x3a).bind fun p16 =>
    if 0 ≤ (x9 : Int) ∧ x9 < ((x3n : Nat) : Int) then
    ((ldA h p16.1 ((p16.2 + Int.toNat x9 * 2) + 1)).bind fun v17 =>
    (asI .i64 v17).bind fun n18 =>
    (x3a).bind fun p19 =>
    if 0 ≤ (x9 : Int) ∧ x9 < ((x3n : Nat) : Int) then
    ((ldA h p19.1 ((p19.2 + Int.toNat x9 * 2) + 1)).bind fun v20 =>
    (asI .i64 v20).bind fun n21 =>
    (x6a).bind fun p22 =>
    if 0 ≤ (n21 : Int) ∧ n21 < ((x6n : Nat) : Int) then
    ((ldA h p22.1 (p22.2 + Int.toNat n21 * 1)).bind fun v23 =>
    (asI .i64 v23).bind fun n24 =>
    if (!(((n15 : Int) == n18) == (decide ((n24 : Int) > x10)))) = true then
    (some ((.bool false), h, (nx + 38)))
    else
    (F5_L1 call Y lf n0 x3a x3n x3c x4a x4n x4c x6a x6n x6c x7a x7n x7c x8a x8n x8c (wrapA .i64 (x9 + 1)) h (nx + 40)))
    else none)
    else none)
    else none)
    else none)
    else none)
    else
    ((x3a).bind fun p25 =>
    if 0 ≤ (x9 : Int) ∧ x9 < ((x3n : Nat) : Int) then
    ((ldA h p25.1 ((p25.2 + Int.toNat x9 * 2) + 1)).bind fun v26 =>
    (asI .i64 v26).bind fun n27 =>
    (x6a).bind fun p28 =>
    if 0 ≤ (n27 : Int) ∧ n27 < ((x6n : Nat) : Int) then
    ((ldA h p28.1 (p28.2 + Int.toNat n27 * 1)).bind fun v29 =>
    (asI .i64 v29).bind fun n30 =>
    if (!(false == (decide ((n30 : Int) > x10)))) = true then
    (some ((.bool false), h, (nx + 38)))
    else
    (F5_L1 call Y lf n0 x3a x3n x3c x4a x4n x4c x6a x6n x6c x7a x7n x7c x8a x8n x8c (wrapA .i64 (x9 + 1)) h (nx + 40)))
    else none)
    else none))
    else none) := F5_L2_eq' go1 call Y lf n0 n1 x3a x3n x3c x4a x4n x4c x6a x6n x6c x7a x7n x7c x8a x8n x8c x9 x10 x11 h nx

theorem F5_L2_zero (call : YldF → CallF) (Y : YldF) (lf : Nat) (n0 : Nat) (x3a : Option (Nat × Nat)) (x3n : Nat) (x3c : Option Nat) (x4a : Option (Nat × Nat)) (x4n : Nat) (x4c : Option Nat) (x6a : Option (Nat × Nat)) (x6n : Nat) (x6c : Option Nat) (x7a : Option (Nat × Nat)) (x7n : Nat) (x7c : Option Nat) (x8a : Option (Nat × Nat)) (x8n : Nat) (x8c : Option Nat) (x9 : Int) (x10 : Int) (x11 : Int) (h : AHeap) (nx : Nat) : F5_L2 call Y lf n0 0 x3a x3n x3c x4a x4n x4c x6a x6n x6c x7a x7n x7c x8a x8n x8c x9 x10 x11 h nx = none := by kernel_rfl

theorem F5_eq' (J : StepF (AV × AHeap × Nat) → StepF (AV × AHeap × Nat)) (n : Nat) (Y : YldF) (x0a : Option (Nat × Nat)) (x0n : Nat) (x0c : Option Nat) (h : AHeap) (nx : Nat) : rootJ J Try.prog keepT (callP Try.prog keepT n) Y n 5 [(.slice x0a x0n x0c)] h nx =
    ((callP Try.prog keepT n) Y 6 [(.slice x0a x0n x0c), (.int .i64 150)] h (nx + 4)).bind fun r1 =>
    (asSl r1.1).bind fun s2 =>
    ((callP Try.prog keepT n) Y 7 [(.slice s2.1 s2.2.1 s2.2.2)] r1.2.1 (r1.2.2 + 7)).bind fun r3 =>
    (asTup 2 r3.1).bind fun d4 =>
    (asSl (d4.getD 0 .bad)).bind fun s5 =>
    (asB (d4.getD 1 .bad)).bind fun t6 =>
    if (!t6) = true then
    (some ((.bool false), r3.2.1, (r3.2.2 + 3)))
    else
    (F5_L1' J J (callP Try.prog keepT n) Y n n s2.1 s2.2.1 s2.2.2 s5.1 s5.2.1 s5.2.2 none 0 none none 0 none none 0 none 0 r3.2.1 (r3.2.2 + 6)) := by kernel_rfl

/-- quickset/quicksetkeep.SnapBirths -/
theorem F5_eq (n : Nat) (Y : YldF) (x0a : Option (Nat × Nat)) (x0n : Nat) (x0c : Option Nat) (h : AHeap) (nx : Nat) : callP Try.prog keepT (n + 1) Y 5 [(.slice x0a x0n x0c)] h nx =
    ((callP Try.prog keepT n) Y 6 [(.slice x0a x0n x0c), (.int .i64 150)] h (nx + 4)).bind fun r1 =>
    (asSl r1.1).bind fun s2 =>
    ((callP Try.prog keepT n) Y 7 [(.slice s2.1 s2.2.1 s2.2.2)] r1.2.1 (r1.2.2 + 7)).bind fun r3 =>
    (asTup 2 r3.1).bind fun d4 =>
    (asSl (d4.getD 0 .bad)).bind fun s5 =>
    (asB (d4.getD 1 .bad)).bind fun t6 =>
    if (!t6) = true then
    (some ((.bool false), r3.2.1, (r3.2.2 + 3)))
    else
    (F5_L1 (callP Try.prog keepT n) Y n n s2.1 s2.2.1 s2.2.2 s5.1 s5.2.1 s5.2.2 none 0 none none 0 none none 0 none 0 r3.2.1 (r3.2.2 + 6)) := F5_eq' go1 n Y x0a x0n x0c h nx

noncomputable def c6 : Code := (Try.f6.body).getD .skip

noncomputable def r6 : List ResultVar := Try.f6.results.toList

noncomputable def F6_L1' (W J : StepF (AV × AHeap × Nat) → StepF (AV × AHeap × Nat)) (call : YldF → CallF) (Y : YldF) (lf : Nat) (n0 : Nat) (x0a : Option (Nat × Nat)) (x0n : Nat) (x0c : Option Nat) (x1 : Int) (x5a : Option (Nat × Nat)) (x5n : Nat) (x5c : Option Nat) (x6a : Option (Nat × Nat)) (x6n : Nat) (x6c : Option Nat) (x7 : Int) (h : AHeap) (nx : Nat) : Option (AV × AHeap × Nat) :=
  goK W J drawK (machOf Try.prog) call Y (keepT 6) lf c6 [1, 1, 1, 0, 1, 0, 9] [n0] (retK (machOf Try.prog) ⟨c6, 40, r6, keepT 6⟩) ⟨40, mkL [(0, (.slice x0a x0n x0c)), (1, (.int .i64 x1)), (5, (.slice x5a x5n x5c)), (6, (.slice x6a x6n x6c)), (7, (.int .i64 x7))]⟩ h nx

noncomputable def F6_L1 (call : YldF → CallF) (Y : YldF) (lf : Nat) (n0 : Nat) (x0a : Option (Nat × Nat)) (x0n : Nat) (x0c : Option Nat) (x1 : Int) (x5a : Option (Nat × Nat)) (x5n : Nat) (x5c : Option Nat) (x6a : Option (Nat × Nat)) (x6n : Nat) (x6c : Option Nat) (x7 : Int) (h : AHeap) (nx : Nat) : Option (AV × AHeap × Nat) := F6_L1' go1 go1 call Y lf n0 x0a x0n x0c x1 x5a x5n x5c x6a x6n x6c x7 h nx

noncomputable def F6_J2' (W J : StepF (AV × AHeap × Nat) → StepF (AV × AHeap × Nat)) (call : YldF → CallF) (Y : YldF) (lf : Nat) (n0 : Nat) (x0a : Option (Nat × Nat)) (x0n : Nat) (x0c : Option Nat) (x1 : Int) (x5a : Option (Nat × Nat)) (x5n : Nat) (x5c : Option Nat) (x6a : Option (Nat × Nat)) (x6n : Nat) (x6c : Option Nat) (x7 : Int) (h : AHeap) (nx : Nat) : Option (AV × AHeap × Nat) :=
  goK W J drawK (machOf Try.prog) call Y (keepT 6) lf c6 [1, 1, 1, 0, 1, 0, 0, 1] [n0] (retK (machOf Try.prog) ⟨c6, 40, r6, keepT 6⟩) ⟨40, mkL [(0, (.slice x0a x0n x0c)), (1, (.int .i64 x1)), (5, (.slice x5a x5n x5c)), (6, (.slice x6a x6n x6c)), (7, (.int .i64 x7))]⟩ h nx

noncomputable def F6_J2 (call : YldF → CallF) (Y : YldF) (lf : Nat) (n0 : Nat) (x0a : Option (Nat × Nat)) (x0n : Nat) (x0c : Option Nat) (x1 : Int) (x5a : Option (Nat × Nat)) (x5n : Nat) (x5c : Option Nat) (x6a : Option (Nat × Nat)) (x6n : Nat) (x6c : Option Nat) (x7 : Int) (h : AHeap) (nx : Nat) : Option (AV × AHeap × Nat) := F6_J2' go1 go1 call Y lf n0 x0a x0n x0c x1 x5a x5n x5c x6a x6n x6c x7 h nx

theorem F6_L1_eq' (J : StepF (AV × AHeap × Nat) → StepF (AV × AHeap × Nat)) (call : YldF → CallF) (Y : YldF) (lf : Nat) (n0 : Nat) (x0a : Option (Nat × Nat)) (x0n : Nat) (x0c : Option Nat) (x1 : Int) (x5a : Option (Nat × Nat)) (x5n : Nat) (x5c : Option Nat) (x6a : Option (Nat × Nat)) (x6n : Nat) (x6c : Option Nat) (x7 : Int) (h : AHeap) (nx : Nat) : F6_L1' go1 J call Y lf (n0 + 1) x0a x0n x0c x1 x5a x5n x5c x6a x6n x6c x7 h nx =
    if (decide ((x7 : Int) < ((x0n : Nat) : Int))) = true then
    (if (decide ((x7 : Int) < x1)) = true then
    (F6_J2' J J call Y lf n0 x0a x0n x0c x1 x5a x5n x5c x6a x6n x6c x7 h (nx + 9))
    else
    (some ((.slice x6a x6n x6c), h, (nx + 11))))
    else
    (some ((.slice x6a x6n x6c), h, (nx + 11))) := by kernel_rfl

theorem F6_L1_eq (call : YldF → CallF) (Y : YldF) (lf : Nat) (n0 : Nat) (x0a : Option (Nat × Nat)) (x0n : Nat) (x0c : Option Nat) (x1 : Int) (x5a : Option (Nat × Nat)) (x5n : Nat) (x5c : Option Nat) (x6a : Option (Nat × Nat)) (x6n : Nat) (x6c : Option Nat) (x7 : Int) (h : AHeap) (nx : Nat) : F6_L1 call Y lf (n0 + 1) x0a x0n x0c x1 x5a x5n x5c x6a x6n x6c x7 h nx =
    if (decide ((x7 : Int) < ((x0n : Nat) : Int))) = true then
    (if (decide ((x7 : Int) < x1)) = true then
    (F6_J2 call Y lf n0 x0a x0n x0c x1 x5a x5n x5c x6a x6n x6c x7 h (nx + 9))
    else
    (some ((.slice x6a x6n x6c), h, (nx + 11))))
    else
    (some ((.slice x6a x6n x6c), h, (nx + 11))) := F6_L1_eq' go1 call Y lf n0 x0a x0n x0c x1 x5a x5n x5c x6a x6n x6c x7 h nx

theorem F6_L1_zero (call : YldF → CallF) (Y : YldF) (lf : Nat) (x0a : Option (Nat × Nat)) (x0n : Nat) (x0c : Option Nat) (x1 : Int) (x5a : Option (Nat × Nat)) (x5n : Nat) (x5c : Option Nat) (x6a : Option (Nat × Nat)) (x6n : Nat) (x6c : Option Nat) (x7 : Int) (h : AHeap) (nx : Nat) : F6_L1 call Y lf 0 x0a x0n x0c x1 x5a x5n x5c x6a x6n x6c x7 h nx = none := by kernel_rfl

theorem F6_J2_eq' (J : StepF (AV × AHeap × Nat) → StepF (AV × AHeap × Nat)) (call : YldF → CallF) (Y : YldF) (lf : Nat) (n0 : Nat) (x0a : Option (Nat × Nat)) (x0n : Nat) (x0c : Option Nat) (x1 : Int) (x5a : Option (Nat × Nat)) (x5n : Nat) (x5c : Option Nat) (x6a : Option (Nat × Nat)) (x6n : Nat) (x6c : Option Nat) (x7 : Int) (h : AHeap) (nx : Nat) : F6_J2' go1 J call Y lf n0 x0a x0n x0c x1 x5a x5n x5c x6a x6n x6c x7 h nx =
    (x0a).bind fun p1 =>
    if 0 ≤ (x7 : Int) ∧ x7 < ((x0n : Nat) : Int) then
    ((ldA h p1.1 (p1.2 + Int.toNat x7 * 2)).bind fun v2 =>
    (asI .i64 v2).bind fun n3 =>
    (call Y 8 [(.int .i64 n3), (.int .i64 7)] h (nx + 20)).bind fun r4 =>
    (asI .i64 r4.1).bind fun n5 =>
    (x5a).bind fun p6 =>
    if 0 ≤ (n5 : Int) ∧ n5 < ((x5n : Nat) : Int) then
    ((ldA r4.2.1 p6.1 (p6.2 + Int.toNat n5 * 1)).bind fun v7 =>
    (asI .i64 v7).bind fun n8 =>
    (x0a).bind fun p9 =>
    if 0 ≤ (x7 : Int) ∧ x7 < ((x0n : Nat) : Int) then
    ((ldA r4.2.1 p9.1 ((p9.2 + Int.toNat x7 * 2) + 1)).bind fun v10 =>
    (asI .i64 v10).bind fun n11 =>
    (call Y 8 [(.int .i64 n11), (.int .i64 12)] r4.2.1 r4.2.2).bind fun r12 =>
    (asI .i64 r12.1).bind fun n13 =>
    let h14 := AHeap.put r12.2.1 (nx + 17) (some ⟨[(.int .i64 n8), (.int .i64 n13)], 2, true⟩)
    (srcS h14 (some ((nx + 17), 0)) 1 2).bind fun q15 =>
    (appD h14 x6a x6n x6c 2 16 (nx + 18) q15).bind fun e16 =>
    let h17 := AHeap.puts h14 e16.sets
    ifKept [(h, r4.2.1, [p9.1]), (r4.2.1, r12.2.1, [p6.1])]
    (F6_L1' J J call Y lf n0 x0a x0n x0c x1 x5a x5n x5c e16.a e16.n e16.c (wrapA .i64 (x7 + 1)) h17 (r12.2.2 + 3)))
    else none)
    else none)
    else none := by kernel_rfl

theorem F6_J2_eq (call : YldF → CallF) (Y : YldF) (lf : Nat) (n0 : Nat) (x0a : Option (Nat × Nat)) (x0n : Nat) (x0c : Option Nat) (x1 : Int) (x5a : Option (Nat × Nat)) (x5n : Nat) (x5c : Option Nat) (x6a : Option (Nat × Nat)) (x6n : Nat) (x6c : Option Nat) (x7 : Int) (h : AHeap) (nx : Nat) : F6_J2 call Y lf n0 x0a x0n x0c x1 x5a x5n x5c x6a x6n x6c x7 h nx =
    (x0a).bind fun p1 =>
    if 0 ≤ (x7 : Int) ∧ x7 < ((x0n : Nat) : Int) then
    ((ldA h p1.1 (p1.2 + Int.toNat x7 * 2)).bind fun v2 =>
    (asI .i64 v2).bind fun n3 =>
    (call Y 8 [(.int .i64 n3), (.int .i64 7)] h (nx + 20)).bind fun r4 =>
    (asI .i64 r4.1).bind fun n5 =>
    (x5a).bind fun p6 =>
    if 0 ≤ (n5 : Int) ∧ n5 < ((x5n : Nat) : Int) then
    ((ldA r4.2.1 p6.1 (p6.2 + Int.toNat n5 * 1)).bind fun v7 =>
    (asI .i64 v7).bind fun n8 =>
    (x0a).bind fun p9 =>
    if 0 ≤ (x7 : Int) ∧ x7 < ((x0n : Nat) : Int) then
    ((ldA r4.2.1 p9.1 ((p9.2 + Int.toNat x7 * 2) + 1)).bind fun v10 =>
    (asI .i64 v10).bind fun n11 =>
    (call Y 8 [(.int .i64 n11), (.int .i64 12)] r4.2.1 r4.2.2).bind fun r12 =>
    (asI .i64 r12.1).bind fun n13 =>
    let h14 := AHeap.put r12.2.1 (nx + 17) (some ⟨[(.int .i64 n8), (.int .i64 n13)], 2, true⟩)
    (srcS h14 (some ((nx + 17), 0)) 1 2).bind fun q15 =>
    (appD h14 x6a x6n x6c 2 16 (nx + 18) q15).bind fun e16 =>
    let h17 := AHeap.puts h14 e16.sets
    ifKept [(h, r4.2.1, [p9.1]), (r4.2.1, r12.2.1, [p6.1])]
    (F6_L1 call Y lf n0 x0a x0n x0c x1 x5a x5n x5c e16.a e16.n e16.c (wrapA .i64 (x7 + 1)) h17 (r12.2.2 + 3)))
    else none)
    else none)
    else none := F6_J2_eq' go1 call Y lf n0 x0a x0n x0c x1 x5a x5n x5c x6a x6n x6c x7 h nx

theorem F6_eq' (J : StepF (AV × AHeap × Nat) → StepF (AV × AHeap × Nat)) (n : Nat) (Y : YldF) (x0a : Option (Nat × Nat)) (x0n : Nat) (x0c : Option Nat) (x1 : Int) (h : AHeap) (nx : Nat) : rootJ J Try.prog keepT (callP Try.prog keepT n) Y n 6 [(.slice x0a x0n x0c), (.int .i64 x1)] h nx =
    let h1 := AHeap.put h (nx + 1) (some ⟨[(.int .i64 1), (.int .i64 1), (.int .i64 1), (.int .i64 2), (.int .i64 2), (.int .i64 3), (.int .i64 4)], 1, true⟩)
    F6_L1' J J (callP Try.prog keepT n) Y n n x0a x0n x0c x1 (some ((nx + 1), 0)) 7 (some 7) none 0 none 0 h1 (nx + 5) := by kernel_rfl

/-- quickset/quicksetkeep.MovesOf -/
theorem F6_eq (n : Nat) (Y : YldF) (x0a : Option (Nat × Nat)) (x0n : Nat) (x0c : Option Nat) (x1 : Int) (h : AHeap) (nx : Nat) : callP Try.prog keepT (n + 1) Y 6 [(.slice x0a x0n x0c), (.int .i64 x1)] h nx =
    let h1 := AHeap.put h (nx + 1) (some ⟨[(.int .i64 1), (.int .i64 1), (.int .i64 1), (.int .i64 2), (.int .i64 2), (.int .i64 3), (.int .i64 4)], 1, true⟩)
    F6_L1 (callP Try.prog keepT n) Y n n x0a x0n x0c x1 (some ((nx + 1), 0)) 7 (some 7) none 0 none 0 h1 (nx + 5) := F6_eq' go1 n Y x0a x0n x0c x1 h nx

noncomputable def c7 : Code := (Try.f7.body).getD .skip

noncomputable def r7 : List ResultVar := Try.f7.results.toList

theorem F7_eq' (J : StepF (AV × AHeap × Nat) → StepF (AV × AHeap × Nat)) (n : Nat) (Y : YldF) (x0a : Option (Nat × Nat)) (x0n : Nat) (x0c : Option Nat) (h : AHeap) (nx : Nat) : rootJ J Try.prog keepT (callP Try.prog keepT n) Y n 7 [(.slice x0a x0n x0c)] h nx =
    (srcS h x0a x0n 2).bind fun q1 =>
    (appD h none 0 none 2 16 (nx + 3) q1).bind fun e2 =>
    let h3 := AHeap.puts h e2.sets
    ((callP Try.prog keepT n) Y 9 [(.slice e2.a e2.n e2.c)] h3 (nx + 10)).bind fun r4 =>
    (asTup 2 r4.1).bind fun d5 =>
    (asSl (d5.getD 0 .bad)).bind fun s6 =>
    (asI .i64 (d5.getD 1 .bad)).bind fun n7 =>
    if ((n7 : Int) == 0) = true then
    (some ((.tuple [(.slice s6.1 s6.2.1 s6.2.2), (.bool ((((s6.2.1 : Nat) : Int) : Int) == ((x0n : Nat) : Int)))]), r4.2.1, (r4.2.2 + 12)))
    else
    (some ((.tuple [(.slice s6.1 s6.2.1 s6.2.2), (.bool false)]), r4.2.1, (r4.2.2 + 12))) := by kernel_rfl

/-- quickset/quicksetkeep.snapped -/
theorem F7_eq (n : Nat) (Y : YldF) (x0a : Option (Nat × Nat)) (x0n : Nat) (x0c : Option Nat) (h : AHeap) (nx : Nat) : callP Try.prog keepT (n + 1) Y 7 [(.slice x0a x0n x0c)] h nx =
    (srcS h x0a x0n 2).bind fun q1 =>
    (appD h none 0 none 2 16 (nx + 3) q1).bind fun e2 =>
    let h3 := AHeap.puts h e2.sets
    ((callP Try.prog keepT n) Y 9 [(.slice e2.a e2.n e2.c)] h3 (nx + 10)).bind fun r4 =>
    (asTup 2 r4.1).bind fun d5 =>
    (asSl (d5.getD 0 .bad)).bind fun s6 =>
    (asI .i64 (d5.getD 1 .bad)).bind fun n7 =>
    if ((n7 : Int) == 0) = true then
    (some ((.tuple [(.slice s6.1 s6.2.1 s6.2.2), (.bool ((((s6.2.1 : Nat) : Int) : Int) == ((x0n : Nat) : Int)))]), r4.2.1, (r4.2.2 + 12)))
    else
    (some ((.tuple [(.slice s6.1 s6.2.1 s6.2.2), (.bool false)]), r4.2.1, (r4.2.2 + 12))) := F7_eq' go1 n Y x0a x0n x0c h nx

noncomputable def c8 : Code := (Try.f8.body).getD .skip

noncomputable def r8 : List ResultVar := Try.f8.results.toList

theorem F8_eq' (J : StepF (AV × AHeap × Nat) → StepF (AV × AHeap × Nat)) (n : Nat) (Y : YldF) (x0 : Int) (x1 : Int) (h : AHeap) (nx : Nat) : rootJ J Try.prog keepT (callP Try.prog keepT n) Y n 8 [(.int .i64 x0), (.int .i64 x1)] h nx =
    if (x1 : Int) = 0 then none else
    (if (decide (((Int.tmod x0 x1) : Int) < 0)) = true then
    (some ((.int .i64 (wrapA .i64 ((Int.tmod x0 x1) + x1))), h, (nx + 11)))
    else
    (some ((.int .i64 (Int.tmod x0 x1)), h, (nx + 9)))) := by kernel_rfl

/-- quickset/quicksetkeep.Picked -/
theorem F8_eq (n : Nat) (Y : YldF) (x0 : Int) (x1 : Int) (h : AHeap) (nx : Nat) : callP Try.prog keepT (n + 1) Y 8 [(.int .i64 x0), (.int .i64 x1)] h nx =
    if (x1 : Int) = 0 then none else
    (if (decide (((Int.tmod x0 x1) : Int) < 0)) = true then
    (some ((.int .i64 (wrapA .i64 ((Int.tmod x0 x1) + x1))), h, (nx + 11)))
    else
    (some ((.int .i64 (Int.tmod x0 x1)), h, (nx + 9)))) := F8_eq' go1 n Y x0 x1 h nx

noncomputable def c9 : Code := (Try.f9.body).getD .skip

noncomputable def r9 : List ResultVar := Try.f9.results.toList

noncomputable def F9_L1' (W J : StepF (AV × AHeap × Nat) → StepF (AV × AHeap × Nat)) (call : YldF → CallF) (Y : YldF) (lf : Nat) (n0 : Nat) (x4 : Option (Nat × Nat)) (x5a : Option (Nat × Nat)) (x5n : Nat) (x5c : Option Nat) (x13a : Option (Nat × Nat)) (x13n : Nat) (x13c : Option Nat) (x14 : Int) (x15 : Int) (h : AHeap) (nx : Nat) : Option (AV × AHeap × Nat) :=
  goK W J drawK (machOf Try.prog) call Y (keepT 9) lf c9 [1, 1, 1, 1, 0, 1, 0, 9] [n0] (retK (machOf Try.prog) ⟨c9, 34, r9, keepT 9⟩) ⟨34, mkL [(4, (.ptr x4)), (5, (.slice x5a x5n x5c)), (13, (.slice x13a x13n x13c)), (14, (.int .i64 x14)), (15, (.int .i64 x15))]⟩ h nx

noncomputable def F9_L1 (call : YldF → CallF) (Y : YldF) (lf : Nat) (n0 : Nat) (x4 : Option (Nat × Nat)) (x5a : Option (Nat × Nat)) (x5n : Nat) (x5c : Option Nat) (x13a : Option (Nat × Nat)) (x13n : Nat) (x13c : Option Nat) (x14 : Int) (x15 : Int) (h : AHeap) (nx : Nat) : Option (AV × AHeap × Nat) := F9_L1' go1 go1 call Y lf n0 x4 x5a x5n x5c x13a x13n x13c x14 x15 h nx

theorem F9_L1_eq' (J : StepF (AV × AHeap × Nat) → StepF (AV × AHeap × Nat)) (call : YldF → CallF) (Y : YldF) (lf : Nat) (n0 : Nat) (x4 : Option (Nat × Nat)) (x5a : Option (Nat × Nat)) (x5n : Nat) (x5c : Option Nat) (x13a : Option (Nat × Nat)) (x13n : Nat) (x13c : Option Nat) (x14 : Int) (x15 : Int) (h : AHeap) (nx : Nat) : F9_L1' go1 J call Y lf (n0 + 1) x4 x5a x5n x5c x13a x13n x13c x14 x15 h nx =
    if (decide ((x15 : Int) < x14)) = true then
    ((x13a).bind fun p1 =>
    if 0 ≤ (x15 : Int) ∧ x15 < ((x13n : Nat) : Int) then
    ((ldR h p1.1 (p1.2 + Int.toNat x15 * 2) 2).bind fun l2 =>
    (asAgg 2 (AV.agg l2)).bind fun d3 =>
    (asI .i64 (d3.getD 0 .bad)).bind fun n4 =>
    (asI .i64 (d3.getD 1 .bad)).bind fun n5 =>
    let h6 := AHeap.put h (nx + 3) (some ⟨[(.int .i64 0), (.int .i64 0)], 2, true⟩)
    (stA h6 (nx + 3) 0 (.agg [(.int .i64 n4), (.int .i64 n5)]) 2).bind fun b7 =>
    let h8 := AHeap.put h6 (nx + 3) (some b7)
    (x4).bind fun p9 =>
    (ldA h8 p9.1 p9.2).bind fun v10 =>
    (asI .i64 v10).bind fun n11 =>
    (x4).bind fun p12 =>
    (stA h8 p12.1 p12.2 (.int .i64 (wrapA .i64 (n11 + 1))) 1).bind fun b13 =>
    let h14 := AHeap.put h8 p12.1 (some b13)
    (ldR h14 (nx + 3) 0 2).bind fun l15 =>
    (asAgg 2 (AV.agg l15)).bind fun d16 =>
    (asI .i64 (d16.getD 0 .bad)).bind fun n17 =>
    (asI .i64 (d16.getD 1 .bad)).bind fun n18 =>
    (call Y 10 [(.ptr x4), (.agg [(.int .i64 n17), (.int .i64 n18)])] h14 (nx + 20)).bind fun r19 =>
    (asAgg 2 r19.1).bind fun d20 =>
    (asI .i64 (d20.getD 0 .bad)).bind fun n21 =>
    (asSl (d20.getD 1 .bad)).bind fun s22 =>
    let h23 := AHeap.put r19.2.1 (nx + 17) (some ⟨[(.int .i64 n21), (.slice s22.1 s22.2.1 s22.2.2)], 2, true⟩)
    (srcS h23 (some ((nx + 17), 0)) 1 2).bind fun q24 =>
    (appD h23 x5a x5n x5c 2 32 (nx + 18) q24).bind fun e25 =>
    let h26 := AHeap.puts h23 e25.sets
    F9_L1' J J call Y lf n0 x4 e25.a e25.n e25.c x13a x13n x13c x14 (wrapA .i64 (x15 + 1)) h26 (r19.2.2 + 2))
    else none)
    else
    (some ((.tuple [(.slice x5a x5n x5c), (.int .i64 0)]), h, (nx + 4))) := by kernel_rfl

theorem F9_L1_eq (call : YldF → CallF) (Y : YldF) (lf : Nat) (n0 : Nat) (x4 : Option (Nat × Nat)) (x5a : Option (Nat × Nat)) (x5n : Nat) (x5c : Option Nat) (x13a : Option (Nat × Nat)) (x13n : Nat) (x13c : Option Nat) (x14 : Int) (x15 : Int) (h : AHeap) (nx : Nat) : F9_L1 call Y lf (n0 + 1) x4 x5a x5n x5c x13a x13n x13c x14 x15 h nx =
    if (decide ((x15 : Int) < x14)) = true then
    ((x13a).bind fun p1 =>
    if 0 ≤ (x15 : Int) ∧ x15 < ((x13n : Nat) : Int) then
    ((ldR h p1.1 (p1.2 + Int.toNat x15 * 2) 2).bind fun l2 =>
    (asAgg 2 (AV.agg l2)).bind fun d3 =>
    (asI .i64 (d3.getD 0 .bad)).bind fun n4 =>
    (asI .i64 (d3.getD 1 .bad)).bind fun n5 =>
    let h6 := AHeap.put h (nx + 3) (some ⟨[(.int .i64 0), (.int .i64 0)], 2, true⟩)
    (stA h6 (nx + 3) 0 (.agg [(.int .i64 n4), (.int .i64 n5)]) 2).bind fun b7 =>
    let h8 := AHeap.put h6 (nx + 3) (some b7)
    (x4).bind fun p9 =>
    (ldA h8 p9.1 p9.2).bind fun v10 =>
    (asI .i64 v10).bind fun n11 =>
    (x4).bind fun p12 =>
    (stA h8 p12.1 p12.2 (.int .i64 (wrapA .i64 (n11 + 1))) 1).bind fun b13 =>
    let h14 := AHeap.put h8 p12.1 (some b13)
    (ldR h14 (nx + 3) 0 2).bind fun l15 =>
    (asAgg 2 (AV.agg l15)).bind fun d16 =>
    (asI .i64 (d16.getD 0 .bad)).bind fun n17 =>
    (asI .i64 (d16.getD 1 .bad)).bind fun n18 =>
    (call Y 10 [(.ptr x4), (.agg [(.int .i64 n17), (.int .i64 n18)])] h14 (nx + 20)).bind fun r19 =>
    (asAgg 2 r19.1).bind fun d20 =>
    (asI .i64 (d20.getD 0 .bad)).bind fun n21 =>
    (asSl (d20.getD 1 .bad)).bind fun s22 =>
    let h23 := AHeap.put r19.2.1 (nx + 17) (some ⟨[(.int .i64 n21), (.slice s22.1 s22.2.1 s22.2.2)], 2, true⟩)
    (srcS h23 (some ((nx + 17), 0)) 1 2).bind fun q24 =>
    (appD h23 x5a x5n x5c 2 32 (nx + 18) q24).bind fun e25 =>
    let h26 := AHeap.puts h23 e25.sets
    F9_L1 call Y lf n0 x4 e25.a e25.n e25.c x13a x13n x13c x14 (wrapA .i64 (x15 + 1)) h26 (r19.2.2 + 2))
    else none)
    else
    (some ((.tuple [(.slice x5a x5n x5c), (.int .i64 0)]), h, (nx + 4))) := F9_L1_eq' go1 call Y lf n0 x4 x5a x5n x5c x13a x13n x13c x14 x15 h nx

theorem F9_L1_zero (call : YldF → CallF) (Y : YldF) (lf : Nat) (x4 : Option (Nat × Nat)) (x5a : Option (Nat × Nat)) (x5n : Nat) (x5c : Option Nat) (x13a : Option (Nat × Nat)) (x13n : Nat) (x13c : Option Nat) (x14 : Int) (x15 : Int) (h : AHeap) (nx : Nat) : F9_L1 call Y lf 0 x4 x5a x5n x5c x13a x13n x13c x14 x15 h nx = none := by kernel_rfl

theorem F9_eq' (J : StepF (AV × AHeap × Nat) → StepF (AV × AHeap × Nat)) (n : Nat) (Y : YldF) (x0a : Option (Nat × Nat)) (x0n : Nat) (x0c : Option Nat) (h : AHeap) (nx : Nat) : rootJ J Try.prog keepT (callP Try.prog keepT n) Y n 9 [(.slice x0a x0n x0c)] h nx =
    if (decide ((((x0n : Nat) : Int) : Int) > 300)) = true then
    (some ((.tuple [(.slice none 0 none), (.int .i64 1)]), h, (nx + 7)))
    else
    (let h1 := AHeap.put h (nx + 6) (some ⟨[(.int .i64 0), (.slice none 0 none), (.slice none 0 none), (.int .i64 0)], 4, true⟩)
    F9_L1' J J (callP Try.prog keepT n) Y n n (some ((nx + 6), 0)) none 0 none x0a x0n x0c ((x0n : Nat) : Int) 0 h1 (nx + 12)) := by kernel_rfl

/-- quickset/snap.Play -/
theorem F9_eq (n : Nat) (Y : YldF) (x0a : Option (Nat × Nat)) (x0n : Nat) (x0c : Option Nat) (h : AHeap) (nx : Nat) : callP Try.prog keepT (n + 1) Y 9 [(.slice x0a x0n x0c)] h nx =
    if (decide ((((x0n : Nat) : Int) : Int) > 300)) = true then
    (some ((.tuple [(.slice none 0 none), (.int .i64 1)]), h, (nx + 7)))
    else
    (let h1 := AHeap.put h (nx + 6) (some ⟨[(.int .i64 0), (.slice none 0 none), (.slice none 0 none), (.int .i64 0)], 4, true⟩)
    F9_L1 (callP Try.prog keepT n) Y n n (some ((nx + 6), 0)) none 0 none x0a x0n x0c ((x0n : Nat) : Int) 0 h1 (nx + 12)) := F9_eq' go1 n Y x0a x0n x0c h nx

noncomputable def c10 : Code := (Try.f10.body).getD .skip

noncomputable def r10 : List ResultVar := Try.f10.results.toList

theorem F10_eq' (J : StepF (AV × AHeap × Nat) → StepF (AV × AHeap × Nat)) (n : Nat) (Y : YldF) (x0 : Option (Nat × Nat)) (x1_0 : Int) (x1_1 : Int) (h : AHeap) (nx : Nat) : rootJ J Try.prog keepT (callP Try.prog keepT n) Y n 10 [(.ptr x0), (.agg [(.int .i64 x1_0), (.int .i64 x1_1)])] h nx =
    let h1 := AHeap.put h nx (some ⟨[(.int .i64 x1_0), (.int .i64 x1_1)], 2, true⟩)
    let h2 := AHeap.put h1 (nx + 1) (some ⟨[(.int .i64 0), (.slice none 0 none)], 2, true⟩)
    (ldA h2 nx 0).bind fun v3 =>
    (asI .i64 v3).bind fun n4 =>
    if ((n4 : Int) == 1) = true then
    ((x0).bind fun p5 =>
    (ldA h2 p5.1 (p5.2 + 1)).bind fun v6 =>
    (asSl v6).bind fun s7 =>
    if ((((s7.2.1 : Nat) : Int) : Int) == 200) = true then
    (((callP Try.prog keepT n) Y 11 [(.int .i64 8)] h2 (nx + 14)).bind fun r8 =>
    (asAgg 2 r8.1).bind fun d9 =>
    (asI .i64 (d9.getD 0 .bad)).bind fun n10 =>
    (asSl (d9.getD 1 .bad)).bind fun s11 =>
    (stA r8.2.1 (nx + 1) 0 (.agg [(.int .i64 n10), (.slice s11.1 s11.2.1 s11.2.2)]) 2).bind fun b12 =>
    let h13 := AHeap.put r8.2.1 (nx + 1) (some b12)
    (ldR h13 (nx + 1) 0 2).bind fun l14 =>
    (asAgg 2 (AV.agg l14)).bind fun d15 =>
    (asI .i64 (d15.getD 0 .bad)).bind fun n16 =>
    (asSl (d15.getD 1 .bad)).bind fun s17 =>
    some ((.agg [(.int .i64 n16), (.slice s17.1 s17.2.1 s17.2.2)]), h13, r8.2.2))
    else
    ((x0).bind fun p18 =>
    (ldA h2 p18.1 (p18.2 + 1)).bind fun v19 =>
    (asSl v19).bind fun s20 =>
    (x0).bind fun p21 =>
    (ldA h2 p21.1 p21.2).bind fun v22 =>
    (asI .i64 v22).bind fun n23 =>
    let h24 := AHeap.put h2 (nx + 22) (some ⟨[(.int .i64 n23), (.bool true)], 2, true⟩)
    (srcS h24 (some ((nx + 22), 0)) 1 2).bind fun q25 =>
    (appD h24 s20.1 s20.2.1 s20.2.2 2 16 (nx + 23) q25).bind fun e26 =>
    let h27 := AHeap.puts h24 e26.sets
    (x0).bind fun p28 =>
    (stA h27 p28.1 (p28.2 + 1) (.slice e26.a e26.n e26.c) 1).bind fun b29 =>
    let h30 := AHeap.put h27 p28.1 (some b29)
    ifApart [([(nx + 22)], [p18.1])]
    ((stA h30 (nx + 1) 0 (.agg [(.int .i64 0), (.slice none 0 none)]) 2).bind fun b31 =>
    let h32 := AHeap.put h30 (nx + 1) (some b31)
    (ldR h32 (nx + 1) 0 2).bind fun l33 =>
    (asAgg 2 (AV.agg l33)).bind fun d34 =>
    (asI .i64 (d34.getD 0 .bad)).bind fun n35 =>
    (asSl (d34.getD 1 .bad)).bind fun s36 =>
    some ((.agg [(.int .i64 n35), (.slice s36.1 s36.2.1 s36.2.2)]), h32, (nx + 29)))))
    else
    (if ((n4 : Int) == 2) = true then
    ((ldA h2 nx 1).bind fun v37 =>
    (asI .i64 v37).bind fun n38 =>
    ((callP Try.prog keepT n) Y 12 [(.ptr x0), (.int .i64 n38)] h2 (nx + 13)).bind fun r39 =>
    (asAgg 2 r39.1).bind fun d40 =>
    (asI .i64 (d40.getD 0 .bad)).bind fun n41 =>
    (asSl (d40.getD 1 .bad)).bind fun s42 =>
    (stA r39.2.1 (nx + 1) 0 (.agg [(.int .i64 n41), (.slice s42.1 s42.2.1 s42.2.2)]) 2).bind fun b43 =>
    let h44 := AHeap.put r39.2.1 (nx + 1) (some b43)
    (ldR h44 (nx + 1) 0 2).bind fun l45 =>
    (asAgg 2 (AV.agg l45)).bind fun d46 =>
    (asI .i64 (d46.getD 0 .bad)).bind fun n47 =>
    (asSl (d46.getD 1 .bad)).bind fun s48 =>
    some ((.agg [(.int .i64 n47), (.slice s48.1 s48.2.1 s48.2.2)]), h44, r39.2.2))
    else
    (if ((n4 : Int) == 3) = true then
    ((x0).bind fun p49 =>
    (ldA h2 p49.1 (p49.2 + 2)).bind fun v50 =>
    (asSl v50).bind fun s51 =>
    if ((((s51.2.1 : Nat) : Int) : Int) == 9) = true then
    (((callP Try.prog keepT n) Y 11 [(.int .i64 8)] h2 (nx + 18)).bind fun r52 =>
    (asAgg 2 r52.1).bind fun d53 =>
    (asI .i64 (d53.getD 0 .bad)).bind fun n54 =>
    (asSl (d53.getD 1 .bad)).bind fun s55 =>
    (stA r52.2.1 (nx + 1) 0 (.agg [(.int .i64 n54), (.slice s55.1 s55.2.1 s55.2.2)]) 2).bind fun b56 =>
    let h57 := AHeap.put r52.2.1 (nx + 1) (some b56)
    (ldR h57 (nx + 1) 0 2).bind fun l58 =>
    (asAgg 2 (AV.agg l58)).bind fun d59 =>
    (asI .i64 (d59.getD 0 .bad)).bind fun n60 =>
    (asSl (d59.getD 1 .bad)).bind fun s61 =>
    some ((.agg [(.int .i64 n60), (.slice s61.1 s61.2.1 s61.2.2)]), h57, r52.2.2))
    else
    ((x0).bind fun p62 =>
    (ldA h2 p62.1 (p62.2 + 2)).bind fun v63 =>
    (asSl v63).bind fun s64 =>
    (x0).bind fun p65 =>
    (ldA h2 p65.1 (p65.2 + 3)).bind fun v66 =>
    (asI .i64 v66).bind fun n67 =>
    (x0).bind fun p68 =>
    (ldA h2 p68.1 p68.2).bind fun v69 =>
    (asI .i64 v69).bind fun n70 =>
    let h71 := AHeap.put h2 (nx + 30) (some ⟨[(.int .i64 n67), (.int .i64 n70), (.slice none 0 none)], 3, true⟩)
    (srcS h71 (some ((nx + 30), 0)) 1 3).bind fun q72 =>
    (appD h71 s64.1 s64.2.1 s64.2.2 3 40 (nx + 31) q72).bind fun e73 =>
    let h74 := AHeap.puts h71 e73.sets
    (x0).bind fun p75 =>
    (stA h74 p75.1 (p75.2 + 2) (.slice e73.a e73.n e73.c) 1).bind fun b76 =>
    let h77 := AHeap.put h74 p75.1 (some b76)
    ifApart [([(nx + 30)], [p62.1])]
    ((x0).bind fun p78 =>
    (ldA h77 p78.1 (p78.2 + 3)).bind fun v79 =>
    (asI .i64 v79).bind fun n80 =>
    (x0).bind fun p81 =>
    (stA h77 p81.1 (p81.2 + 3) (.int .i64 (wrapA .i64 (n80 + 1))) 1).bind fun b82 =>
    let h83 := AHeap.put h77 p81.1 (some b82)
    (stA h83 (nx + 1) 0 (.agg [(.int .i64 0), (.slice none 0 none)]) 2).bind fun b84 =>
    let h85 := AHeap.put h83 (nx + 1) (some b84)
    (ldR h85 (nx + 1) 0 2).bind fun l86 =>
    (asAgg 2 (AV.agg l86)).bind fun d87 =>
    (asI .i64 (d87.getD 0 .bad)).bind fun n88 =>
    (asSl (d87.getD 1 .bad)).bind fun s89 =>
    some ((.agg [(.int .i64 n88), (.slice s89.1 s89.2.1 s89.2.2)]), h85, (nx + 45)))))
    else
    (if ((n4 : Int) == 4) = true then
    ((ldA h2 nx 1).bind fun v90 =>
    (asI .i64 v90).bind fun n91 =>
    ((callP Try.prog keepT n) Y 13 [(.ptr x0), (.int .i64 n91)] h2 (nx + 17)).bind fun r92 =>
    (asAgg 2 r92.1).bind fun d93 =>
    (asI .i64 (d93.getD 0 .bad)).bind fun n94 =>
    (asSl (d93.getD 1 .bad)).bind fun s95 =>
    (stA r92.2.1 (nx + 1) 0 (.agg [(.int .i64 n94), (.slice s95.1 s95.2.1 s95.2.2)]) 2).bind fun b96 =>
    let h97 := AHeap.put r92.2.1 (nx + 1) (some b96)
    (ldR h97 (nx + 1) 0 2).bind fun l98 =>
    (asAgg 2 (AV.agg l98)).bind fun d99 =>
    (asI .i64 (d99.getD 0 .bad)).bind fun n100 =>
    (asSl (d99.getD 1 .bad)).bind fun s101 =>
    some ((.agg [(.int .i64 n100), (.slice s101.1 s101.2.1 s101.2.2)]), h97, r92.2.2))
    else
    (((callP Try.prog keepT n) Y 11 [(.int .i64 3)] h2 (nx + 14)).bind fun r102 =>
    (asAgg 2 r102.1).bind fun d103 =>
    (asI .i64 (d103.getD 0 .bad)).bind fun n104 =>
    (asSl (d103.getD 1 .bad)).bind fun s105 =>
    (stA r102.2.1 (nx + 1) 0 (.agg [(.int .i64 n104), (.slice s105.1 s105.2.1 s105.2.2)]) 2).bind fun b106 =>
    let h107 := AHeap.put r102.2.1 (nx + 1) (some b106)
    (ldR h107 (nx + 1) 0 2).bind fun l108 =>
    (asAgg 2 (AV.agg l108)).bind fun d109 =>
    (asI .i64 (d109.getD 0 .bad)).bind fun n110 =>
    (asSl (d109.getD 1 .bad)).bind fun s111 =>
    some ((.agg [(.int .i64 n110), (.slice s111.1 s111.2.1 s111.2.2)]), h107, r102.2.2))))) := by kernel_rfl

/-- (*quickset/snap.keeper).move -/
theorem F10_eq (n : Nat) (Y : YldF) (x0 : Option (Nat × Nat)) (x1_0 : Int) (x1_1 : Int) (h : AHeap) (nx : Nat) : callP Try.prog keepT (n + 1) Y 10 [(.ptr x0), (.agg [(.int .i64 x1_0), (.int .i64 x1_1)])] h nx =
    let h1 := AHeap.put h nx (some ⟨[(.int .i64 x1_0), (.int .i64 x1_1)], 2, true⟩)
    let h2 := AHeap.put h1 (nx + 1) (some ⟨[(.int .i64 0), (.slice none 0 none)], 2, true⟩)
    (ldA h2 nx 0).bind fun v3 =>
    (asI .i64 v3).bind fun n4 =>
    if ((n4 : Int) == 1) = true then
    ((x0).bind fun p5 =>
    (ldA h2 p5.1 (p5.2 + 1)).bind fun v6 =>
    (asSl v6).bind fun s7 =>
    if ((((s7.2.1 : Nat) : Int) : Int) == 200) = true then
    (((callP Try.prog keepT n) Y 11 [(.int .i64 8)] h2 (nx + 14)).bind fun r8 =>
    (asAgg 2 r8.1).bind fun d9 =>
    (asI .i64 (d9.getD 0 .bad)).bind fun n10 =>
    (asSl (d9.getD 1 .bad)).bind fun s11 =>
    (stA r8.2.1 (nx + 1) 0 (.agg [(.int .i64 n10), (.slice s11.1 s11.2.1 s11.2.2)]) 2).bind fun b12 =>
    let h13 := AHeap.put r8.2.1 (nx + 1) (some b12)
    (ldR h13 (nx + 1) 0 2).bind fun l14 =>
    (asAgg 2 (AV.agg l14)).bind fun d15 =>
    (asI .i64 (d15.getD 0 .bad)).bind fun n16 =>
    (asSl (d15.getD 1 .bad)).bind fun s17 =>
    some ((.agg [(.int .i64 n16), (.slice s17.1 s17.2.1 s17.2.2)]), h13, r8.2.2))
    else
    ((x0).bind fun p18 =>
    (ldA h2 p18.1 (p18.2 + 1)).bind fun v19 =>
    (asSl v19).bind fun s20 =>
    (x0).bind fun p21 =>
    (ldA h2 p21.1 p21.2).bind fun v22 =>
    (asI .i64 v22).bind fun n23 =>
    let h24 := AHeap.put h2 (nx + 22) (some ⟨[(.int .i64 n23), (.bool true)], 2, true⟩)
    (srcS h24 (some ((nx + 22), 0)) 1 2).bind fun q25 =>
    (appD h24 s20.1 s20.2.1 s20.2.2 2 16 (nx + 23) q25).bind fun e26 =>
    let h27 := AHeap.puts h24 e26.sets
    (x0).bind fun p28 =>
    (stA h27 p28.1 (p28.2 + 1) (.slice e26.a e26.n e26.c) 1).bind fun b29 =>
    let h30 := AHeap.put h27 p28.1 (some b29)
    ifApart [([(nx + 22)], [p18.1])]
    ((stA h30 (nx + 1) 0 (.agg [(.int .i64 0), (.slice none 0 none)]) 2).bind fun b31 =>
    let h32 := AHeap.put h30 (nx + 1) (some b31)
    (ldR h32 (nx + 1) 0 2).bind fun l33 =>
    (asAgg 2 (AV.agg l33)).bind fun d34 =>
    (asI .i64 (d34.getD 0 .bad)).bind fun n35 =>
    (asSl (d34.getD 1 .bad)).bind fun s36 =>
    some ((.agg [(.int .i64 n35), (.slice s36.1 s36.2.1 s36.2.2)]), h32, (nx + 29)))))
    else
    (if ((n4 : Int) == 2) = true then
    ((ldA h2 nx 1).bind fun v37 =>
    (asI .i64 v37).bind fun n38 =>
    ((callP Try.prog keepT n) Y 12 [(.ptr x0), (.int .i64 n38)] h2 (nx + 13)).bind fun r39 =>
    (asAgg 2 r39.1).bind fun d40 =>
    (asI .i64 (d40.getD 0 .bad)).bind fun n41 =>
    (asSl (d40.getD 1 .bad)).bind fun s42 =>
    (stA r39.2.1 (nx + 1) 0 (.agg [(.int .i64 n41), (.slice s42.1 s42.2.1 s42.2.2)]) 2).bind fun b43 =>
    let h44 := AHeap.put r39.2.1 (nx + 1) (some b43)
    (ldR h44 (nx + 1) 0 2).bind fun l45 =>
    (asAgg 2 (AV.agg l45)).bind fun d46 =>
    (asI .i64 (d46.getD 0 .bad)).bind fun n47 =>
    (asSl (d46.getD 1 .bad)).bind fun s48 =>
    some ((.agg [(.int .i64 n47), (.slice s48.1 s48.2.1 s48.2.2)]), h44, r39.2.2))
    else
    (if ((n4 : Int) == 3) = true then
    ((x0).bind fun p49 =>
    (ldA h2 p49.1 (p49.2 + 2)).bind fun v50 =>
    (asSl v50).bind fun s51 =>
    if ((((s51.2.1 : Nat) : Int) : Int) == 9) = true then
    (((callP Try.prog keepT n) Y 11 [(.int .i64 8)] h2 (nx + 18)).bind fun r52 =>
    (asAgg 2 r52.1).bind fun d53 =>
    (asI .i64 (d53.getD 0 .bad)).bind fun n54 =>
    (asSl (d53.getD 1 .bad)).bind fun s55 =>
    (stA r52.2.1 (nx + 1) 0 (.agg [(.int .i64 n54), (.slice s55.1 s55.2.1 s55.2.2)]) 2).bind fun b56 =>
    let h57 := AHeap.put r52.2.1 (nx + 1) (some b56)
    (ldR h57 (nx + 1) 0 2).bind fun l58 =>
    (asAgg 2 (AV.agg l58)).bind fun d59 =>
    (asI .i64 (d59.getD 0 .bad)).bind fun n60 =>
    (asSl (d59.getD 1 .bad)).bind fun s61 =>
    some ((.agg [(.int .i64 n60), (.slice s61.1 s61.2.1 s61.2.2)]), h57, r52.2.2))
    else
    ((x0).bind fun p62 =>
    (ldA h2 p62.1 (p62.2 + 2)).bind fun v63 =>
    (asSl v63).bind fun s64 =>
    (x0).bind fun p65 =>
    (ldA h2 p65.1 (p65.2 + 3)).bind fun v66 =>
    (asI .i64 v66).bind fun n67 =>
    (x0).bind fun p68 =>
    (ldA h2 p68.1 p68.2).bind fun v69 =>
    (asI .i64 v69).bind fun n70 =>
    let h71 := AHeap.put h2 (nx + 30) (some ⟨[(.int .i64 n67), (.int .i64 n70), (.slice none 0 none)], 3, true⟩)
    (srcS h71 (some ((nx + 30), 0)) 1 3).bind fun q72 =>
    (appD h71 s64.1 s64.2.1 s64.2.2 3 40 (nx + 31) q72).bind fun e73 =>
    let h74 := AHeap.puts h71 e73.sets
    (x0).bind fun p75 =>
    (stA h74 p75.1 (p75.2 + 2) (.slice e73.a e73.n e73.c) 1).bind fun b76 =>
    let h77 := AHeap.put h74 p75.1 (some b76)
    ifApart [([(nx + 30)], [p62.1])]
    ((x0).bind fun p78 =>
    (ldA h77 p78.1 (p78.2 + 3)).bind fun v79 =>
    (asI .i64 v79).bind fun n80 =>
    (x0).bind fun p81 =>
    (stA h77 p81.1 (p81.2 + 3) (.int .i64 (wrapA .i64 (n80 + 1))) 1).bind fun b82 =>
    let h83 := AHeap.put h77 p81.1 (some b82)
    (stA h83 (nx + 1) 0 (.agg [(.int .i64 0), (.slice none 0 none)]) 2).bind fun b84 =>
    let h85 := AHeap.put h83 (nx + 1) (some b84)
    (ldR h85 (nx + 1) 0 2).bind fun l86 =>
    (asAgg 2 (AV.agg l86)).bind fun d87 =>
    (asI .i64 (d87.getD 0 .bad)).bind fun n88 =>
    (asSl (d87.getD 1 .bad)).bind fun s89 =>
    some ((.agg [(.int .i64 n88), (.slice s89.1 s89.2.1 s89.2.2)]), h85, (nx + 45)))))
    else
    (if ((n4 : Int) == 4) = true then
    ((ldA h2 nx 1).bind fun v90 =>
    (asI .i64 v90).bind fun n91 =>
    ((callP Try.prog keepT n) Y 13 [(.ptr x0), (.int .i64 n91)] h2 (nx + 17)).bind fun r92 =>
    (asAgg 2 r92.1).bind fun d93 =>
    (asI .i64 (d93.getD 0 .bad)).bind fun n94 =>
    (asSl (d93.getD 1 .bad)).bind fun s95 =>
    (stA r92.2.1 (nx + 1) 0 (.agg [(.int .i64 n94), (.slice s95.1 s95.2.1 s95.2.2)]) 2).bind fun b96 =>
    let h97 := AHeap.put r92.2.1 (nx + 1) (some b96)
    (ldR h97 (nx + 1) 0 2).bind fun l98 =>
    (asAgg 2 (AV.agg l98)).bind fun d99 =>
    (asI .i64 (d99.getD 0 .bad)).bind fun n100 =>
    (asSl (d99.getD 1 .bad)).bind fun s101 =>
    some ((.agg [(.int .i64 n100), (.slice s101.1 s101.2.1 s101.2.2)]), h97, r92.2.2))
    else
    (((callP Try.prog keepT n) Y 11 [(.int .i64 3)] h2 (nx + 14)).bind fun r102 =>
    (asAgg 2 r102.1).bind fun d103 =>
    (asI .i64 (d103.getD 0 .bad)).bind fun n104 =>
    (asSl (d103.getD 1 .bad)).bind fun s105 =>
    (stA r102.2.1 (nx + 1) 0 (.agg [(.int .i64 n104), (.slice s105.1 s105.2.1 s105.2.2)]) 2).bind fun b106 =>
    let h107 := AHeap.put r102.2.1 (nx + 1) (some b106)
    (ldR h107 (nx + 1) 0 2).bind fun l108 =>
    (asAgg 2 (AV.agg l108)).bind fun d109 =>
    (asI .i64 (d109.getD 0 .bad)).bind fun n110 =>
    (asSl (d109.getD 1 .bad)).bind fun s111 =>
    some ((.agg [(.int .i64 n110), (.slice s111.1 s111.2.1 s111.2.2)]), h107, r102.2.2))))) := F10_eq' go1 n Y x0 x1_0 x1_1 h nx

noncomputable def c11 : Code := (Try.f11.body).getD .skip

noncomputable def r11 : List ResultVar := Try.f11.results.toList

theorem F11_eq' (J : StepF (AV × AHeap × Nat) → StepF (AV × AHeap × Nat)) (n : Nat) (Y : YldF) (x0 : Int) (h : AHeap) (nx : Nat) : rootJ J Try.prog keepT (callP Try.prog keepT n) Y n 11 [(.int .i64 x0)] h nx =
    let h1 := AHeap.put h nx (some ⟨[(.int .i64 0), (.slice none 0 none)], 2, true⟩)
    (stA h1 nx 0 (.agg [(.int .i64 x0), (.slice none 0 none)]) 2).bind fun b2 =>
    let h3 := AHeap.put h1 nx (some b2)
    (ldR h3 nx 0 2).bind fun l4 =>
    (asAgg 2 (AV.agg l4)).bind fun d5 =>
    (asI .i64 (d5.getD 0 .bad)).bind fun n6 =>
    (asSl (d5.getD 1 .bad)).bind fun s7 =>
    some ((.agg [(.int .i64 n6), (.slice s7.1 s7.2.1 s7.2.2)]), h3, (nx + 4)) := by kernel_rfl

/-- quickset/snap.no -/
theorem F11_eq (n : Nat) (Y : YldF) (x0 : Int) (h : AHeap) (nx : Nat) : callP Try.prog keepT (n + 1) Y 11 [(.int .i64 x0)] h nx =
    let h1 := AHeap.put h nx (some ⟨[(.int .i64 0), (.slice none 0 none)], 2, true⟩)
    (stA h1 nx 0 (.agg [(.int .i64 x0), (.slice none 0 none)]) 2).bind fun b2 =>
    let h3 := AHeap.put h1 nx (some b2)
    (ldR h3 nx 0 2).bind fun l4 =>
    (asAgg 2 (AV.agg l4)).bind fun d5 =>
    (asI .i64 (d5.getD 0 .bad)).bind fun n6 =>
    (asSl (d5.getD 1 .bad)).bind fun s7 =>
    some ((.agg [(.int .i64 n6), (.slice s7.1 s7.2.1 s7.2.2)]), h3, (nx + 4)) := F11_eq' go1 n Y x0 h nx

noncomputable def c12 : Code := (Try.f12.body).getD .skip

noncomputable def r12 : List ResultVar := Try.f12.results.toList

noncomputable def F12_J1' (W J : StepF (AV × AHeap × Nat) → StepF (AV × AHeap × Nat)) (call : YldF → CallF) (Y : YldF) (lf : Nat) (x0 : Option (Nat × Nat)) (x1 : Int) (x4 : Option (Nat × Nat)) (h : AHeap) (nx : Nat) : Option (AV × AHeap × Nat) :=
  goK W J drawK (machOf Try.prog) call Y (keepT 12) lf c12 [1, 1] [] (retK (machOf Try.prog) ⟨c12, 85, r12, keepT 12⟩) ⟨85, mkL [(0, (.ptr x0)), (1, (.int .i64 x1)), (4, (.ptr x4))]⟩ h nx

noncomputable def F12_J1 (call : YldF → CallF) (Y : YldF) (lf : Nat) (x0 : Option (Nat × Nat)) (x1 : Int) (x4 : Option (Nat × Nat)) (h : AHeap) (nx : Nat) : Option (AV × AHeap × Nat) := F12_J1' go1 go1 call Y lf x0 x1 x4 h nx

noncomputable def F12_J2' (W J : StepF (AV × AHeap × Nat) → StepF (AV × AHeap × Nat)) (call : YldF → CallF) (Y : YldF) (lf : Nat) (x0 : Option (Nat × Nat)) (x1 : Int) (x4 : Option (Nat × Nat)) (x5 : Int) (h : AHeap) (nx : Nat) : Option (AV × AHeap × Nat) :=
  goK W J drawK (machOf Try.prog) call Y (keepT 12) lf c12 [1, 1, 1, 1, 1] [] (retK (machOf Try.prog) ⟨c12, 85, r12, keepT 12⟩) ⟨85, mkL [(0, (.ptr x0)), (1, (.int .i64 x1)), (4, (.ptr x4)), (5, (.int .i64 x5))]⟩ h nx

noncomputable def F12_J2 (call : YldF → CallF) (Y : YldF) (lf : Nat) (x0 : Option (Nat × Nat)) (x1 : Int) (x4 : Option (Nat × Nat)) (x5 : Int) (h : AHeap) (nx : Nat) : Option (AV × AHeap × Nat) := F12_J2' go1 go1 call Y lf x0 x1 x4 x5 h nx

theorem F12_J1_eq' (J : StepF (AV × AHeap × Nat) → StepF (AV × AHeap × Nat)) (call : YldF → CallF) (Y : YldF) (lf : Nat) (x0 : Option (Nat × Nat)) (x1 : Int) (x4 : Option (Nat × Nat)) (h : AHeap) (nx : Nat) : F12_J1' go1 J call Y lf x0 x1 x4 h nx =
    (x0).bind fun p1 =>
    (ldA h p1.1 (p1.2 + 1)).bind fun v2 =>
    (asSl v2).bind fun s3 =>
    (s3.1).bind fun p4 =>
    if 0 ≤ (x1 : Int) ∧ x1 < ((s3.2.1 : Nat) : Int) then
    ((stA h p4.1 ((p4.2 + Int.toNat x1 * 2) + 1) (.bool false) 1).bind fun b5 =>
    let h6 := AHeap.put h p4.1 (some b5)
    (x0).bind fun p7 =>
    (ldA h6 p7.1 (p7.2 + 2)).bind fun v8 =>
    (asSl v8).bind fun s9 =>
    if ((((s9.2.1 : Nat) : Int) : Int) == 0) = true then
    (let h10 := AHeap.put h6 (nx + 37) (some ⟨[(.int .i64 x1)], 1, true⟩)
    (x4).bind fun p11 =>
    (stA h10 p11.1 p11.2 (.agg [(.int .i64 0), (.slice (some ((nx + 37), 0)) 1 (some 1))]) 2).bind fun b12 =>
    let h13 := AHeap.put h10 p11.1 (some b12)
    (x4).bind fun p14 =>
    (ldR h13 p14.1 p14.2 2).bind fun l15 =>
    (asAgg 2 (AV.agg l15)).bind fun d16 =>
    (asI .i64 (d16.getD 0 .bad)).bind fun n17 =>
    (asSl (d16.getD 1 .bad)).bind fun s18 =>
    some ((.agg [(.int .i64 n17), (.slice s18.1 s18.2.1 s18.2.2)]), h13, (nx + 40)))
    else
    ((x0).bind fun p19 =>
    (ldA h6 p19.1 (p19.2 + 2)).bind fun v20 =>
    (asSl v20).bind fun s21 =>
    (s21.1).bind fun p22 =>
    if 0 ≤ ((wrapA .i64 (((s9.2.1 : Nat) : Int) - 1)) : Int) ∧ (wrapA .i64 (((s9.2.1 : Nat) : Int) - 1)) < ((s21.2.1 : Nat) : Int) then
    ((ldA h6 p22.1 ((p22.2 + Int.toNat (wrapA .i64 (((s9.2.1 : Nat) : Int) - 1)) * 3) + 1)).bind fun v23 =>
    (asI .i64 v23).bind fun n24 =>
    (x0).bind fun p25 =>
    (ldA h6 p25.1 (p25.2 + 1)).bind fun v26 =>
    (asSl v26).bind fun s27 =>
    (s27.1).bind fun p28 =>
    if 0 ≤ (x1 : Int) ∧ x1 < ((s27.2.1 : Nat) : Int) then
    ((ldA h6 p28.1 (p28.2 + Int.toNat x1 * 2)).bind fun v29 =>
    (asI .i64 v29).bind fun n30 =>
    if (decide ((n24 : Int) < n30)) = true then
    (let h31 := AHeap.put h6 (nx + 37) (some ⟨[(.int .i64 x1)], 1, true⟩)
    (x4).bind fun p32 =>
    (stA h31 p32.1 p32.2 (.agg [(.int .i64 0), (.slice (some ((nx + 37), 0)) 1 (some 1))]) 2).bind fun b33 =>
    let h34 := AHeap.put h31 p32.1 (some b33)
    (x4).bind fun p35 =>
    (ldR h34 p35.1 p35.2 2).bind fun l36 =>
    (asAgg 2 (AV.agg l36)).bind fun d37 =>
    (asI .i64 (d37.getD 0 .bad)).bind fun n38 =>
    (asSl (d37.getD 1 .bad)).bind fun s39 =>
    some ((.agg [(.int .i64 n38), (.slice s39.1 s39.2.1 s39.2.2)]), h34, (nx + 40)))
    else
    (F12_J2' J J call Y lf x0 x1 x4 ((s9.2.1 : Nat) : Int) h6 (nx + 36)))
    else none)
    else none))
    else none := by kernel_rfl

theorem F12_J1_eq (call : YldF → CallF) (Y : YldF) (lf : Nat) (x0 : Option (Nat × Nat)) (x1 : Int) (x4 : Option (Nat × Nat)) (h : AHeap) (nx : Nat) : F12_J1 call Y lf x0 x1 x4 h nx =
    (x0).bind fun p1 =>
    (ldA h p1.1 (p1.2 + 1)).bind fun v2 =>
    (asSl v2).bind fun s3 =>
    (s3.1).bind fun p4 =>
    if 0 ≤ (x1 : Int) ∧ x1 < ((s3.2.1 : Nat) : Int) then
    ((stA h p4.1 ((p4.2 + Int.toNat x1 * 2) + 1) (.bool false) 1).bind fun b5 =>
    let h6 := AHeap.put h p4.1 (some b5)
    (x0).bind fun p7 =>
    (ldA h6 p7.1 (p7.2 + 2)).bind fun v8 =>
    (asSl v8).bind fun s9 =>
    if ((((s9.2.1 : Nat) : Int) : Int) == 0) = true then
    (let h10 := AHeap.put h6 (nx + 37) (some ⟨[(.int .i64 x1)], 1, true⟩)
    (x4).bind fun p11 =>
    (stA h10 p11.1 p11.2 (.agg [(.int .i64 0), (.slice (some ((nx + 37), 0)) 1 (some 1))]) 2).bind fun b12 =>
    let h13 := AHeap.put h10 p11.1 (some b12)
    (x4).bind fun p14 =>
    (ldR h13 p14.1 p14.2 2).bind fun l15 =>
    (asAgg 2 (AV.agg l15)).bind fun d16 =>
    (asI .i64 (d16.getD 0 .bad)).bind fun n17 =>
    (asSl (d16.getD 1 .bad)).bind fun s18 =>
    some ((.agg [(.int .i64 n17), (.slice s18.1 s18.2.1 s18.2.2)]), h13, (nx + 40)))
    else
    ((x0).bind fun p19 =>
    (ldA h6 p19.1 (p19.2 + 2)).bind fun v20 =>
    (asSl v20).bind fun s21 =>
    (s21.1).bind fun p22 =>
    if 0 ≤ ((wrapA .i64 (((s9.2.1 : Nat) : Int) - 1)) : Int) ∧ (wrapA .i64 (((s9.2.1 : Nat) : Int) - 1)) < ((s21.2.1 : Nat) : Int) then
    ((ldA h6 p22.1 ((p22.2 + Int.toNat (wrapA .i64 (((s9.2.1 : Nat) : Int) - 1)) * 3) + 1)).bind fun v23 =>
    (asI .i64 v23).bind fun n24 =>
    (x0).bind fun p25 =>
    (ldA h6 p25.1 (p25.2 + 1)).bind fun v26 =>
    (asSl v26).bind fun s27 =>
    (s27.1).bind fun p28 =>
    if 0 ≤ (x1 : Int) ∧ x1 < ((s27.2.1 : Nat) : Int) then
    ((ldA h6 p28.1 (p28.2 + Int.toNat x1 * 2)).bind fun v29 =>
    (asI .i64 v29).bind fun n30 =>
    if (decide ((n24 : Int) < n30)) = true then
    (let h31 := AHeap.put h6 (nx + 37) (some ⟨[(.int .i64 x1)], 1, true⟩)
    (x4).bind fun p32 =>
    (stA h31 p32.1 p32.2 (.agg [(.int .i64 0), (.slice (some ((nx + 37), 0)) 1 (some 1))]) 2).bind fun b33 =>
    let h34 := AHeap.put h31 p32.1 (some b33)
    (x4).bind fun p35 =>
    (ldR h34 p35.1 p35.2 2).bind fun l36 =>
    (asAgg 2 (AV.agg l36)).bind fun d37 =>
    (asI .i64 (d37.getD 0 .bad)).bind fun n38 =>
    (asSl (d37.getD 1 .bad)).bind fun s39 =>
    some ((.agg [(.int .i64 n38), (.slice s39.1 s39.2.1 s39.2.2)]), h34, (nx + 40)))
    else
    (F12_J2 call Y lf x0 x1 x4 ((s9.2.1 : Nat) : Int) h6 (nx + 36)))
    else none)
    else none))
    else none := F12_J1_eq' go1 call Y lf x0 x1 x4 h nx

theorem F12_J2_eq' (J : StepF (AV × AHeap × Nat) → StepF (AV × AHeap × Nat)) (call : YldF → CallF) (Y : YldF) (lf : Nat) (x0 : Option (Nat × Nat)) (x1 : Int) (x4 : Option (Nat × Nat)) (x5 : Int) (h : AHeap) (nx : Nat) : F12_J2' go1 J call Y lf x0 x1 x4 x5 h nx =
    (x0).bind fun p1 =>
    (ldA h p1.1 (p1.2 + 2)).bind fun v2 =>
    (asSl v2).bind fun s3 =>
    (s3.1).bind fun p4 =>
    if 0 ≤ ((wrapA .i64 (x5 - 1)) : Int) ∧ (wrapA .i64 (x5 - 1)) < ((s3.2.1 : Nat) : Int) then
    ((ldA h p4.1 ((p4.2 + Int.toNat (wrapA .i64 (x5 - 1)) * 3) + 2)).bind fun v5 =>
    (asSl v5).bind fun s6 =>
    let h7 := AHeap.put h (nx + 14) (some ⟨[(.int .i64 x1)], 1, true⟩)
    (srcS h7 (some ((nx + 14), 0)) 1 1).bind fun q8 =>
    (appD h7 s6.1 s6.2.1 s6.2.2 1 8 (nx + 15) q8).bind fun e9 =>
    let h10 := AHeap.puts h7 e9.sets
    (stA h10 p4.1 ((p4.2 + Int.toNat (wrapA .i64 (x5 - 1)) * 3) + 2) (.slice e9.a e9.n e9.c) 1).bind fun b11 =>
    let h12 := AHeap.put h10 p4.1 (some b11)
    (x4).bind fun p13 =>
    (stA h12 p13.1 p13.2 (.agg [(.int .i64 0), (.slice none 0 none)]) 2).bind fun b14 =>
    let h15 := AHeap.put h12 p13.1 (some b14)
    (x4).bind fun p16 =>
    (ldR h15 p16.1 p16.2 2).bind fun l17 =>
    (asAgg 2 (AV.agg l17)).bind fun d18 =>
    (asI .i64 (d18.getD 0 .bad)).bind fun n19 =>
    (asSl (d18.getD 1 .bad)).bind fun s20 =>
    some ((.agg [(.int .i64 n19), (.slice s20.1 s20.2.1 s20.2.2)]), h15, (nx + 21)))
    else none := by kernel_rfl

theorem F12_J2_eq (call : YldF → CallF) (Y : YldF) (lf : Nat) (x0 : Option (Nat × Nat)) (x1 : Int) (x4 : Option (Nat × Nat)) (x5 : Int) (h : AHeap) (nx : Nat) : F12_J2 call Y lf x0 x1 x4 x5 h nx =
    (x0).bind fun p1 =>
    (ldA h p1.1 (p1.2 + 2)).bind fun v2 =>
    (asSl v2).bind fun s3 =>
    (s3.1).bind fun p4 =>
    if 0 ≤ ((wrapA .i64 (x5 - 1)) : Int) ∧ (wrapA .i64 (x5 - 1)) < ((s3.2.1 : Nat) : Int) then
    ((ldA h p4.1 ((p4.2 + Int.toNat (wrapA .i64 (x5 - 1)) * 3) + 2)).bind fun v5 =>
    (asSl v5).bind fun s6 =>
    let h7 := AHeap.put h (nx + 14) (some ⟨[(.int .i64 x1)], 1, true⟩)
    (srcS h7 (some ((nx + 14), 0)) 1 1).bind fun q8 =>
    (appD h7 s6.1 s6.2.1 s6.2.2 1 8 (nx + 15) q8).bind fun e9 =>
    let h10 := AHeap.puts h7 e9.sets
    (stA h10 p4.1 ((p4.2 + Int.toNat (wrapA .i64 (x5 - 1)) * 3) + 2) (.slice e9.a e9.n e9.c) 1).bind fun b11 =>
    let h12 := AHeap.put h10 p4.1 (some b11)
    (x4).bind fun p13 =>
    (stA h12 p13.1 p13.2 (.agg [(.int .i64 0), (.slice none 0 none)]) 2).bind fun b14 =>
    let h15 := AHeap.put h12 p13.1 (some b14)
    (x4).bind fun p16 =>
    (ldR h15 p16.1 p16.2 2).bind fun l17 =>
    (asAgg 2 (AV.agg l17)).bind fun d18 =>
    (asI .i64 (d18.getD 0 .bad)).bind fun n19 =>
    (asSl (d18.getD 1 .bad)).bind fun s20 =>
    some ((.agg [(.int .i64 n19), (.slice s20.1 s20.2.1 s20.2.2)]), h15, (nx + 21)))
    else none := F12_J2_eq' go1 call Y lf x0 x1 x4 x5 h nx

theorem F12_eq' (J : StepF (AV × AHeap × Nat) → StepF (AV × AHeap × Nat)) (n : Nat) (Y : YldF) (x0 : Option (Nat × Nat)) (x1 : Int) (h : AHeap) (nx : Nat) : rootJ J Try.prog keepT (callP Try.prog keepT n) Y n 12 [(.ptr x0), (.int .i64 x1)] h nx =
    let h1 := AHeap.put h nx (some ⟨[(.int .i64 0), (.slice none 0 none)], 2, true⟩)
    if (decide ((x1 : Int) < 0)) = true then
    (((callP Try.prog keepT n) Y 11 [(.int .i64 6)] h1 (nx + 25)).bind fun r2 =>
    (asAgg 2 r2.1).bind fun d3 =>
    (asI .i64 (d3.getD 0 .bad)).bind fun n4 =>
    (asSl (d3.getD 1 .bad)).bind fun s5 =>
    (stA r2.2.1 nx 0 (.agg [(.int .i64 n4), (.slice s5.1 s5.2.1 s5.2.2)]) 2).bind fun b6 =>
    let h7 := AHeap.put r2.2.1 nx (some b6)
    (ldR h7 nx 0 2).bind fun l8 =>
    (asAgg 2 (AV.agg l8)).bind fun d9 =>
    (asI .i64 (d9.getD 0 .bad)).bind fun n10 =>
    (asSl (d9.getD 1 .bad)).bind fun s11 =>
    some ((.agg [(.int .i64 n10), (.slice s11.1 s11.2.1 s11.2.2)]), h7, r2.2.2))
    else
    ((x0).bind fun p12 =>
    (ldA h1 p12.1 (p12.2 + 1)).bind fun v13 =>
    (asSl v13).bind fun s14 =>
    if (decide ((x1 : Int) ≥ ((s14.2.1 : Nat) : Int))) = true then
    (((callP Try.prog keepT n) Y 11 [(.int .i64 6)] h1 (nx + 25)).bind fun r15 =>
    (asAgg 2 r15.1).bind fun d16 =>
    (asI .i64 (d16.getD 0 .bad)).bind fun n17 =>
    (asSl (d16.getD 1 .bad)).bind fun s18 =>
    (stA r15.2.1 nx 0 (.agg [(.int .i64 n17), (.slice s18.1 s18.2.1 s18.2.2)]) 2).bind fun b19 =>
    let h20 := AHeap.put r15.2.1 nx (some b19)
    (ldR h20 nx 0 2).bind fun l21 =>
    (asAgg 2 (AV.agg l21)).bind fun d22 =>
    (asI .i64 (d22.getD 0 .bad)).bind fun n23 =>
    (asSl (d22.getD 1 .bad)).bind fun s24 =>
    some ((.agg [(.int .i64 n23), (.slice s24.1 s24.2.1 s24.2.2)]), h20, r15.2.2))
    else
    ((x0).bind fun p25 =>
    (ldA h1 p25.1 (p25.2 + 1)).bind fun v26 =>
    (asSl v26).bind fun s27 =>
    (s27.1).bind fun p28 =>
    if 0 ≤ (x1 : Int) ∧ x1 < ((s27.2.1 : Nat) : Int) then
    ((ldA h1 p28.1 ((p28.2 + Int.toNat x1 * 2) + 1)).bind fun v29 =>
    (asB v29).bind fun t30 =>
    if (!t30) = true then
    (((callP Try.prog keepT n) Y 11 [(.int .i64 6)] h1 (nx + 25)).bind fun r31 =>
    (asAgg 2 r31.1).bind fun d32 =>
    (asI .i64 (d32.getD 0 .bad)).bind fun n33 =>
    (asSl (d32.getD 1 .bad)).bind fun s34 =>
    (stA r31.2.1 nx 0 (.agg [(.int .i64 n33), (.slice s34.1 s34.2.1 s34.2.2)]) 2).bind fun b35 =>
    let h36 := AHeap.put r31.2.1 nx (some b35)
    (ldR h36 nx 0 2).bind fun l37 =>
    (asAgg 2 (AV.agg l37)).bind fun d38 =>
    (asI .i64 (d38.getD 0 .bad)).bind fun n39 =>
    (asSl (d38.getD 1 .bad)).bind fun s40 =>
    some ((.agg [(.int .i64 n39), (.slice s40.1 s40.2.1 s40.2.2)]), h36, r31.2.2))
    else
    (F12_J1' J J (callP Try.prog keepT n) Y n x0 x1 (some (nx, 0)) h1 (nx + 23)))
    else none)) := by kernel_rfl

/-- (*quickset/snap.keeper).kill -/
theorem F12_eq (n : Nat) (Y : YldF) (x0 : Option (Nat × Nat)) (x1 : Int) (h : AHeap) (nx : Nat) : callP Try.prog keepT (n + 1) Y 12 [(.ptr x0), (.int .i64 x1)] h nx =
    let h1 := AHeap.put h nx (some ⟨[(.int .i64 0), (.slice none 0 none)], 2, true⟩)
    if (decide ((x1 : Int) < 0)) = true then
    (((callP Try.prog keepT n) Y 11 [(.int .i64 6)] h1 (nx + 25)).bind fun r2 =>
    (asAgg 2 r2.1).bind fun d3 =>
    (asI .i64 (d3.getD 0 .bad)).bind fun n4 =>
    (asSl (d3.getD 1 .bad)).bind fun s5 =>
    (stA r2.2.1 nx 0 (.agg [(.int .i64 n4), (.slice s5.1 s5.2.1 s5.2.2)]) 2).bind fun b6 =>
    let h7 := AHeap.put r2.2.1 nx (some b6)
    (ldR h7 nx 0 2).bind fun l8 =>
    (asAgg 2 (AV.agg l8)).bind fun d9 =>
    (asI .i64 (d9.getD 0 .bad)).bind fun n10 =>
    (asSl (d9.getD 1 .bad)).bind fun s11 =>
    some ((.agg [(.int .i64 n10), (.slice s11.1 s11.2.1 s11.2.2)]), h7, r2.2.2))
    else
    ((x0).bind fun p12 =>
    (ldA h1 p12.1 (p12.2 + 1)).bind fun v13 =>
    (asSl v13).bind fun s14 =>
    if (decide ((x1 : Int) ≥ ((s14.2.1 : Nat) : Int))) = true then
    (((callP Try.prog keepT n) Y 11 [(.int .i64 6)] h1 (nx + 25)).bind fun r15 =>
    (asAgg 2 r15.1).bind fun d16 =>
    (asI .i64 (d16.getD 0 .bad)).bind fun n17 =>
    (asSl (d16.getD 1 .bad)).bind fun s18 =>
    (stA r15.2.1 nx 0 (.agg [(.int .i64 n17), (.slice s18.1 s18.2.1 s18.2.2)]) 2).bind fun b19 =>
    let h20 := AHeap.put r15.2.1 nx (some b19)
    (ldR h20 nx 0 2).bind fun l21 =>
    (asAgg 2 (AV.agg l21)).bind fun d22 =>
    (asI .i64 (d22.getD 0 .bad)).bind fun n23 =>
    (asSl (d22.getD 1 .bad)).bind fun s24 =>
    some ((.agg [(.int .i64 n23), (.slice s24.1 s24.2.1 s24.2.2)]), h20, r15.2.2))
    else
    ((x0).bind fun p25 =>
    (ldA h1 p25.1 (p25.2 + 1)).bind fun v26 =>
    (asSl v26).bind fun s27 =>
    (s27.1).bind fun p28 =>
    if 0 ≤ (x1 : Int) ∧ x1 < ((s27.2.1 : Nat) : Int) then
    ((ldA h1 p28.1 ((p28.2 + Int.toNat x1 * 2) + 1)).bind fun v29 =>
    (asB v29).bind fun t30 =>
    if (!t30) = true then
    (((callP Try.prog keepT n) Y 11 [(.int .i64 6)] h1 (nx + 25)).bind fun r31 =>
    (asAgg 2 r31.1).bind fun d32 =>
    (asI .i64 (d32.getD 0 .bad)).bind fun n33 =>
    (asSl (d32.getD 1 .bad)).bind fun s34 =>
    (stA r31.2.1 nx 0 (.agg [(.int .i64 n33), (.slice s34.1 s34.2.1 s34.2.2)]) 2).bind fun b35 =>
    let h36 := AHeap.put r31.2.1 nx (some b35)
    (ldR h36 nx 0 2).bind fun l37 =>
    (asAgg 2 (AV.agg l37)).bind fun d38 =>
    (asI .i64 (d38.getD 0 .bad)).bind fun n39 =>
    (asSl (d38.getD 1 .bad)).bind fun s40 =>
    some ((.agg [(.int .i64 n39), (.slice s40.1 s40.2.1 s40.2.2)]), h36, r31.2.2))
    else
    (F12_J1 (callP Try.prog keepT n) Y n x0 x1 (some (nx, 0)) h1 (nx + 23)))
    else none)) := F12_eq' go1 n Y x0 x1 h nx

noncomputable def c13 : Code := (Try.f13.body).getD .skip

noncomputable def r13 : List ResultVar := Try.f13.results.toList

noncomputable def F13_J1' (W J : StepF (AV × AHeap × Nat) → StepF (AV × AHeap × Nat)) (call : YldF → CallF) (Y : YldF) (lf : Nat) (x0 : Option (Nat × Nat)) (x4 : Option (Nat × Nat)) (x5 : Int) (x6 : Int) (h : AHeap) (nx : Nat) : Option (AV × AHeap × Nat) :=
  goK W J drawK (machOf Try.prog) call Y (keepT 13) lf c13 [1, 1, 1, 1, 1] [] (retK (machOf Try.prog) ⟨c13, 93, r13, keepT 13⟩) ⟨93, mkL [(0, (.ptr x0)), (4, (.ptr x4)), (5, (.int .i64 x5)), (6, (.int .i64 x6))]⟩ h nx

noncomputable def F13_J1 (call : YldF → CallF) (Y : YldF) (lf : Nat) (x0 : Option (Nat × Nat)) (x4 : Option (Nat × Nat)) (x5 : Int) (x6 : Int) (h : AHeap) (nx : Nat) : Option (AV × AHeap × Nat) := F13_J1' go1 go1 call Y lf x0 x4 x5 x6 h nx

noncomputable def F13_L2' (W J : StepF (AV × AHeap × Nat) → StepF (AV × AHeap × Nat)) (call : YldF → CallF) (Y : YldF) (lf : Nat) (n0 : Nat) (x0 : Option (Nat × Nat)) (x4 : Option (Nat × Nat)) (x5 : Int) (x6 : Int) (x7a : Option (Nat × Nat)) (x7n : Nat) (x7c : Option Nat) (x37a : Option (Nat × Nat)) (x37n : Nat) (x37c : Option Nat) (x38 : Int) (x39 : Int) (h : AHeap) (nx : Nat) : Option (AV × AHeap × Nat) :=
  goK W J drawK (machOf Try.prog) call Y (keepT 13) lf c13 [1, 1, 1, 1, 1, 1, 0, 1, 0, 9] [n0] (retK (machOf Try.prog) ⟨c13, 93, r13, keepT 13⟩) ⟨93, mkL [(0, (.ptr x0)), (4, (.ptr x4)), (5, (.int .i64 x5)), (6, (.int .i64 x6)), (7, (.slice x7a x7n x7c)), (37, (.slice x37a x37n x37c)), (38, (.int .i64 x38)), (39, (.int .i64 x39))]⟩ h nx

noncomputable def F13_L2 (call : YldF → CallF) (Y : YldF) (lf : Nat) (n0 : Nat) (x0 : Option (Nat × Nat)) (x4 : Option (Nat × Nat)) (x5 : Int) (x6 : Int) (x7a : Option (Nat × Nat)) (x7n : Nat) (x7c : Option Nat) (x37a : Option (Nat × Nat)) (x37n : Nat) (x37c : Option Nat) (x38 : Int) (x39 : Int) (h : AHeap) (nx : Nat) : Option (AV × AHeap × Nat) := F13_L2' go1 go1 call Y lf n0 x0 x4 x5 x6 x7a x7n x7c x37a x37n x37c x38 x39 h nx

theorem F13_J1_eq' (J : StepF (AV × AHeap × Nat) → StepF (AV × AHeap × Nat)) (call : YldF → CallF) (Y : YldF) (lf : Nat) (x0 : Option (Nat × Nat)) (x4 : Option (Nat × Nat)) (x5 : Int) (x6 : Int) (h : AHeap) (nx : Nat) : F13_J1' go1 J call Y lf x0 x4 x5 x6 h nx =
    (x0).bind fun p1 =>
    (ldA h p1.1 (p1.2 + 2)).bind fun v2 =>
    (asSl v2).bind fun s3 =>
    (s3.1).bind fun p4 =>
    if 0 ≤ (x5 : Int) ∧ x5 < ((s3.2.1 : Nat) : Int) then
    ((ldA h p4.1 ((p4.2 + Int.toNat x5 * 3) + 2)).bind fun v5 =>
    (asSl v5).bind fun s6 =>
    F13_L2' J J call Y lf lf x0 x4 x5 x6 none 0 none s6.1 s6.2.1 s6.2.2 ((s6.2.1 : Nat) : Int) 0 h (nx + 11))
    else none := by kernel_rfl

theorem F13_J1_eq (call : YldF → CallF) (Y : YldF) (lf : Nat) (x0 : Option (Nat × Nat)) (x4 : Option (Nat × Nat)) (x5 : Int) (x6 : Int) (h : AHeap) (nx : Nat) : F13_J1 call Y lf x0 x4 x5 x6 h nx =
    (x0).bind fun p1 =>
    (ldA h p1.1 (p1.2 + 2)).bind fun v2 =>
    (asSl v2).bind fun s3 =>
    (s3.1).bind fun p4 =>
    if 0 ≤ (x5 : Int) ∧ x5 < ((s3.2.1 : Nat) : Int) then
    ((ldA h p4.1 ((p4.2 + Int.toNat x5 * 3) + 2)).bind fun v5 =>
    (asSl v5).bind fun s6 =>
    F13_L2 call Y lf lf x0 x4 x5 x6 none 0 none s6.1 s6.2.1 s6.2.2 ((s6.2.1 : Nat) : Int) 0 h (nx + 11))
    else none := F13_J1_eq' go1 call Y lf x0 x4 x5 x6 h nx

theorem F13_L2_eq' (J : StepF (AV × AHeap × Nat) → StepF (AV × AHeap × Nat)) (call : YldF → CallF) (Y : YldF) (lf : Nat) (n0 : Nat) (x0 : Option (Nat × Nat)) (x4 : Option (Nat × Nat)) (x5 : Int) (x6 : Int) (x7a : Option (Nat × Nat)) (x7n : Nat) (x7c : Option Nat) (x37a : Option (Nat × Nat)) (x37n : Nat) (x37c : Option Nat) (x38 : Int) (x39 : Int) (h : AHeap) (nx : Nat) : F13_L2' go1 J call Y lf (n0 + 1) x0 x4 x5 x6 x7a x7n x7c x37a x37n x37c x38 x39 h nx =
    if (decide ((x39 : Int) < x38)) = true then
    ((x37a).bind fun p1 =>
    if 0 ≤ (x39 : Int) ∧ x39 < ((x37n : Nat) : Int) then
    ((ldA h p1.1 (p1.2 + Int.toNat x39 * 1)).bind fun v2 =>
    (asI .i64 v2).bind fun n3 =>
    (x0).bind fun p4 =>
    (ldA h p4.1 (p4.2 + 1)).bind fun v5 =>
    (asSl v5).bind fun s6 =>
    (s6.1).bind fun p7 =>
    if 0 ≤ (n3 : Int) ∧ n3 < ((s6.2.1 : Nat) : Int) then
    ((ldA h p7.1 (p7.2 + Int.toNat n3 * 2)).bind fun v8 =>
    (asI .i64 v8).bind fun n9 =>
    if (decide ((n9 : Int) > x6)) = true then
    (let h10 := AHeap.put h (nx + 16) (some ⟨[(.int .i64 n3)], 1, true⟩)
    (srcS h10 (some ((nx + 16), 0)) 1 1).bind fun q11 =>
    (appD h10 x7a x7n x7c 1 8 (nx + 17) q11).bind fun e12 =>
    let h13 := AHeap.puts h10 e12.sets
    F13_L2' J J call Y lf n0 x0 x4 x5 x6 e12.a e12.n e12.c x37a x37n x37c x38 (wrapA .i64 (x39 + 1)) h13 (nx + 21))
    else
    ((x0).bind fun p14 =>
    (ldA h p14.1 (p14.2 + 2)).bind fun v15 =>
    (asSl v15).bind fun s16 =>
    (x0).bind fun p17 =>
    (ldA h p17.1 (p17.2 + 2)).bind fun v18 =>
    (asSl v18).bind fun s19 =>
    (s19.1).bind fun p20 =>
    if 0 ≤ ((wrapA .i64 (x5 - 1)) : Int) ∧ (wrapA .i64 (x5 - 1)) < ((s19.2.1 : Nat) : Int) then
    ((ldA h p20.1 ((p20.2 + Int.toNat (wrapA .i64 (x5 - 1)) * 3) + 2)).bind fun v21 =>
    (asSl v21).bind fun s22 =>
    let h23 := AHeap.put h (nx + 30) (some ⟨[(.int .i64 n3)], 1, true⟩)
    (srcS h23 (some ((nx + 30), 0)) 1 1).bind fun q24 =>
    (appD h23 s22.1 s22.2.1 s22.2.2 1 8 (nx + 31) q24).bind fun e25 =>
    let h26 := AHeap.puts h23 e25.sets
    (s16.1).bind fun p27 =>
    if 0 ≤ ((wrapA .i64 (x5 - 1)) : Int) ∧ (wrapA .i64 (x5 - 1)) < ((s16.2.1 : Nat) : Int) then
    ((stA h26 p27.1 ((p27.2 + Int.toNat (wrapA .i64 (x5 - 1)) * 3) + 2) (.slice e25.a e25.n e25.c) 1).bind fun b28 =>
    let h29 := AHeap.put h26 p27.1 (some b28)
    ifApart [([(nx + 30)], [p14.1]), ((idsOf e25.sets), [p14.1]), ([(nx + 30)], [p17.1]), ([(nx + 30)], [p20.1])]
    (F13_L2' J J call Y lf n0 x0 x4 x5 x6 x7a x7n x7c x37a x37n x37c x38 (wrapA .i64 (x39 + 1)) h29 (nx + 37)))
    else none)
    else none))
    else none)
    else none)
    else
    ((x0).bind fun p30 =>
    (ldA h p30.1 (p30.2 + 2)).bind fun v31 =>
    (asSl v31).bind fun s32 =>
    (call Y 16 [(.slice s32.1 s32.2.1 s32.2.2), (.int .i64 x5), (.int .i64 (wrapA .i64 (x5 + 1)))] h (nx + 13)).bind fun r33 =>
    (asSl r33.1).bind fun s34 =>
    (x0).bind fun p35 =>
    (stA r33.2.1 p35.1 (p35.2 + 2) (.slice s34.1 s34.2.1 s34.2.2) 1).bind fun b36 =>
    let h37 := AHeap.put r33.2.1 p35.1 (some b36)
    (call Y 17 [(.slice x7a x7n x7c)] h37 (r33.2.2 + 2)).bind fun r38 =>
    (asTup 0 r38.1).bind fun d39 =>
    (x4).bind fun p40 =>
    (stA r38.2.1 p40.1 p40.2 (.agg [(.int .i64 0), (.slice x7a x7n x7c)]) 2).bind fun b41 =>
    let h42 := AHeap.put r38.2.1 p40.1 (some b41)
    (x4).bind fun p43 =>
    (ldR h42 p43.1 p43.2 2).bind fun l44 =>
    (asAgg 2 (AV.agg l44)).bind fun d45 =>
    (asI .i64 (d45.getD 0 .bad)).bind fun n46 =>
    (asSl (d45.getD 1 .bad)).bind fun s47 =>
    some ((.agg [(.int .i64 n46), (.slice s47.1 s47.2.1 s47.2.2)]), h42, (r38.2.2 + 3))) := by kernel_rfl

theorem F13_L2_eq (call : YldF → CallF) (Y : YldF) (lf : Nat) (n0 : Nat) (x0 : Option (Nat × Nat)) (x4 : Option (Nat × Nat)) (x5 : Int) (x6 : Int) (x7a : Option (Nat × Nat)) (x7n : Nat) (x7c : Option Nat) (x37a : Option (Nat × Nat)) (x37n : Nat) (x37c : Option Nat) (x38 : Int) (x39 : Int) (h : AHeap) (nx : Nat) : F13_L2 call Y lf (n0 + 1) x0 x4 x5 x6 x7a x7n x7c x37a x37n x37c x38 x39 h nx =
    if (decide ((x39 : Int) < x38)) = true then
    ((x37a).bind fun p1 =>
    if 0 ≤ (x39 : Int) ∧ x39 < ((x37n : Nat) : Int) then
    ((ldA h p1.1 (p1.2 + Int.toNat x39 * 1)).bind fun v2 =>
    (asI .i64 v2).bind fun n3 =>
    (x0).bind fun p4 =>
    (ldA h p4.1 (p4.2 + 1)).bind fun v5 =>
    (asSl v5).bind fun s6 =>
    (s6.1).bind fun p7 =>
    if 0 ≤ (n3 : Int) ∧ n3 < ((s6.2.1 : Nat) : Int) then
    ((ldA h p7.1 (p7.2 + Int.toNat n3 * 2)).bind fun v8 =>
    (asI .i64 v8).bind fun n9 =>
    if (decide ((n9 : Int) > x6)) = true then
    (let h10 := AHeap.put h (nx + 16) (some ⟨[(.int .i64 n3)], 1, true⟩)
    (srcS h10 (some ((nx + 16), 0)) 1 1).bind fun q11 =>
    (appD h10 x7a x7n x7c 1 8 (nx + 17) q11).bind fun e12 =>
    let h13 := AHeap.puts h10 e12.sets
    F13_L2 call Y lf n0 x0 x4 x5 x6 e12.a e12.n e12.c x37a x37n x37c x38 (wrapA .i64 (x39 + 1)) h13 (nx + 21))
    else
    ((x0).bind fun p14 =>
    (ldA h p14.1 (p14.2 + 2)).bind fun v15 =>
    (asSl v15).bind fun s16 =>
    (x0).bind fun p17 =>
    (ldA h p17.1 (p17.2 + 2)).bind fun v18 =>
    (asSl v18).bind fun s19 =>
    (s19.1).bind fun p20 =>
    if 0 ≤ ((wrapA .i64 (x5 - 1)) : Int) ∧ (wrapA .i64 (x5 - 1)) < ((s19.2.1 : Nat) : Int) then
    ((ldA h p20.1 ((p20.2 + Int.toNat (wrapA .i64 (x5 - 1)) * 3) + 2)).bind fun v21 =>
    (asSl v21).bind fun s22 =>
    let h23 := AHeap.put h (nx + 30) (some ⟨[(.int .i64 n3)], 1, true⟩)
    (srcS h23 (some ((nx + 30), 0)) 1 1).bind fun q24 =>
    (appD h23 s22.1 s22.2.1 s22.2.2 1 8 (nx + 31) q24).bind fun e25 =>
    let h26 := AHeap.puts h23 e25.sets
    (s16.1).bind fun p27 =>
    if 0 ≤ ((wrapA .i64 (x5 - 1)) : Int) ∧ (wrapA .i64 (x5 - 1)) < ((s16.2.1 : Nat) : Int) then
    ((stA h26 p27.1 ((p27.2 + Int.toNat (wrapA .i64 (x5 - 1)) * 3) + 2) (.slice e25.a e25.n e25.c) 1).bind fun b28 =>
    let h29 := AHeap.put h26 p27.1 (some b28)
    ifApart [([(nx + 30)], [p14.1]), ((idsOf e25.sets), [p14.1]), ([(nx + 30)], [p17.1]), ([(nx + 30)], [p20.1])]
    (F13_L2 call Y lf n0 x0 x4 x5 x6 x7a x7n x7c x37a x37n x37c x38 (wrapA .i64 (x39 + 1)) h29 (nx + 37)))
    else none)
    else none))
    else none)
    else none)
    else
    ((x0).bind fun p30 =>
    (ldA h p30.1 (p30.2 + 2)).bind fun v31 =>
    (asSl v31).bind fun s32 =>
    (call Y 16 [(.slice s32.1 s32.2.1 s32.2.2), (.int .i64 x5), (.int .i64 (wrapA .i64 (x5 + 1)))] h (nx + 13)).bind fun r33 =>
    (asSl r33.1).bind fun s34 =>
    (x0).bind fun p35 =>
    (stA r33.2.1 p35.1 (p35.2 + 2) (.slice s34.1 s34.2.1 s34.2.2) 1).bind fun b36 =>
    let h37 := AHeap.put r33.2.1 p35.1 (some b36)
    (call Y 17 [(.slice x7a x7n x7c)] h37 (r33.2.2 + 2)).bind fun r38 =>
    (asTup 0 r38.1).bind fun d39 =>
    (x4).bind fun p40 =>
    (stA r38.2.1 p40.1 p40.2 (.agg [(.int .i64 0), (.slice x7a x7n x7c)]) 2).bind fun b41 =>
    let h42 := AHeap.put r38.2.1 p40.1 (some b41)
    (x4).bind fun p43 =>
    (ldR h42 p43.1 p43.2 2).bind fun l44 =>
    (asAgg 2 (AV.agg l44)).bind fun d45 =>
    (asI .i64 (d45.getD 0 .bad)).bind fun n46 =>
    (asSl (d45.getD 1 .bad)).bind fun s47 =>
    some ((.agg [(.int .i64 n46), (.slice s47.1 s47.2.1 s47.2.2)]), h42, (r38.2.2 + 3))) := F13_L2_eq' go1 call Y lf n0 x0 x4 x5 x6 x7a x7n x7c x37a x37n x37c x38 x39 h nx

theorem F13_L2_zero (call : YldF → CallF) (Y : YldF) (lf : Nat) (x0 : Option (Nat × Nat)) (x4 : Option (Nat × Nat)) (x5 : Int) (x6 : Int) (x7a : Option (Nat × Nat)) (x7n : Nat) (x7c : Option Nat) (x37a : Option (Nat × Nat)) (x37n : Nat) (x37c : Option Nat) (x38 : Int) (x39 : Int) (h : AHeap) (nx : Nat) : F13_L2 call Y lf 0 x0 x4 x5 x6 x7a x7n x7c x37a x37n x37c x38 x39 h nx = none := by kernel_rfl

theorem F13_eq' (J : StepF (AV × AHeap × Nat) → StepF (AV × AHeap × Nat)) (n : Nat) (Y : YldF) (x0 : Option (Nat × Nat)) (x1 : Int) (h : AHeap) (nx : Nat) : rootJ J Try.prog keepT (callP Try.prog keepT n) Y n 13 [(.ptr x0), (.int .i64 x1)] h nx =
    let h1 := AHeap.put h nx (some ⟨[(.int .i64 x1)], 1, true⟩)
    let h2 := AHeap.put h1 (nx + 1) (some ⟨[(.int .i64 0), (.slice none 0 none)], 2, true⟩)
    (x0).bind fun p3 =>
    (ldA h2 p3.1 (p3.2 + 2)).bind fun v4 =>
    (asSl v4).bind fun s5 =>
    ((callP Try.prog keepT n) Y 14 [(.slice s5.1 s5.2.1 s5.2.2), (.fn 15 [] [(.ptr (some (nx, 0)))])] h2 (nx + 9)).bind fun r6 =>
    (asI .i64 r6.1).bind fun n7 =>
    if (decide ((n7 : Int) < 0)) = true then
    (((callP Try.prog keepT n) Y 11 [(.int .i64 6)] r6.2.1 (r6.2.2 + 4)).bind fun r8 =>
    (asAgg 2 r8.1).bind fun d9 =>
    (asI .i64 (d9.getD 0 .bad)).bind fun n10 =>
    (asSl (d9.getD 1 .bad)).bind fun s11 =>
    (stA r8.2.1 (nx + 1) 0 (.agg [(.int .i64 n10), (.slice s11.1 s11.2.1 s11.2.2)]) 2).bind fun b12 =>
    let h13 := AHeap.put r8.2.1 (nx + 1) (some b12)
    (ldR h13 (nx + 1) 0 2).bind fun l14 =>
    (asAgg 2 (AV.agg l14)).bind fun d15 =>
    (asI .i64 (d15.getD 0 .bad)).bind fun n16 =>
    (asSl (d15.getD 1 .bad)).bind fun s17 =>
    some ((.agg [(.int .i64 n16), (.slice s17.1 s17.2.1 s17.2.2)]), h13, r8.2.2))
    else
    (if (decide ((n7 : Int) > 0)) = true then
    ((x0).bind fun p18 =>
    (ldA r6.2.1 p18.1 (p18.2 + 2)).bind fun v19 =>
    (asSl v19).bind fun s20 =>
    (s20.1).bind fun p21 =>
    if 0 ≤ ((wrapA .i64 (n7 - 1)) : Int) ∧ (wrapA .i64 (n7 - 1)) < ((s20.2.1 : Nat) : Int) then
    ((ldA r6.2.1 p21.1 ((p21.2 + Int.toNat (wrapA .i64 (n7 - 1)) * 3) + 1)).bind fun v22 =>
    (asI .i64 v22).bind fun n23 =>
    F13_J1' J J (callP Try.prog keepT n) Y n x0 (some ((nx + 1), 0)) n7 n23 r6.2.1 (r6.2.2 + 15))
    else none)
    else
    (F13_J1' J J (callP Try.prog keepT n) Y n x0 (some ((nx + 1), 0)) n7 (-1) r6.2.1 (r6.2.2 + 5))) := by kernel_rfl

/-- (*quickset/snap.keeper).drop -/
theorem F13_eq (n : Nat) (Y : YldF) (x0 : Option (Nat × Nat)) (x1 : Int) (h : AHeap) (nx : Nat) : callP Try.prog keepT (n + 1) Y 13 [(.ptr x0), (.int .i64 x1)] h nx =
    let h1 := AHeap.put h nx (some ⟨[(.int .i64 x1)], 1, true⟩)
    let h2 := AHeap.put h1 (nx + 1) (some ⟨[(.int .i64 0), (.slice none 0 none)], 2, true⟩)
    (x0).bind fun p3 =>
    (ldA h2 p3.1 (p3.2 + 2)).bind fun v4 =>
    (asSl v4).bind fun s5 =>
    ((callP Try.prog keepT n) Y 14 [(.slice s5.1 s5.2.1 s5.2.2), (.fn 15 [] [(.ptr (some (nx, 0)))])] h2 (nx + 9)).bind fun r6 =>
    (asI .i64 r6.1).bind fun n7 =>
    if (decide ((n7 : Int) < 0)) = true then
    (((callP Try.prog keepT n) Y 11 [(.int .i64 6)] r6.2.1 (r6.2.2 + 4)).bind fun r8 =>
    (asAgg 2 r8.1).bind fun d9 =>
    (asI .i64 (d9.getD 0 .bad)).bind fun n10 =>
    (asSl (d9.getD 1 .bad)).bind fun s11 =>
    (stA r8.2.1 (nx + 1) 0 (.agg [(.int .i64 n10), (.slice s11.1 s11.2.1 s11.2.2)]) 2).bind fun b12 =>
    let h13 := AHeap.put r8.2.1 (nx + 1) (some b12)
    (ldR h13 (nx + 1) 0 2).bind fun l14 =>
    (asAgg 2 (AV.agg l14)).bind fun d15 =>
    (asI .i64 (d15.getD 0 .bad)).bind fun n16 =>
    (asSl (d15.getD 1 .bad)).bind fun s17 =>
    some ((.agg [(.int .i64 n16), (.slice s17.1 s17.2.1 s17.2.2)]), h13, r8.2.2))
    else
    (if (decide ((n7 : Int) > 0)) = true then
    ((x0).bind fun p18 =>
    (ldA r6.2.1 p18.1 (p18.2 + 2)).bind fun v19 =>
    (asSl v19).bind fun s20 =>
    (s20.1).bind fun p21 =>
    if 0 ≤ ((wrapA .i64 (n7 - 1)) : Int) ∧ (wrapA .i64 (n7 - 1)) < ((s20.2.1 : Nat) : Int) then
    ((ldA r6.2.1 p21.1 ((p21.2 + Int.toNat (wrapA .i64 (n7 - 1)) * 3) + 1)).bind fun v22 =>
    (asI .i64 v22).bind fun n23 =>
    F13_J1 (callP Try.prog keepT n) Y n x0 (some ((nx + 1), 0)) n7 n23 r6.2.1 (r6.2.2 + 15))
    else none)
    else
    (F13_J1 (callP Try.prog keepT n) Y n x0 (some ((nx + 1), 0)) n7 (-1) r6.2.1 (r6.2.2 + 5))) := F13_eq' go1 n Y x0 x1 h nx

noncomputable def c14 : Code := (Try.f14.body).getD .skip

noncomputable def r14 : List ResultVar := Try.f14.results.toList

noncomputable def F14_L1' (W J : StepF (AV × AHeap × Nat) → StepF (AV × AHeap × Nat)) (call : YldF → CallF) (Y : YldF) (lf : Nat) (n0 : Nat) (x0a : Option (Nat × Nat)) (x0n : Nat) (x0c : Option Nat) (x1 : AV) (x7 : Int) (x8 : Int) (h : AHeap) (nx : Nat) : Option (AV × AHeap × Nat) :=
  goK W J drawK (machOf Try.prog) call Y (keepT 14) lf c14 [1, 0, 1, 0, 9] [n0] (retK (machOf Try.prog) ⟨c14, 19, r14, keepT 14⟩) ⟨19, mkL [(0, (.slice x0a x0n x0c)), (1, x1), (7, (.int .i64 x7)), (8, (.int .i64 x8))]⟩ h nx

noncomputable def F14_L1 (call : YldF → CallF) (Y : YldF) (lf : Nat) (n0 : Nat) (x0a : Option (Nat × Nat)) (x0n : Nat) (x0c : Option Nat) (x1 : AV) (x7 : Int) (x8 : Int) (h : AHeap) (nx : Nat) : Option (AV × AHeap × Nat) := F14_L1' go1 go1 call Y lf n0 x0a x0n x0c x1 x7 x8 h nx

theorem F14_L1_eq' (J : StepF (AV × AHeap × Nat) → StepF (AV × AHeap × Nat)) (call : YldF → CallF) (Y : YldF) (lf : Nat) (n0 : Nat) (x0a : Option (Nat × Nat)) (x0n : Nat) (x0c : Option Nat) (x1 : AV) (x7 : Int) (x8 : Int) (h : AHeap) (nx : Nat) : F14_L1' go1 J call Y lf (n0 + 1) x0a x0n x0c x1 x7 x8 h nx =
    if (decide ((x8 : Int) < x7)) = true then
    ((x0a).bind fun p1 =>
    if 0 ≤ (x8 : Int) ∧ x8 < ((x0n : Nat) : Int) then
    ((ldR h p1.1 (p1.2 + Int.toNat x8 * 3) 3).bind fun l2 =>
    (asAgg 3 (AV.agg l2)).bind fun d3 =>
    (asI .i64 (d3.getD 0 .bad)).bind fun n4 =>
    (asI .i64 (d3.getD 1 .bad)).bind fun n5 =>
    (asSl (d3.getD 2 .bad)).bind fun s6 =>
    (asCal x1).bind fun q8 =>
    (callC (call Y) Y q8.1 (q8.2.1 ++ [(.agg [(.int .i64 n4), (.int .i64 n5), (.slice s6.1 s6.2.1 s6.2.2)])] ++ q8.2.2) h (nx + 9)).bind fun r7 =>
    (asB r7.1).bind fun t9 =>
    if t9 = true then
    (some ((.int .i64 x8), r7.2.1, (r7.2.2 + 2)))
    else
    (F14_L1' J J call Y lf n0 x0a x0n x0c (x1) x7 (wrapA .i64 (x8 + 1)) r7.2.1 (r7.2.2 + 2)))
    else none)
    else
    (some ((.int .i64 (-1)), h, (nx + 2))) := by kernel_rfl

theorem F14_L1_eq (call : YldF → CallF) (Y : YldF) (lf : Nat) (n0 : Nat) (x0a : Option (Nat × Nat)) (x0n : Nat) (x0c : Option Nat) (x1 : AV) (x7 : Int) (x8 : Int) (h : AHeap) (nx : Nat) : F14_L1 call Y lf (n0 + 1) x0a x0n x0c x1 x7 x8 h nx =
    if (decide ((x8 : Int) < x7)) = true then
    ((x0a).bind fun p1 =>
    if 0 ≤ (x8 : Int) ∧ x8 < ((x0n : Nat) : Int) then
    ((ldR h p1.1 (p1.2 + Int.toNat x8 * 3) 3).bind fun l2 =>
    (asAgg 3 (AV.agg l2)).bind fun d3 =>
    (asI .i64 (d3.getD 0 .bad)).bind fun n4 =>
    (asI .i64 (d3.getD 1 .bad)).bind fun n5 =>
    (asSl (d3.getD 2 .bad)).bind fun s6 =>
    (asCal x1).bind fun q8 =>
    (callC (call Y) Y q8.1 (q8.2.1 ++ [(.agg [(.int .i64 n4), (.int .i64 n5), (.slice s6.1 s6.2.1 s6.2.2)])] ++ q8.2.2) h (nx + 9)).bind fun r7 =>
    (asB r7.1).bind fun t9 =>
    if t9 = true then
    (some ((.int .i64 x8), r7.2.1, (r7.2.2 + 2)))
    else
    (F14_L1 call Y lf n0 x0a x0n x0c (x1) x7 (wrapA .i64 (x8 + 1)) r7.2.1 (r7.2.2 + 2)))
    else none)
    else
    (some ((.int .i64 (-1)), h, (nx + 2))) := F14_L1_eq' go1 call Y lf n0 x0a x0n x0c x1 x7 x8 h nx

theorem F14_L1_zero (call : YldF → CallF) (Y : YldF) (lf : Nat) (x0a : Option (Nat × Nat)) (x0n : Nat) (x0c : Option Nat) (x1 : AV) (x7 : Int) (x8 : Int) (h : AHeap) (nx : Nat) : F14_L1 call Y lf 0 x0a x0n x0c x1 x7 x8 h nx = none := by kernel_rfl

theorem F14_eq' (J : StepF (AV × AHeap × Nat) → StepF (AV × AHeap × Nat)) (n : Nat) (Y : YldF) (x0a : Option (Nat × Nat)) (x0n : Nat) (x0c : Option Nat) (x1 : AV) (h : AHeap) (nx : Nat) : rootJ J Try.prog keepT (callP Try.prog keepT n) Y n 14 [(.slice x0a x0n x0c), x1] h nx =
    F14_L1' J J (callP Try.prog keepT n) Y n n x0a x0n x0c (x1) ((x0n : Nat) : Int) 0 h (nx + 4) := by kernel_rfl

/-- slices.IndexFunc[[]quickset/snap.shot,quickset/snap.shot] -/
theorem F14_eq (n : Nat) (Y : YldF) (x0a : Option (Nat × Nat)) (x0n : Nat) (x0c : Option Nat) (x1 : AV) (h : AHeap) (nx : Nat) : callP Try.prog keepT (n + 1) Y 14 [(.slice x0a x0n x0c), x1] h nx =
    F14_L1 (callP Try.prog keepT n) Y n n x0a x0n x0c (x1) ((x0n : Nat) : Int) 0 h (nx + 4) := F14_eq' go1 n Y x0a x0n x0c x1 h nx

noncomputable def c15 : Code := (Try.f15.body).getD .skip

noncomputable def r15 : List ResultVar := Try.f15.results.toList

theorem F15_eq' (J : StepF (AV × AHeap × Nat) → StepF (AV × AHeap × Nat)) (n : Nat) (Y : YldF) (x0_0 : Int) (x0_1 : Int) (x0_2a : Option (Nat × Nat)) (x0_2n : Nat) (x0_2c : Option Nat) (x1 : Option (Nat × Nat)) (h : AHeap) (nx : Nat) : rootJ J Try.prog keepT (callP Try.prog keepT n) Y n 15 [(.agg [(.int .i64 x0_0), (.int .i64 x0_1), (.slice x0_2a x0_2n x0_2c)]), (.ptr x1)] h nx =
    let h1 := AHeap.put h nx (some ⟨[(.int .i64 x0_0), (.int .i64 x0_1), (.slice x0_2a x0_2n x0_2c)], 3, true⟩)
    (ldA h1 nx 0).bind fun v2 =>
    (asI .i64 v2).bind fun n3 =>
    (x1).bind fun p4 =>
    (ldA h1 p4.1 p4.2).bind fun v5 =>
    (asI .i64 v5).bind fun n6 =>
    some ((.bool ((n3 : Int) == n6)), h1, (nx + 7)) := by kernel_rfl

/-- (*quickset/snap.keeper).drop$1 -/
theorem F15_eq (n : Nat) (Y : YldF) (x0_0 : Int) (x0_1 : Int) (x0_2a : Option (Nat × Nat)) (x0_2n : Nat) (x0_2c : Option Nat) (x1 : Option (Nat × Nat)) (h : AHeap) (nx : Nat) : callP Try.prog keepT (n + 1) Y 15 [(.agg [(.int .i64 x0_0), (.int .i64 x0_1), (.slice x0_2a x0_2n x0_2c)]), (.ptr x1)] h nx =
    let h1 := AHeap.put h nx (some ⟨[(.int .i64 x0_0), (.int .i64 x0_1), (.slice x0_2a x0_2n x0_2c)], 3, true⟩)
    (ldA h1 nx 0).bind fun v2 =>
    (asI .i64 v2).bind fun n3 =>
    (x1).bind fun p4 =>
    (ldA h1 p4.1 p4.2).bind fun v5 =>
    (asI .i64 v5).bind fun n6 =>
    some ((.bool ((n3 : Int) == n6)), h1, (nx + 7)) := F15_eq' go1 n Y x0_0 x0_1 x0_2a x0_2n x0_2c x1 h nx

noncomputable def c16 : Code := (Try.f16.body).getD .skip

noncomputable def r16 : List ResultVar := Try.f16.results.toList

theorem F16_eq' (J : StepF (AV × AHeap × Nat) → StepF (AV × AHeap × Nat)) (n : Nat) (Y : YldF) (x0a : Option (Nat × Nat)) (x0n : Nat) (x0c : Option Nat) (x1 : Int) (x2 : Int) (h : AHeap) (nx : Nat) : rootJ J Try.prog keepT (callP Try.prog keepT n) Y n 16 [(.slice x0a x0n x0c), (.int .i64 x1), (.int .i64 x2)] h nx =
    (cutA h x0a x0n x0c 3 (some (.int .i64 x1)) (some (.int .i64 x2)) (some (.int .i64 ((x0n : Nat) : Int)))).bind fun s1 =>
    if ((x1 : Int) == x2) = true then
    (some ((.slice x0a x0n x0c), h, (nx + 12)))
    else
    ((cutA h x0a x0n x0c 3 none (some (.int .i64 x1)) none).bind fun s2 =>
    (cutA h x0a x0n x0c 3 (some (.int .i64 x2)) none none).bind fun s3 =>
    (srcS h s3.1 s3.2.1 3).bind fun q4 =>
    (appD h s2.1 s2.2.1 s2.2.2 3 40 (nx + 19) q4).bind fun e5 =>
    let h6 := AHeap.puts h e5.sets
    (cutA h6 e5.a e5.n e5.c 3 (some (.int .i64 ((e5.n : Nat) : Int))) (some (.int .i64 ((x0n : Nat) : Int))) none).bind fun s7 =>
    (cleD h6 s7.1 s7.2.1 3 [(.int .i64 0), (.int .i64 0), (.slice none 0 none)]).bind fun q8 =>
    let h9 := AHeap.puts h6 q8.1
    some ((.slice e5.a e5.n e5.c), h9, (nx + 29))) := by kernel_rfl

/-- slices.Delete[[]quickset/snap.shot,quickset/snap.shot] -/
theorem F16_eq (n : Nat) (Y : YldF) (x0a : Option (Nat × Nat)) (x0n : Nat) (x0c : Option Nat) (x1 : Int) (x2 : Int) (h : AHeap) (nx : Nat) : callP Try.prog keepT (n + 1) Y 16 [(.slice x0a x0n x0c), (.int .i64 x1), (.int .i64 x2)] h nx =
    (cutA h x0a x0n x0c 3 (some (.int .i64 x1)) (some (.int .i64 x2)) (some (.int .i64 ((x0n : Nat) : Int)))).bind fun s1 =>
    if ((x1 : Int) == x2) = true then
    (some ((.slice x0a x0n x0c), h, (nx + 12)))
    else
    ((cutA h x0a x0n x0c 3 none (some (.int .i64 x1)) none).bind fun s2 =>
    (cutA h x0a x0n x0c 3 (some (.int .i64 x2)) none none).bind fun s3 =>
    (srcS h s3.1 s3.2.1 3).bind fun q4 =>
    (appD h s2.1 s2.2.1 s2.2.2 3 40 (nx + 19) q4).bind fun e5 =>
    let h6 := AHeap.puts h e5.sets
    (cutA h6 e5.a e5.n e5.c 3 (some (.int .i64 ((e5.n : Nat) : Int))) (some (.int .i64 ((x0n : Nat) : Int))) none).bind fun s7 =>
    (cleD h6 s7.1 s7.2.1 3 [(.int .i64 0), (.int .i64 0), (.slice none 0 none)]).bind fun q8 =>
    let h9 := AHeap.puts h6 q8.1
    some ((.slice e5.a e5.n e5.c), h9, (nx + 29))) := F16_eq' go1 n Y x0a x0n x0c x1 x2 h nx

/-- slices.Sort[[]int,int], by its contract -/
theorem F17_eq (n : Nat) (Y : YldF) (args : List AV) (h : AHeap) (nx : Nat) : callP Try.prog keepT (n + 1) Y 17 args h nx = orcK [1] args h nx := by kernel_rfl

end Go.Proofs.Ytaikceooeahfeaa.T
