/- Printed by mp.py: functions of the program as plain Lean, each by the kernel. -/
import Derived.Test.YtncmdbpoceilgaaTG
import Derived.Test.YtncmdbpoceilgaaProg
import Derived.KernelRfl
set_option linter.unusedVariables false
set_option linter.unusedSimpArgs false
namespace Go.Proofs.Ytncmdbpoceilgaa.T
open Go Go.RowKit Go.Proofs
set_option maxRecDepth 100000

def keepL : List (Nat × List (Nat × Bool × List Nat)) := [(3, [(0, false, [0, 1, 2]), (1, false, [0, 1, 2]), (2, false, [1, 2, 7]), (3, false, [1, 7, 8]), (4, false, [1, 8, 9]), (5, false, [1, 8, 9, 10]), (6, false, [1, 8, 9, 10, 11]), (7, false, [1, 8, 9, 10, 11]), (8, true, [1, 8, 9, 10, 11]), (9, false, [1, 8, 9, 10, 11, 12]), (10, false, [1, 8, 9, 10, 11, 12]), (11, true, [1, 8, 9, 10, 11, 12]), (12, true, [8, 9, 10]), (13, false, [9, 10]), (14, false, [10, 13, 14])]),
  (4, [(0, false, [0, 1, 2]), (1, false, [0, 1, 2]), (2, false, [1, 2, 7]), (3, false, [1, 2, 7, 8]), (4, false, [2, 7, 8]), (5, false, [7, 8]), (6, false, [8, 9, 10]), (7, false, [8, 9, 10, 11])]),
  (5, [(0, false, [0, 1, 2, 3]), (1, false, [0, 1, 2, 3]), (2, false, [1, 2, 3, 9]), (3, false, [2, 3, 9, 10]), (4, false, [2, 9, 10, 11]), (5, false, [9, 10, 11, 12]), (6, false, [9, 11, 12]), (7, false, [11, 12, 13, 14]), (8, false, []), (9, true, [11, 12, 13]), (10, false, [11, 12, 13, 15]), (11, false, [11, 12, 13, 15, 16]), (12, false, [11, 12, 15, 16, 17]), (13, false, [15, 16, 17]), (14, false, [11, 12, 15, 16, 17]), (15, false, []), (16, true, [11, 12, 15, 17]), (17, false, [11, 12, 15, 17, 18]), (18, false, [11, 12, 15, 17, 18]), (19, false, [11, 12, 15, 17, 18]), (20, false, [11, 12, 15, 17, 18, 19]), (21, false, [11, 12, 15, 17, 18]), (22, true, [11, 12, 15, 17, 18, 19]), (23, false, [11, 12, 15, 17, 18]), (24, true, [11, 12, 15, 17, 18, 19]), (25, false, []), (26, false, [])]),
  (6, [(0, false, [0]), (1, false, [0]), (2, false, [3]), (3, false, [3, 4, 5]), (4, false, []), (5, true, [3, 4]), (6, false, [3, 4, 6]), (7, false, [3, 4, 6, 7]), (8, false, [3, 4, 6, 7, 8]), (9, false, [3, 4, 6, 7, 8]), (10, false, [3, 4, 6, 7, 8]), (11, false, [3, 4, 6, 7, 8]), (12, false, [3, 4, 6, 7, 8]), (13, false, [6, 7]), (14, false, [7, 9, 10]), (15, false, []), (16, false, [7, 9]), (17, false, [7, 9, 11]), (18, false, [7, 9, 11]), (19, false, [7, 9, 11]), (20, false, []), (21, false, [])]),
  (7, [(0, false, [0, 1, 2]), (1, false, [0, 1, 2]), (2, false, [0, 1, 2, 7]), (3, false, [0, 1, 2, 7, 8]), (4, false, [0, 1, 2, 7, 8]), (5, true, [0, 1, 2, 7, 8]), (6, false, [7])]),
  (8, [(0, false, []), (1, false, [])]),
  (9, [(0, false, [0]), (1, false, [0])]),
  (10, [(0, false, [0, 1]), (1, false, [1, 2, 4]), (2, false, [2, 4, 5]), (3, false, [2, 4, 5]), (4, false, [4, 5])]),
  (11, [(0, false, [0]), (1, false, [0]), (2, false, [0, 4, 5])]),
  (12, [(0, false, []), (1, false, []), (2, false, [1, 2])]),
  (13, [(0, false, [0, 1]), (1, false, [2, 3])]),
  (14, [(0, false, [0, 1]), (1, false, [0, 1]), (2, false, []), (3, false, [0, 1])]),
  (15, [(0, false, [0, 1]), (1, false, [0, 1]), (2, false, [0, 1]), (3, false, [0, 1]), (4, false, [0])]),
  (16, [(0, false, [0]), (1, false, [0])]),
  (17, [(0, false, [0]), (1, false, [0]), (2, false, []), (3, false, [0]), (4, false, [0, 4]), (5, false, [0, 4, 5]), (6, false, [4, 5, 12, 13, 14]), (7, false, [4, 5, 12, 13, 14]), (8, false, [4, 5, 7, 12, 13, 14]), (9, false, [4, 5, 12, 13, 14]), (10, false, [5])]),
  (18, [(0, false, [0, 1]), (1, false, [0, 1]), (2, false, []), (3, false, [0, 1]), (4, false, [0, 1, 5]), (5, false, [0, 1, 5]), (6, false, [0, 1, 5]), (7, false, []), (8, false, [])]),
  (19, [(0, false, [0, 1]), (1, false, [0, 1]), (2, false, []), (3, false, [0, 1]), (4, false, [0, 1, 5]), (5, false, [0, 1, 5]), (6, false, [0, 1, 5]), (7, false, []), (8, false, [])]),
  (20, [(0, false, [0]), (1, false, [0])]),
  (21, [(0, false, [0, 1]), (1, false, [0, 3, 4]), (2, false, [4]), (3, false, [0, 3, 4, 9]), (4, false, [0, 3, 4]), (5, false, [0, 3, 4, 5]), (6, false, [4, 5]), (7, false, [0, 3, 4]), (8, false, [0, 3, 4, 9]), (9, false, [0, 4]), (10, false, [0, 3, 4, 9]), (11, false, [0, 4]), (12, false, [0, 3, 4, 9]), (13, false, [0, 3, 4, 9]), (14, false, [0, 3, 4, 9]), (15, false, [0, 3, 4, 9]), (16, false, [0, 3, 4]), (17, false, [0, 3, 4, 9]), (18, false, [0, 3, 4, 9]), (19, false, [0, 3, 4, 9]), (20, false, [0, 3, 4, 9]), (21, false, [0, 3, 4]), (22, false, [0, 3, 4, 6, 7]), (23, false, [4]), (24, false, [0, 3, 4, 6]), (25, false, [4, 9]), (26, false, [4])]),
  (22, [(0, false, [0, 1, 2]), (1, false, [0, 1, 2]), (2, false, [0, 1, 2, 8]), (3, false, []), (4, false, [0, 2, 8]), (5, false, []), (6, false, [0, 2]), (7, false, []), (8, false, [])]),
  (23, [(0, false, [0]), (1, false, [0, 2])]),
  (24, [(9000000, true, [3])]),
  (25, [(9000000, true, [3])]),
  (26, [(0, false, [0, 1]), (1, false, [0, 3, 4]), (2, false, [0, 3, 4]), (3, false, [0, 3, 4, 5]), (4, false, [0, 3, 4, 5]), (5, false, [4, 5]), (6, false, [0, 3, 4]), (7, false, [0, 3, 4, 6, 7]), (8, false, [4]), (9, false, [0, 3, 4, 6]), (10, false, [0, 3, 4, 6, 49]), (11, false, [0, 4, 6]), (12, false, [0, 3, 4, 6, 49]), (13, false, [0, 3, 4]), (14, false, [3, 4, 6, 49]), (15, false, [3, 4, 6]), (16, false, [3, 4, 8, 9]), (17, false, [4]), (18, false, [3, 4, 8]), (19, false, [4])]),
  (27, [(0, false, [0, 1, 2]), (1, false, [0, 1, 5, 6]), (2, false, [0, 1, 5, 6, 7]), (3, false, [0, 1, 5, 6, 7, 10]), (4, false, [1, 5, 6]), (5, false, [0, 1, 5, 6, 7, 10]), (6, false, [0, 5, 6]), (7, false, [6]), (8, false, [0, 1, 5, 6, 7, 10]), (9, false, [0, 1, 5, 6]), (10, false, [0, 1, 5, 6, 8]), (11, false, [6]), (12, false, [0, 1, 5, 6, 8]), (13, false, [6]), (14, true, [0, 1, 5, 6]), (15, false, [0, 1, 5, 6, 7, 10]), (16, false, [0, 1, 5, 6]), (17, false, [6]), (18, true, [0, 1, 5, 6]), (19, true, [0, 1, 5, 6, 7]), (20, false, [6, 7]), (21, false, [0, 1, 5, 6]), (22, false, [1, 6])]),
  (28, [(0, false, [0]), (1, false, [0]), (2, false, [0, 6, 7, 8]), (3, false, [0, 6, 7, 8]), (4, false, [0, 4, 6, 7, 8]), (5, false, []), (6, false, [0, 6, 7, 8]), (7, false, [0])]),
  (32, [(0, false, [0, 1, 2]), (1, false, [0, 1, 2]), (2, false, [0, 1, 2, 8]), (3, false, []), (4, false, [0, 2, 8]), (5, false, []), (6, false, [0, 2]), (7, false, []), (8, false, [])]),
  (33, [(9000000, true, [4])]),
  (34, [(0, false, [0, 1]), (1, false, [0, 3, 4]), (2, false, [4]), (3, true, [0, 3, 4]), (4, false, [0, 4, 5, 6]), (5, false, [4, 6]), (6, false, [0, 4, 5])]),
  (78, [(0, false, [0, 1]), (1, false, [0, 1]), (2, false, [0, 6]), (3, false, [6])]),
  (79, [(0, false, [0]), (1, false, [0])]),
  (80, [(0, false, [0, 1, 2]), (1, false, [0, 1, 2]), (2, false, [0, 1, 2, 8]), (3, false, [1, 2, 8]), (4, false, [8])]),
  (77, [(0, false, [0, 1, 2]), (1, false, [0, 1, 2]), (2, false, []), (3, false, [0, 1, 2])]),
  (81, [(0, false, [0]), (1, false, [0]), (2, false, []), (3, false, [0])])]
def keepT : Nat → Keep := keepOf keepL

noncomputable def c3 : Code := (Try.f3.body).getD .skip

noncomputable def r3 : List ResultVar := Try.f3.results.toList

noncomputable def F3_L1' (W J : StepF (AV × AHeap × Nat) → StepF (AV × AHeap × Nat)) (call : YldF → CallF) (Y : YldF) (lf : Nat) (n0 : Nat) (x1a : Option (Nat × Nat)) (x1n : Nat) (x1c : Option Nat) (x8 : ByteArray) (x9a : Option (Nat × Nat)) (x9n : Nat) (x9c : Option Nat) (x10 : Int) (x11 : Int) (h : AHeap) (nx : Nat) : Option (AV × AHeap × Nat) :=
  goK W J drawK (machOf Try.prog) call Y (keepT 3) lf c3 [1, 1, 1, 1, 1, 0, 1, 0, 9] [n0] (retK (machOf Try.prog) ⟨c3, 97, r3, keepT 3⟩) ⟨97, mkL [(1, (.slice x1a x1n x1c)), (8, (.str x8)), (9, (.slice x9a x9n x9c)), (10, (.int .i64 x10)), (11, (.int .i64 x11))]⟩ h nx

noncomputable def F3_L1 (call : YldF → CallF) (Y : YldF) (lf : Nat) (n0 : Nat) (x1a : Option (Nat × Nat)) (x1n : Nat) (x1c : Option Nat) (x8 : ByteArray) (x9a : Option (Nat × Nat)) (x9n : Nat) (x9c : Option Nat) (x10 : Int) (x11 : Int) (h : AHeap) (nx : Nat) : Option (AV × AHeap × Nat) := F3_L1' go1 go1 call Y lf n0 x1a x1n x1c x8 x9a x9n x9c x10 x11 h nx

noncomputable def F3_J2' (W J : StepF (AV × AHeap × Nat) → StepF (AV × AHeap × Nat)) (call : YldF → CallF) (Y : YldF) (lf : Nat) (n0 : Nat) (x1a : Option (Nat × Nat)) (x1n : Nat) (x1c : Option Nat) (x8 : ByteArray) (x9a : Option (Nat × Nat)) (x9n : Nat) (x9c : Option Nat) (x10 : Int) (x11 : Int) (h : AHeap) (nx : Nat) : Option (AV × AHeap × Nat) :=
  goK W J drawK (machOf Try.prog) call Y (keepT 3) lf c3 [1, 1, 1, 1, 1, 0, 1, 0, 0, 1] [n0] (retK (machOf Try.prog) ⟨c3, 97, r3, keepT 3⟩) ⟨97, mkL [(1, (.slice x1a x1n x1c)), (8, (.str x8)), (9, (.slice x9a x9n x9c)), (10, (.int .i64 x10)), (11, (.int .i64 x11))]⟩ h nx

noncomputable def F3_J2 (call : YldF → CallF) (Y : YldF) (lf : Nat) (n0 : Nat) (x1a : Option (Nat × Nat)) (x1n : Nat) (x1c : Option Nat) (x8 : ByteArray) (x9a : Option (Nat × Nat)) (x9n : Nat) (x9c : Option Nat) (x10 : Int) (x11 : Int) (h : AHeap) (nx : Nat) : Option (AV × AHeap × Nat) := F3_J2' go1 go1 call Y lf n0 x1a x1n x1c x8 x9a x9n x9c x10 x11 h nx

noncomputable def F3_J3' (W J : StepF (AV × AHeap × Nat) → StepF (AV × AHeap × Nat)) (call : YldF → CallF) (Y : YldF) (lf : Nat) (x8 : ByteArray) (x9a : Option (Nat × Nat)) (x9n : Nat) (x9c : Option Nat) (x10 : Int) (h : AHeap) (nx : Nat) : Option (AV × AHeap × Nat) :=
  goK W J drawK (machOf Try.prog) call Y (keepT 3) lf c3 [1, 1, 1, 1, 1, 1] [] (retK (machOf Try.prog) ⟨c3, 97, r3, keepT 3⟩) ⟨97, mkL [(8, (.str x8)), (9, (.slice x9a x9n x9c)), (10, (.int .i64 x10))]⟩ h nx

noncomputable def F3_J3 (call : YldF → CallF) (Y : YldF) (lf : Nat) (x8 : ByteArray) (x9a : Option (Nat × Nat)) (x9n : Nat) (x9c : Option Nat) (x10 : Int) (h : AHeap) (nx : Nat) : Option (AV × AHeap × Nat) := F3_J3' go1 go1 call Y lf x8 x9a x9n x9c x10 h nx

noncomputable def F3_J4' (W J : StepF (AV × AHeap × Nat) → StepF (AV × AHeap × Nat)) (call : YldF → CallF) (Y : YldF) (lf : Nat) (n0 : Nat) (x1a : Option (Nat × Nat)) (x1n : Nat) (x1c : Option Nat) (x8 : ByteArray) (x9a : Option (Nat × Nat)) (x9n : Nat) (x9c : Option Nat) (x10 : Int) (x11 : Int) (x12 : Option (Nat × Nat)) (h : AHeap) (nx : Nat) : Option (AV × AHeap × Nat) :=
  goK W J drawK (machOf Try.prog) call Y (keepT 3) lf c3 [1, 1, 1, 1, 1, 0, 1, 0, 0, 1, 0, 0, 1, 1] [n0] (retK (machOf Try.prog) ⟨c3, 97, r3, keepT 3⟩) ⟨97, mkL [(1, (.slice x1a x1n x1c)), (8, (.str x8)), (9, (.slice x9a x9n x9c)), (10, (.int .i64 x10)), (11, (.int .i64 x11)), (12, (.ptr x12))]⟩ h nx

noncomputable def F3_J4 (call : YldF → CallF) (Y : YldF) (lf : Nat) (n0 : Nat) (x1a : Option (Nat × Nat)) (x1n : Nat) (x1c : Option Nat) (x8 : ByteArray) (x9a : Option (Nat × Nat)) (x9n : Nat) (x9c : Option Nat) (x10 : Int) (x11 : Int) (x12 : Option (Nat × Nat)) (h : AHeap) (nx : Nat) : Option (AV × AHeap × Nat) := F3_J4' go1 go1 call Y lf n0 x1a x1n x1c x8 x9a x9n x9c x10 x11 x12 h nx

theorem F3_L1_eq' (J : StepF (AV × AHeap × Nat) → StepF (AV × AHeap × Nat)) (call : YldF → CallF) (Y : YldF) (lf : Nat) (n0 : Nat) (x1a : Option (Nat × Nat)) (x1n : Nat) (x1c : Option Nat) (x8 : ByteArray) (x9a : Option (Nat × Nat)) (x9n : Nat) (x9c : Option Nat) (x10 : Int) (x11 : Int) (h : AHeap) (nx : Nat) : F3_L1' go1 J call Y lf (n0 + 1) x1a x1n x1c x8 x9a x9n x9c x10 x11 h nx =
    if (decide ((x11 : Int) < ((x1n : Nat) : Int))) = true then
    (if (decide ((x11 : Int) < 40)) = true then
    (F3_J2' J J call Y lf n0 x1a x1n x1c x8 x9a x9n x9c x10 x11 h (nx + 8))
    else
    (F3_J3' J J call Y lf x8 x9a x9n x9c x10 h (nx + 8)))
    else
    (F3_J3' J J call Y lf x8 x9a x9n x9c x10 h (nx + 8)) := by kernel_rfl

theorem F3_L1_eq (call : YldF → CallF) (Y : YldF) (lf : Nat) (n0 : Nat) (x1a : Option (Nat × Nat)) (x1n : Nat) (x1c : Option Nat) (x8 : ByteArray) (x9a : Option (Nat × Nat)) (x9n : Nat) (x9c : Option Nat) (x10 : Int) (x11 : Int) (h : AHeap) (nx : Nat) : F3_L1 call Y lf (n0 + 1) x1a x1n x1c x8 x9a x9n x9c x10 x11 h nx =
    if (decide ((x11 : Int) < ((x1n : Nat) : Int))) = true then
    (if (decide ((x11 : Int) < 40)) = true then
    (F3_J2 call Y lf n0 x1a x1n x1c x8 x9a x9n x9c x10 x11 h (nx + 8))
    else
    (F3_J3 call Y lf x8 x9a x9n x9c x10 h (nx + 8)))
    else
    (F3_J3 call Y lf x8 x9a x9n x9c x10 h (nx + 8)) := F3_L1_eq' go1 call Y lf n0 x1a x1n x1c x8 x9a x9n x9c x10 x11 h nx

theorem F3_L1_zero (call : YldF → CallF) (Y : YldF) (lf : Nat) (x1a : Option (Nat × Nat)) (x1n : Nat) (x1c : Option Nat) (x8 : ByteArray) (x9a : Option (Nat × Nat)) (x9n : Nat) (x9c : Option Nat) (x10 : Int) (x11 : Int) (h : AHeap) (nx : Nat) : F3_L1 call Y lf 0 x1a x1n x1c x8 x9a x9n x9c x10 x11 h nx = none := by kernel_rfl

theorem F3_J2_eq' (J : StepF (AV × AHeap × Nat) → StepF (AV × AHeap × Nat)) (call : YldF → CallF) (Y : YldF) (lf : Nat) (n0 : Nat) (x1a : Option (Nat × Nat)) (x1n : Nat) (x1c : Option Nat) (x8 : ByteArray) (x9a : Option (Nat × Nat)) (x9n : Nat) (x9c : Option Nat) (x10 : Int) (x11 : Int) (h : AHeap) (nx : Nat) : F3_J2' go1 J call Y lf n0 x1a x1n x1c x8 x9a x9n x9c x10 x11 h nx =
    (x1a).bind fun p1 =>
    if 0 ≤ (x11 : Int) ∧ x11 < ((x1n : Nat) : Int) then
    ((ldR h p1.1 (p1.2 + Int.toNat x11 * 6) 6).bind fun l2 =>
    (asAgg 6 (AV.agg l2)).bind fun d3 =>
    (asI .i64 (d3.getD 0 .bad)).bind fun n4 =>
    (asI .i64 (d3.getD 1 .bad)).bind fun n5 =>
    (asI .i64 (d3.getD 2 .bad)).bind fun n6 =>
    (asI .i64 (d3.getD 3 .bad)).bind fun n7 =>
    (asI .i64 (d3.getD 4 .bad)).bind fun n8 =>
    (asSl (d3.getD 5 .bad)).bind fun s9 =>
    (call Y 8 [] h (nx + 8)).bind fun r10 =>
    (asSl r10.1).bind fun s11 =>
    (call Y 10 [(.agg [(.int .i64 n4), (.int .i64 n5), (.int .i64 n6), (.int .i64 n7), (.int .i64 n8), (.slice s9.1 s9.2.1 s9.2.2)]), (.slice s11.1 s11.2.1 s11.2.2)] r10.2.1 r10.2.2).bind fun r12 =>
    (asAgg 8 r12.1).bind fun d13 =>
    (asI .i64 (d13.getD 0 .bad)).bind fun n14 =>
    (asStr (d13.getD 1 .bad)).bind fun s15 =>
    (asStr (d13.getD 2 .bad)).bind fun s16 =>
    (asI .i64 (d13.getD 3 .bad)).bind fun n17 =>
    (asI .i64 (d13.getD 4 .bad)).bind fun n18 =>
    (asI .i64 (d13.getD 5 .bad)).bind fun n19 =>
    (asI .i64 (d13.getD 6 .bad)).bind fun n20 =>
    (asSl (d13.getD 7 .bad)).bind fun s21 =>
    let h22 := AHeap.put r12.2.1 (nx + 6) (some ⟨[(.int .i64 0), (.str (ByteArray.mk #[])), (.str (ByteArray.mk #[])), (.int .i64 0), (.int .i64 0), (.int .i64 0), (.int .i64 0), (.slice none 0 none)], 8, true⟩)
    (stA h22 (nx + 6) 0 (.agg [(.int .i64 n14), (.str s15), (.str s16), (.int .i64 n17), (.int .i64 n18), (.int .i64 n19), (.int .i64 n20), (.slice s21.1 s21.2.1 s21.2.2)]) 8).bind fun b23 =>
    let h24 := AHeap.put h22 (nx + 6) (some b23)
    ifApart [([(nx + 6)], [p1.1])]
    (ifKept [(h, r10.2.1, [p1.1])]
    (ifRob (callC (call Y) Y) [⟨(.fn 8), [], (.slice s11.1 s11.2.1 s11.2.2), h, r10.2.1, (nx + 8), r10.2.2, [(nx + 6)]⟩, ⟨(.fn 10), [(.agg [(.int .i64 n4), (.int .i64 n5), (.int .i64 n6), (.int .i64 n7), (.int .i64 n8), (.slice s9.1 s9.2.1 s9.2.2)]), (.slice s11.1 s11.2.1 s11.2.2)], (.agg [(.int .i64 n14), (.str s15), (.str s16), (.int .i64 n17), (.int .i64 n18), (.int .i64 n19), (.int .i64 n20), (.slice s21.1 s21.2.1 s21.2.2)]), r10.2.1, r12.2.1, r10.2.2, r12.2.2, [(nx + 6)]⟩]
    ((ldA h24 (nx + 6) 0).bind fun v25 =>
    (asI .i64 v25).bind fun n26 =>
    if ((n26 : Int) == 10) = true then
    ((ldA h24 (nx + 6) 2).bind fun v27 =>
    (asStr v27).bind fun s28 =>
    if (s28.toList == (ByteArray.mk #[115]).toList) = true then
    ((stA h24 (nx + 6) 2 (.str (ByteArray.mk #[116])) 1).bind fun b29 =>
    let h30 := AHeap.put h24 (nx + 6) (some b29)
    F3_J4' J J call Y lf n0 x1a x1n x1c x8 x9a x9n x9c x10 x11 (some ((nx + 6), 0)) h30 (r12.2.2 + 10))
    else
    (F3_J4' J J call Y lf n0 x1a x1n x1c x8 x9a x9n x9c x10 x11 (some ((nx + 6), 0)) h24 (r12.2.2 + 8)))
    else
    (F3_J4' J J call Y lf n0 x1a x1n x1c x8 x9a x9n x9c x10 x11 (some ((nx + 6), 0)) h24 (r12.2.2 + 8))))))
    else none := by kernel_rfl

theorem F3_J2_eq (call : YldF → CallF) (Y : YldF) (lf : Nat) (n0 : Nat) (x1a : Option (Nat × Nat)) (x1n : Nat) (x1c : Option Nat) (x8 : ByteArray) (x9a : Option (Nat × Nat)) (x9n : Nat) (x9c : Option Nat) (x10 : Int) (x11 : Int) (h : AHeap) (nx : Nat) : F3_J2 call Y lf n0 x1a x1n x1c x8 x9a x9n x9c x10 x11 h nx =
    (x1a).bind fun p1 =>
    if 0 ≤ (x11 : Int) ∧ x11 < ((x1n : Nat) : Int) then
    ((ldR h p1.1 (p1.2 + Int.toNat x11 * 6) 6).bind fun l2 =>
    (asAgg 6 (AV.agg l2)).bind fun d3 =>
    (asI .i64 (d3.getD 0 .bad)).bind fun n4 =>
    (asI .i64 (d3.getD 1 .bad)).bind fun n5 =>
    (asI .i64 (d3.getD 2 .bad)).bind fun n6 =>
    (asI .i64 (d3.getD 3 .bad)).bind fun n7 =>
    (asI .i64 (d3.getD 4 .bad)).bind fun n8 =>
    (asSl (d3.getD 5 .bad)).bind fun s9 =>
    (call Y 8 [] h (nx + 8)).bind fun r10 =>
    (asSl r10.1).bind fun s11 =>
    (call Y 10 [(.agg [(.int .i64 n4), (.int .i64 n5), (.int .i64 n6), (.int .i64 n7), (.int .i64 n8), (.slice s9.1 s9.2.1 s9.2.2)]), (.slice s11.1 s11.2.1 s11.2.2)] r10.2.1 r10.2.2).bind fun r12 =>
    (asAgg 8 r12.1).bind fun d13 =>
    (asI .i64 (d13.getD 0 .bad)).bind fun n14 =>
    (asStr (d13.getD 1 .bad)).bind fun s15 =>
    (asStr (d13.getD 2 .bad)).bind fun s16 =>
    (asI .i64 (d13.getD 3 .bad)).bind fun n17 =>
    (asI .i64 (d13.getD 4 .bad)).bind fun n18 =>
    (asI .i64 (d13.getD 5 .bad)).bind fun n19 =>
    (asI .i64 (d13.getD 6 .bad)).bind fun n20 =>
    (asSl (d13.getD 7 .bad)).bind fun s21 =>
    let h22 := AHeap.put r12.2.1 (nx + 6) (some ⟨[(.int .i64 0), (.str (ByteArray.mk #[])), (.str (ByteArray.mk #[])), (.int .i64 0), (.int .i64 0), (.int .i64 0), (.int .i64 0), (.slice none 0 none)], 8, true⟩)
    (stA h22 (nx + 6) 0 (.agg [(.int .i64 n14), (.str s15), (.str s16), (.int .i64 n17), (.int .i64 n18), (.int .i64 n19), (.int .i64 n20), (.slice s21.1 s21.2.1 s21.2.2)]) 8).bind fun b23 =>
    let h24 := AHeap.put h22 (nx + 6) (some b23)
    ifApart [([(nx + 6)], [p1.1])]
    (ifKept [(h, r10.2.1, [p1.1])]
    (ifRob (callC (call Y) Y) [⟨(.fn 8), [], (.slice s11.1 s11.2.1 s11.2.2), h, r10.2.1, (nx + 8), r10.2.2, [(nx + 6)]⟩, ⟨(.fn 10), [(.agg [(.int .i64 n4), (.int .i64 n5), (.int .i64 n6), (.int .i64 n7), (.int .i64 n8), (.slice s9.1 s9.2.1 s9.2.2)]), (.slice s11.1 s11.2.1 s11.2.2)], (.agg [(.int .i64 n14), (.str s15), (.str s16), (.int .i64 n17), (.int .i64 n18), (.int .i64 n19), (.int .i64 n20), (.slice s21.1 s21.2.1 s21.2.2)]), r10.2.1, r12.2.1, r10.2.2, r12.2.2, [(nx + 6)]⟩]
    ((ldA h24 (nx + 6) 0).bind fun v25 =>
    (asI .i64 v25).bind fun n26 =>
    if ((n26 : Int) == 10) = true then
    ((ldA h24 (nx + 6) 2).bind fun v27 =>
    (asStr v27).bind fun s28 =>
    if (s28.toList == (ByteArray.mk #[115]).toList) = true then
    ((stA h24 (nx + 6) 2 (.str (ByteArray.mk #[116])) 1).bind fun b29 =>
    let h30 := AHeap.put h24 (nx + 6) (some b29)
    F3_J4 call Y lf n0 x1a x1n x1c x8 x9a x9n x9c x10 x11 (some ((nx + 6), 0)) h30 (r12.2.2 + 10))
    else
    (F3_J4 call Y lf n0 x1a x1n x1c x8 x9a x9n x9c x10 x11 (some ((nx + 6), 0)) h24 (r12.2.2 + 8)))
    else
    (F3_J4 call Y lf n0 x1a x1n x1c x8 x9a x9n x9c x10 x11 (some ((nx + 6), 0)) h24 (r12.2.2 + 8))))))
    else none := F3_J2_eq' go1 call Y lf n0 x1a x1n x1c x8 x9a x9n x9c x10 x11 h nx

theorem F3_J3_eq' (J : StepF (AV × AHeap × Nat) → StepF (AV × AHeap × Nat)) (call : YldF → CallF) (Y : YldF) (lf : Nat) (x8 : ByteArray) (x9a : Option (Nat × Nat)) (x9n : Nat) (x9c : Option Nat) (x10 : Int) (h : AHeap) (nx : Nat) : F3_J3' go1 J call Y lf x8 x9a x9n x9c x10 h nx =
    let h1 := AHeap.put h (nx + 3) (some ⟨[(.int .i64 8), (.str x8), (.str (ByteArray.mk #[115])), (.int .i64 0), (.int .i64 2000), (.int .i64 0), (.int .i64 0), (.slice none 0 none)], 8, true⟩)
    (srcS h1 (some ((nx + 3), 0)) 1 8).bind fun q2 =>
    (appD h1 x9a x9n x9c 8 96 (nx + 4) q2).bind fun e3 =>
    let h4 := AHeap.puts h1 e3.sets
    (call Y 11 [(.slice e3.a e3.n e3.c)] h4 (nx + 13)).bind fun r5 =>
    (asTup 2 r5.1).bind fun d6 =>
    (asSl (d6.getD 0 .bad)).bind fun s7 =>
    (asB (d6.getD 1 .bad)).bind fun t8 =>
    if t8 = true then
    ((call Y 12 [] r5.2.1 (r5.2.2 + 27)).bind fun r9 =>
    (asB r9.1).bind fun t10 =>
    if t10 = true then
    ((s7.1).bind fun p11 =>
    if 0 ≤ ((wrapA .i64 (x10 - 1)) : Int) ∧ (wrapA .i64 (x10 - 1)) < ((s7.2.1 : Nat) : Int) then
    ((ldA r9.2.1 p11.1 (p11.2 + Int.toNat (wrapA .i64 (x10 - 1)) * 5)).bind fun v12 =>
    (asI .i64 v12).bind fun n13 =>
    if ((n13 : Int) == 0) = true then
    ((s7.1).bind fun p14 =>
    if 0 ≤ (x10 : Int) ∧ x10 < ((s7.2.1 : Nat) : Int) then
    ((ldR r9.2.1 p14.1 (p14.2 + Int.toNat x10 * 5) 5).bind fun l15 =>
    (asAgg 5 (AV.agg l15)).bind fun d16 =>
    (asI .i64 (d16.getD 0 .bad)).bind fun n17 =>
    (asB (d16.getD 1 .bad)).bind fun t18 =>
    (asI .i64 (d16.getD 2 .bad)).bind fun n19 =>
    (asSl (d16.getD 3 .bad)).bind fun s20 =>
    (asSl (d16.getD 4 .bad)).bind fun s21 =>
    (s7.1).bind fun p22 =>
    if 0 ≤ ((wrapA .i64 (((s7.2.1 : Nat) : Int) - 1)) : Int) ∧ (wrapA .i64 (((s7.2.1 : Nat) : Int) - 1)) < ((s7.2.1 : Nat) : Int) then
    ((ldR r9.2.1 p22.1 (p22.2 + Int.toNat (wrapA .i64 (((s7.2.1 : Nat) : Int) - 1)) * 5) 5).bind fun l23 =>
    (asAgg 5 (AV.agg l23)).bind fun d24 =>
    (asI .i64 (d24.getD 0 .bad)).bind fun n25 =>
    (asB (d24.getD 1 .bad)).bind fun t26 =>
    (asI .i64 (d24.getD 2 .bad)).bind fun n27 =>
    (asSl (d24.getD 3 .bad)).bind fun s28 =>
    (asSl (d24.getD 4 .bad)).bind fun s29 =>
    (call Y 13 [(.agg [(.int .i64 n17), (.bool t18), (.int .i64 n19), (.slice s20.1 s20.2.1 s20.2.2), (.slice s21.1 s21.2.1 s21.2.2)]), (.agg [(.int .i64 n25), (.bool t26), (.int .i64 n27), (.slice s28.1 s28.2.1 s28.2.2), (.slice s29.1 s29.2.1 s29.2.2)])] r9.2.1 r9.2.2).bind fun r30 =>
    (asB r30.1).bind fun t31 =>
    some ((.bool t31), r30.2.1, r30.2.2))
    else none)
    else none)
    else
    (some ((.bool false), r9.2.1, r9.2.2)))
    else none)
    else
    (some ((.bool false), r9.2.1, r9.2.2)))
    else
    (some ((.bool false), r5.2.1, (r5.2.2 + 27))) := by kernel_rfl

theorem F3_J3_eq (call : YldF → CallF) (Y : YldF) (lf : Nat) (x8 : ByteArray) (x9a : Option (Nat × Nat)) (x9n : Nat) (x9c : Option Nat) (x10 : Int) (h : AHeap) (nx : Nat) : F3_J3 call Y lf x8 x9a x9n x9c x10 h nx =
    let h1 := AHeap.put h (nx + 3) (some ⟨[(.int .i64 8), (.str x8), (.str (ByteArray.mk #[115])), (.int .i64 0), (.int .i64 2000), (.int .i64 0), (.int .i64 0), (.slice none 0 none)], 8, true⟩)
    (srcS h1 (some ((nx + 3), 0)) 1 8).bind fun q2 =>
    (appD h1 x9a x9n x9c 8 96 (nx + 4) q2).bind fun e3 =>
    let h4 := AHeap.puts h1 e3.sets
    (call Y 11 [(.slice e3.a e3.n e3.c)] h4 (nx + 13)).bind fun r5 =>
    (asTup 2 r5.1).bind fun d6 =>
    (asSl (d6.getD 0 .bad)).bind fun s7 =>
    (asB (d6.getD 1 .bad)).bind fun t8 =>
    if t8 = true then
    ((call Y 12 [] r5.2.1 (r5.2.2 + 27)).bind fun r9 =>
    (asB r9.1).bind fun t10 =>
    if t10 = true then
    ((s7.1).bind fun p11 =>
    if 0 ≤ ((wrapA .i64 (x10 - 1)) : Int) ∧ (wrapA .i64 (x10 - 1)) < ((s7.2.1 : Nat) : Int) then
    ((ldA r9.2.1 p11.1 (p11.2 + Int.toNat (wrapA .i64 (x10 - 1)) * 5)).bind fun v12 =>
    (asI .i64 v12).bind fun n13 =>
    if ((n13 : Int) == 0) = true then
    ((s7.1).bind fun p14 =>
    if 0 ≤ (x10 : Int) ∧ x10 < ((s7.2.1 : Nat) : Int) then
    ((ldR r9.2.1 p14.1 (p14.2 + Int.toNat x10 * 5) 5).bind fun l15 =>
    (asAgg 5 (AV.agg l15)).bind fun d16 =>
    (asI .i64 (d16.getD 0 .bad)).bind fun n17 =>
    (asB (d16.getD 1 .bad)).bind fun t18 =>
    (asI .i64 (d16.getD 2 .bad)).bind fun n19 =>
    (asSl (d16.getD 3 .bad)).bind fun s20 =>
    (asSl (d16.getD 4 .bad)).bind fun s21 =>
    (s7.1).bind fun p22 =>
    if 0 ≤ ((wrapA .i64 (((s7.2.1 : Nat) : Int) - 1)) : Int) ∧ (wrapA .i64 (((s7.2.1 : Nat) : Int) - 1)) < ((s7.2.1 : Nat) : Int) then
    ((ldR r9.2.1 p22.1 (p22.2 + Int.toNat (wrapA .i64 (((s7.2.1 : Nat) : Int) - 1)) * 5) 5).bind fun l23 =>
    (asAgg 5 (AV.agg l23)).bind fun d24 =>
    (asI .i64 (d24.getD 0 .bad)).bind fun n25 =>
    (asB (d24.getD 1 .bad)).bind fun t26 =>
    (asI .i64 (d24.getD 2 .bad)).bind fun n27 =>
    (asSl (d24.getD 3 .bad)).bind fun s28 =>
    (asSl (d24.getD 4 .bad)).bind fun s29 =>
    (call Y 13 [(.agg [(.int .i64 n17), (.bool t18), (.int .i64 n19), (.slice s20.1 s20.2.1 s20.2.2), (.slice s21.1 s21.2.1 s21.2.2)]), (.agg [(.int .i64 n25), (.bool t26), (.int .i64 n27), (.slice s28.1 s28.2.1 s28.2.2), (.slice s29.1 s29.2.1 s29.2.2)])] r9.2.1 r9.2.2).bind fun r30 =>
    (asB r30.1).bind fun t31 =>
    some ((.bool t31), r30.2.1, r30.2.2))
    else none)
    else none)
    else
    (some ((.bool false), r9.2.1, r9.2.2)))
    else none)
    else
    (some ((.bool false), r9.2.1, r9.2.2)))
    else
    (some ((.bool false), r5.2.1, (r5.2.2 + 27))) := F3_J3_eq' go1 call Y lf x8 x9a x9n x9c x10 h nx

theorem F3_J4_eq' (J : StepF (AV × AHeap × Nat) → StepF (AV × AHeap × Nat)) (call : YldF → CallF) (Y : YldF) (lf : Nat) (n0 : Nat) (x1a : Option (Nat × Nat)) (x1n : Nat) (x1c : Option Nat) (x8 : ByteArray) (x9a : Option (Nat × Nat)) (x9n : Nat) (x9c : Option Nat) (x10 : Int) (x11 : Int) (x12 : Option (Nat × Nat)) (h : AHeap) (nx : Nat) : F3_J4' go1 J call Y lf n0 x1a x1n x1c x8 x9a x9n x9c x10 x11 x12 h nx =
    (x12).bind fun p1 =>
    (ldR h p1.1 p1.2 8).bind fun l2 =>
    (asAgg 8 (AV.agg l2)).bind fun d3 =>
    (asI .i64 (d3.getD 0 .bad)).bind fun n4 =>
    (asStr (d3.getD 1 .bad)).bind fun s5 =>
    (asStr (d3.getD 2 .bad)).bind fun s6 =>
    (asI .i64 (d3.getD 3 .bad)).bind fun n7 =>
    (asI .i64 (d3.getD 4 .bad)).bind fun n8 =>
    (asI .i64 (d3.getD 5 .bad)).bind fun n9 =>
    (asI .i64 (d3.getD 6 .bad)).bind fun n10 =>
    (asSl (d3.getD 7 .bad)).bind fun s11 =>
    let h12 := AHeap.put h (nx + 2) (some ⟨[(.int .i64 n4), (.str s5), (.str s6), (.int .i64 n7), (.int .i64 n8), (.int .i64 n9), (.int .i64 n10), (.slice s11.1 s11.2.1 s11.2.2)], 8, true⟩)
    (srcS h12 (some ((nx + 2), 0)) 1 8).bind fun q13 =>
    (appD h12 x9a x9n x9c 8 96 (nx + 3) q13).bind fun e14 =>
    let h15 := AHeap.puts h12 e14.sets
    F3_L1' J J call Y lf n0 x1a x1n x1c x8 e14.a e14.n e14.c x10 (wrapA .i64 (x11 + 1)) h15 (nx + 8) := by kernel_rfl

theorem F3_J4_eq (call : YldF → CallF) (Y : YldF) (lf : Nat) (n0 : Nat) (x1a : Option (Nat × Nat)) (x1n : Nat) (x1c : Option Nat) (x8 : ByteArray) (x9a : Option (Nat × Nat)) (x9n : Nat) (x9c : Option Nat) (x10 : Int) (x11 : Int) (x12 : Option (Nat × Nat)) (h : AHeap) (nx : Nat) : F3_J4 call Y lf n0 x1a x1n x1c x8 x9a x9n x9c x10 x11 x12 h nx =
    (x12).bind fun p1 =>
    (ldR h p1.1 p1.2 8).bind fun l2 =>
    (asAgg 8 (AV.agg l2)).bind fun d3 =>
    (asI .i64 (d3.getD 0 .bad)).bind fun n4 =>
    (asStr (d3.getD 1 .bad)).bind fun s5 =>
    (asStr (d3.getD 2 .bad)).bind fun s6 =>
    (asI .i64 (d3.getD 3 .bad)).bind fun n7 =>
    (asI .i64 (d3.getD 4 .bad)).bind fun n8 =>
    (asI .i64 (d3.getD 5 .bad)).bind fun n9 =>
    (asI .i64 (d3.getD 6 .bad)).bind fun n10 =>
    (asSl (d3.getD 7 .bad)).bind fun s11 =>
    let h12 := AHeap.put h (nx + 2) (some ⟨[(.int .i64 n4), (.str s5), (.str s6), (.int .i64 n7), (.int .i64 n8), (.int .i64 n9), (.int .i64 n10), (.slice s11.1 s11.2.1 s11.2.2)], 8, true⟩)
    (srcS h12 (some ((nx + 2), 0)) 1 8).bind fun q13 =>
    (appD h12 x9a x9n x9c 8 96 (nx + 3) q13).bind fun e14 =>
    let h15 := AHeap.puts h12 e14.sets
    F3_L1 call Y lf n0 x1a x1n x1c x8 e14.a e14.n e14.c x10 (wrapA .i64 (x11 + 1)) h15 (nx + 8) := F3_J4_eq' go1 call Y lf n0 x1a x1n x1c x8 x9a x9n x9c x10 x11 x12 h nx

theorem F3_eq' (J : StepF (AV × AHeap × Nat) → StepF (AV × AHeap × Nat)) (n : Nat) (Y : YldF) (x0a : Option (Nat × Nat)) (x0n : Nat) (x0c : Option Nat) (x1a : Option (Nat × Nat)) (x1n : Nat) (x1c : Option Nat) (x2 : Int) (h : AHeap) (nx : Nat) : rootJ J Try.prog keepT (callP Try.prog keepT n) Y n 3 [(.slice x0a x0n x0c), (.slice x1a x1n x1c), (.int .i64 x2)] h nx =
    ((callP Try.prog keepT n) Y 8 [] h (nx + 5)).bind fun r1 =>
    (asSl r1.1).bind fun s2 =>
    ((callP Try.prog keepT n) Y 7 [(.slice x0a x0n x0c), (.int .i64 40), (.slice s2.1 s2.2.1 s2.2.2)] r1.2.1 r1.2.2).bind fun r3 =>
    (asSl r3.1).bind fun s4 =>
    ((callP Try.prog keepT n) Y 9 [(.int .i64 x2)] r3.2.1 (r3.2.2 + 3)).bind fun r5 =>
    (asStr r5.1).bind fun s6 =>
    (srcS r5.2.1 s4.1 s4.2.1 8).bind fun q7 =>
    (appD r5.2.1 none 0 none 8 96 (r5.2.2 + 1) q7).bind fun e8 =>
    let h9 := AHeap.puts r5.2.1 e8.sets
    let h10 := AHeap.put h9 (r5.2.2 + 7) (some ⟨[(.int .i64 10), (.str (ByteArray.mk #[])), (.str (ByteArray.mk #[115])), (.int .i64 0), (.int .i64 0), (.int .i64 0), (.int .i64 0), (.slice none 0 none), (.int .i64 10), (.str (ByteArray.mk #[])), (.str (ByteArray.mk #[116])), (.int .i64 0), (.int .i64 0), (.int .i64 0), (.int .i64 0), (.slice none 0 none), (.int .i64 7), (.str (ByteArray.mk #[])), (.str (ByteArray.mk #[115])), (.int .i64 0), (.int .i64 0), (.int .i64 0), (.int .i64 0), (.slice none 0 none), (.int .i64 3), (.str s6), (.str (ByteArray.mk #[])), (.int .i64 0), (.int .i64 2000), (.int .i64 0), (.int .i64 0), (.slice none 0 none)], 8, true⟩)
    (srcS h10 (some ((r5.2.2 + 7), 0)) 4 8).bind fun q11 =>
    (appD h10 e8.a e8.n e8.c 8 96 (r5.2.2 + 8) q11).bind fun e12 =>
    let h13 := AHeap.puts h10 e12.sets
    F3_L1' J J (callP Try.prog keepT n) Y n n x1a x1n x1c s6 e12.a e12.n e12.c (wrapA .i64 (((e12.n : Nat) : Int) - 1)) 0 h13 (r5.2.2 + 15) := by kernel_rfl

/-- quickset/quicksetkeep.PoolSnaps -/
theorem F3_eq (n : Nat) (Y : YldF) (x0a : Option (Nat × Nat)) (x0n : Nat) (x0c : Option Nat) (x1a : Option (Nat × Nat)) (x1n : Nat) (x1c : Option Nat) (x2 : Int) (h : AHeap) (nx : Nat) : callP Try.prog keepT (n + 1) Y 3 [(.slice x0a x0n x0c), (.slice x1a x1n x1c), (.int .i64 x2)] h nx =
    ((callP Try.prog keepT n) Y 8 [] h (nx + 5)).bind fun r1 =>
    (asSl r1.1).bind fun s2 =>
    ((callP Try.prog keepT n) Y 7 [(.slice x0a x0n x0c), (.int .i64 40), (.slice s2.1 s2.2.1 s2.2.2)] r1.2.1 r1.2.2).bind fun r3 =>
    (asSl r3.1).bind fun s4 =>
    ((callP Try.prog keepT n) Y 9 [(.int .i64 x2)] r3.2.1 (r3.2.2 + 3)).bind fun r5 =>
    (asStr r5.1).bind fun s6 =>
    (srcS r5.2.1 s4.1 s4.2.1 8).bind fun q7 =>
    (appD r5.2.1 none 0 none 8 96 (r5.2.2 + 1) q7).bind fun e8 =>
    let h9 := AHeap.puts r5.2.1 e8.sets
    let h10 := AHeap.put h9 (r5.2.2 + 7) (some ⟨[(.int .i64 10), (.str (ByteArray.mk #[])), (.str (ByteArray.mk #[115])), (.int .i64 0), (.int .i64 0), (.int .i64 0), (.int .i64 0), (.slice none 0 none), (.int .i64 10), (.str (ByteArray.mk #[])), (.str (ByteArray.mk #[116])), (.int .i64 0), (.int .i64 0), (.int .i64 0), (.int .i64 0), (.slice none 0 none), (.int .i64 7), (.str (ByteArray.mk #[])), (.str (ByteArray.mk #[115])), (.int .i64 0), (.int .i64 0), (.int .i64 0), (.int .i64 0), (.slice none 0 none), (.int .i64 3), (.str s6), (.str (ByteArray.mk #[])), (.int .i64 0), (.int .i64 2000), (.int .i64 0), (.int .i64 0), (.slice none 0 none)], 8, true⟩)
    (srcS h10 (some ((r5.2.2 + 7), 0)) 4 8).bind fun q11 =>
    (appD h10 e8.a e8.n e8.c 8 96 (r5.2.2 + 8) q11).bind fun e12 =>
    let h13 := AHeap.puts h10 e12.sets
    F3_L1 (callP Try.prog keepT n) Y n n x1a x1n x1c s6 e12.a e12.n e12.c (wrapA .i64 (((e12.n : Nat) : Int) - 1)) 0 h13 (r5.2.2 + 15) := F3_eq' go1 n Y x0a x0n x0c x1a x1n x1c x2 h nx

noncomputable def c4 : Code := (Try.f4.body).getD .skip

noncomputable def r4 : List ResultVar := Try.f4.results.toList

theorem F4_eq' (J : StepF (AV × AHeap × Nat) → StepF (AV × AHeap × Nat)) (n : Nat) (Y : YldF) (x0a : Option (Nat × Nat)) (x0n : Nat) (x0c : Option Nat) (x1a : Option (Nat × Nat)) (x1n : Nat) (x1c : Option Nat) (x2 : Int) (h : AHeap) (nx : Nat) : rootJ J Try.prog keepT (callP Try.prog keepT n) Y n 4 [(.slice x0a x0n x0c), (.slice x1a x1n x1c), (.int .i64 x2)] h nx =
    ((callP Try.prog keepT n) Y 8 [] h (nx + 14)).bind fun r1 =>
    (asSl r1.1).bind fun s2 =>
    ((callP Try.prog keepT n) Y 7 [(.slice x0a x0n x0c), (.int .i64 40), (.slice s2.1 s2.2.1 s2.2.2)] r1.2.1 r1.2.2).bind fun r3 =>
    (asSl r3.1).bind fun s4 =>
    ((callP Try.prog keepT n) Y 9 [(.int .i64 x2)] r3.2.1 r3.2.2).bind fun r5 =>
    (asStr r5.1).bind fun s6 =>
    let h7 := AHeap.put r5.2.1 (nx + 11) (some ⟨[(.int .i64 10), (.str (ByteArray.mk #[])), (.str (ByteArray.mk #[115])), (.int .i64 0), (.int .i64 0), (.int .i64 0), (.int .i64 0), (.slice none 0 none), (.int .i64 10), (.str (ByteArray.mk #[])), (.str (ByteArray.mk #[116])), (.int .i64 0), (.int .i64 0), (.int .i64 0), (.int .i64 0), (.slice none 0 none), (.int .i64 7), (.str (ByteArray.mk #[])), (.str (ByteArray.mk #[115])), (.int .i64 0), (.int .i64 0), (.int .i64 0), (.int .i64 0), (.slice none 0 none), (.int .i64 6), (.str (ByteArray.mk #[])), (.str (ByteArray.mk #[])), (.int .i64 0), (.int .i64 0), (.int .i64 0), (.int .i64 0), (.slice none 0 none), (.int .i64 3), (.str s6), (.str (ByteArray.mk #[])), (.int .i64 0), (.int .i64 2000), (.int .i64 0), (.int .i64 0), (.slice none 0 none)], 8, true⟩)
    (srcS h7 (some ((nx + 11), 0)) 5 8).bind fun q8 =>
    (appD h7 s4.1 s4.2.1 s4.2.2 8 96 (nx + 12) q8).bind fun e9 =>
    let h10 := AHeap.puts h7 e9.sets
    let h11 := AHeap.put h10 (r5.2.2 + 5) (some ⟨[(.int .i64 1), (.int .i64 2), (.int .i64 4), (.int .i64 5), (.int .i64 12)], 1, true⟩)
    ((callP Try.prog keepT n) Y 7 [(.slice x1a x1n x1c), (.int .i64 40), (.slice (some ((r5.2.2 + 5), 0)) 5 (some 5))] h11 (r5.2.2 + 9)).bind fun r12 =>
    (asSl r12.1).bind fun s13 =>
    (srcS r12.2.1 s13.1 s13.2.1 8).bind fun q14 =>
    (appD r12.2.1 e9.a e9.n e9.c 8 96 (r5.2.2 + 7) q14).bind fun e15 =>
    let h16 := AHeap.puts r12.2.1 e15.sets
    ((callP Try.prog keepT n) Y 9 [(.int .i64 x2)] h16 (r12.2.2 + 9)).bind fun r17 =>
    (asStr r17.1).bind fun s18 =>
    let h19 := AHeap.put r17.2.1 (r12.2.2 + 6) (some ⟨[(.int .i64 9), (.str (ByteArray.mk #[])), (.str (ByteArray.mk #[115])), (.int .i64 0), (.int .i64 0), (.int .i64 0), (.int .i64 0), (.slice none 0 none), (.int .i64 6), (.str (ByteArray.mk #[])), (.str (ByteArray.mk #[])), (.int .i64 0), (.int .i64 0), (.int .i64 0), (.int .i64 0), (.slice none 0 none), (.int .i64 3), (.str s18), (.str (ByteArray.mk #[])), (.int .i64 0), (.int .i64 2000), (.int .i64 0), (.int .i64 0), (.slice none 0 none)], 8, true⟩)
    (srcS h19 (some ((r12.2.2 + 6), 0)) 3 8).bind fun q20 =>
    (appD h19 e15.a e15.n e15.c 8 96 (r12.2.2 + 7) q20).bind fun e21 =>
    let h22 := AHeap.puts h19 e21.sets
    ((callP Try.prog keepT n) Y 11 [(.slice e21.a e21.n e21.c)] h22 (r17.2.2 + 7)).bind fun r23 =>
    (asTup 2 r23.1).bind fun d24 =>
    (asSl (d24.getD 0 .bad)).bind fun s25 =>
    (asB (d24.getD 1 .bad)).bind fun t26 =>
    if t26 = true then
    (((callP Try.prog keepT n) Y 12 [] r23.2.1 (r23.2.2 + 43)).bind fun r27 =>
    (asB r27.1).bind fun t28 =>
    if t28 = true then
    ((s25.1).bind fun p29 =>
    if 0 ≤ ((wrapA .i64 (((s25.2.1 : Nat) : Int) - 3)) : Int) ∧ (wrapA .i64 (((s25.2.1 : Nat) : Int) - 3)) < ((s25.2.1 : Nat) : Int) then
    ((ldA r27.2.1 p29.1 (p29.2 + Int.toNat (wrapA .i64 (((s25.2.1 : Nat) : Int) - 3)) * 5)).bind fun v30 =>
    (asI .i64 v30).bind fun n31 =>
    if ((n31 : Int) == 0) = true then
    ((s25.1).bind fun p32 =>
    if 0 ≤ ((wrapA .i64 (((e9.n : Nat) : Int) - 1)) : Int) ∧ (wrapA .i64 (((e9.n : Nat) : Int) - 1)) < ((s25.2.1 : Nat) : Int) then
    ((ldR r27.2.1 p32.1 (p32.2 + Int.toNat (wrapA .i64 (((e9.n : Nat) : Int) - 1)) * 5) 5).bind fun l33 =>
    (asAgg 5 (AV.agg l33)).bind fun d34 =>
    (asI .i64 (d34.getD 0 .bad)).bind fun n35 =>
    (asB (d34.getD 1 .bad)).bind fun t36 =>
    (asI .i64 (d34.getD 2 .bad)).bind fun n37 =>
    (asSl (d34.getD 3 .bad)).bind fun s38 =>
    (asSl (d34.getD 4 .bad)).bind fun s39 =>
    (s25.1).bind fun p40 =>
    if 0 ≤ ((wrapA .i64 (((s25.2.1 : Nat) : Int) - 1)) : Int) ∧ (wrapA .i64 (((s25.2.1 : Nat) : Int) - 1)) < ((s25.2.1 : Nat) : Int) then
    ((ldR r27.2.1 p40.1 (p40.2 + Int.toNat (wrapA .i64 (((s25.2.1 : Nat) : Int) - 1)) * 5) 5).bind fun l41 =>
    (asAgg 5 (AV.agg l41)).bind fun d42 =>
    (asI .i64 (d42.getD 0 .bad)).bind fun n43 =>
    (asB (d42.getD 1 .bad)).bind fun t44 =>
    (asI .i64 (d42.getD 2 .bad)).bind fun n45 =>
    (asSl (d42.getD 3 .bad)).bind fun s46 =>
    (asSl (d42.getD 4 .bad)).bind fun s47 =>
    ((callP Try.prog keepT n) Y 13 [(.agg [(.int .i64 n35), (.bool t36), (.int .i64 n37), (.slice s38.1 s38.2.1 s38.2.2), (.slice s39.1 s39.2.1 s39.2.2)]), (.agg [(.int .i64 n43), (.bool t44), (.int .i64 n45), (.slice s46.1 s46.2.1 s46.2.2), (.slice s47.1 s47.2.1 s47.2.2)])] r27.2.1 r27.2.2).bind fun r48 =>
    (asB r48.1).bind fun t49 =>
    if t49 = true then
    ((s25.1).bind fun p50 =>
    if 0 ≤ ((wrapA .i64 (((e9.n : Nat) : Int) - 2)) : Int) ∧ (wrapA .i64 (((e9.n : Nat) : Int) - 2)) < ((s25.2.1 : Nat) : Int) then
    ((ldR r48.2.1 p50.1 (p50.2 + Int.toNat (wrapA .i64 (((e9.n : Nat) : Int) - 2)) * 5) 5).bind fun l51 =>
    (asAgg 5 (AV.agg l51)).bind fun d52 =>
    (asI .i64 (d52.getD 0 .bad)).bind fun n53 =>
    (asB (d52.getD 1 .bad)).bind fun t54 =>
    (asI .i64 (d52.getD 2 .bad)).bind fun n55 =>
    (asSl (d52.getD 3 .bad)).bind fun s56 =>
    (asSl (d52.getD 4 .bad)).bind fun s57 =>
    (s25.1).bind fun p58 =>
    if 0 ≤ ((wrapA .i64 (((s25.2.1 : Nat) : Int) - 2)) : Int) ∧ (wrapA .i64 (((s25.2.1 : Nat) : Int) - 2)) < ((s25.2.1 : Nat) : Int) then
    ((ldR r48.2.1 p58.1 (p58.2 + Int.toNat (wrapA .i64 (((s25.2.1 : Nat) : Int) - 2)) * 5) 5).bind fun l59 =>
    (asAgg 5 (AV.agg l59)).bind fun d60 =>
    (asI .i64 (d60.getD 0 .bad)).bind fun n61 =>
    (asB (d60.getD 1 .bad)).bind fun t62 =>
    (asI .i64 (d60.getD 2 .bad)).bind fun n63 =>
    (asSl (d60.getD 3 .bad)).bind fun s64 =>
    (asSl (d60.getD 4 .bad)).bind fun s65 =>
    ((callP Try.prog keepT n) Y 13 [(.agg [(.int .i64 n53), (.bool t54), (.int .i64 n55), (.slice s56.1 s56.2.1 s56.2.2), (.slice s57.1 s57.2.1 s57.2.2)]), (.agg [(.int .i64 n61), (.bool t62), (.int .i64 n63), (.slice s64.1 s64.2.1 s64.2.2), (.slice s65.1 s65.2.1 s65.2.2)])] r48.2.1 r48.2.2).bind fun r66 =>
    (asB r66.1).bind fun t67 =>
    some ((.bool t67), r66.2.1, r66.2.2))
    else none)
    else none)
    else
    (some ((.bool false), r48.2.1, r48.2.2)))
    else none)
    else none)
    else
    (some ((.bool false), r27.2.1, r27.2.2)))
    else none)
    else
    (some ((.bool false), r27.2.1, r27.2.2)))
    else
    (some ((.bool false), r23.2.1, (r23.2.2 + 43))) := by kernel_rfl

/-- quickset/quicksetkeep.PoolBack -/
theorem F4_eq (n : Nat) (Y : YldF) (x0a : Option (Nat × Nat)) (x0n : Nat) (x0c : Option Nat) (x1a : Option (Nat × Nat)) (x1n : Nat) (x1c : Option Nat) (x2 : Int) (h : AHeap) (nx : Nat) : callP Try.prog keepT (n + 1) Y 4 [(.slice x0a x0n x0c), (.slice x1a x1n x1c), (.int .i64 x2)] h nx =
    ((callP Try.prog keepT n) Y 8 [] h (nx + 14)).bind fun r1 =>
    (asSl r1.1).bind fun s2 =>
    ((callP Try.prog keepT n) Y 7 [(.slice x0a x0n x0c), (.int .i64 40), (.slice s2.1 s2.2.1 s2.2.2)] r1.2.1 r1.2.2).bind fun r3 =>
    (asSl r3.1).bind fun s4 =>
    ((callP Try.prog keepT n) Y 9 [(.int .i64 x2)] r3.2.1 r3.2.2).bind fun r5 =>
    (asStr r5.1).bind fun s6 =>
    let h7 := AHeap.put r5.2.1 (nx + 11) (some ⟨[(.int .i64 10), (.str (ByteArray.mk #[])), (.str (ByteArray.mk #[115])), (.int .i64 0), (.int .i64 0), (.int .i64 0), (.int .i64 0), (.slice none 0 none), (.int .i64 10), (.str (ByteArray.mk #[])), (.str (ByteArray.mk #[116])), (.int .i64 0), (.int .i64 0), (.int .i64 0), (.int .i64 0), (.slice none 0 none), (.int .i64 7), (.str (ByteArray.mk #[])), (.str (ByteArray.mk #[115])), (.int .i64 0), (.int .i64 0), (.int .i64 0), (.int .i64 0), (.slice none 0 none), (.int .i64 6), (.str (ByteArray.mk #[])), (.str (ByteArray.mk #[])), (.int .i64 0), (.int .i64 0), (.int .i64 0), (.int .i64 0), (.slice none 0 none), (.int .i64 3), (.str s6), (.str (ByteArray.mk #[])), (.int .i64 0), (.int .i64 2000), (.int .i64 0), (.int .i64 0), (.slice none 0 none)], 8, true⟩)
    (srcS h7 (some ((nx + 11), 0)) 5 8).bind fun q8 =>
    (appD h7 s4.1 s4.2.1 s4.2.2 8 96 (nx + 12) q8).bind fun e9 =>
    let h10 := AHeap.puts h7 e9.sets
    let h11 := AHeap.put h10 (r5.2.2 + 5) (some ⟨[(.int .i64 1), (.int .i64 2), (.int .i64 4), (.int .i64 5), (.int .i64 12)], 1, true⟩)
    ((callP Try.prog keepT n) Y 7 [(.slice x1a x1n x1c), (.int .i64 40), (.slice (some ((r5.2.2 + 5), 0)) 5 (some 5))] h11 (r5.2.2 + 9)).bind fun r12 =>
    (asSl r12.1).bind fun s13 =>
    (srcS r12.2.1 s13.1 s13.2.1 8).bind fun q14 =>
    (appD r12.2.1 e9.a e9.n e9.c 8 96 (r5.2.2 + 7) q14).bind fun e15 =>
    let h16 := AHeap.puts r12.2.1 e15.sets
    ((callP Try.prog keepT n) Y 9 [(.int .i64 x2)] h16 (r12.2.2 + 9)).bind fun r17 =>
    (asStr r17.1).bind fun s18 =>
    let h19 := AHeap.put r17.2.1 (r12.2.2 + 6) (some ⟨[(.int .i64 9), (.str (ByteArray.mk #[])), (.str (ByteArray.mk #[115])), (.int .i64 0), (.int .i64 0), (.int .i64 0), (.int .i64 0), (.slice none 0 none), (.int .i64 6), (.str (ByteArray.mk #[])), (.str (ByteArray.mk #[])), (.int .i64 0), (.int .i64 0), (.int .i64 0), (.int .i64 0), (.slice none 0 none), (.int .i64 3), (.str s18), (.str (ByteArray.mk #[])), (.int .i64 0), (.int .i64 2000), (.int .i64 0), (.int .i64 0), (.slice none 0 none)], 8, true⟩)
    (srcS h19 (some ((r12.2.2 + 6), 0)) 3 8).bind fun q20 =>
    (appD h19 e15.a e15.n e15.c 8 96 (r12.2.2 + 7) q20).bind fun e21 =>
    let h22 := AHeap.puts h19 e21.sets
    ((callP Try.prog keepT n) Y 11 [(.slice e21.a e21.n e21.c)] h22 (r17.2.2 + 7)).bind fun r23 =>
    (asTup 2 r23.1).bind fun d24 =>
    (asSl (d24.getD 0 .bad)).bind fun s25 =>
    (asB (d24.getD 1 .bad)).bind fun t26 =>
    if t26 = true then
    (((callP Try.prog keepT n) Y 12 [] r23.2.1 (r23.2.2 + 43)).bind fun r27 =>
    (asB r27.1).bind fun t28 =>
    if t28 = true then
    ((s25.1).bind fun p29 =>
    if 0 ≤ ((wrapA .i64 (((s25.2.1 : Nat) : Int) - 3)) : Int) ∧ (wrapA .i64 (((s25.2.1 : Nat) : Int) - 3)) < ((s25.2.1 : Nat) : Int) then
    ((ldA r27.2.1 p29.1 (p29.2 + Int.toNat (wrapA .i64 (((s25.2.1 : Nat) : Int) - 3)) * 5)).bind fun v30 =>
    (asI .i64 v30).bind fun n31 =>
    if ((n31 : Int) == 0) = true then
    ((s25.1).bind fun p32 =>
    if 0 ≤ ((wrapA .i64 (((e9.n : Nat) : Int) - 1)) : Int) ∧ (wrapA .i64 (((e9.n : Nat) : Int) - 1)) < ((s25.2.1 : Nat) : Int) then
    ((ldR r27.2.1 p32.1 (p32.2 + Int.toNat (wrapA .i64 (((e9.n : Nat) : Int) - 1)) * 5) 5).bind fun l33 =>
    (asAgg 5 (AV.agg l33)).bind fun d34 =>
    (asI .i64 (d34.getD 0 .bad)).bind fun n35 =>
    (asB (d34.getD 1 .bad)).bind fun t36 =>
    (asI .i64 (d34.getD 2 .bad)).bind fun n37 =>
    (asSl (d34.getD 3 .bad)).bind fun s38 =>
    (asSl (d34.getD 4 .bad)).bind fun s39 =>
    (s25.1).bind fun p40 =>
    if 0 ≤ ((wrapA .i64 (((s25.2.1 : Nat) : Int) - 1)) : Int) ∧ (wrapA .i64 (((s25.2.1 : Nat) : Int) - 1)) < ((s25.2.1 : Nat) : Int) then
    ((ldR r27.2.1 p40.1 (p40.2 + Int.toNat (wrapA .i64 (((s25.2.1 : Nat) : Int) - 1)) * 5) 5).bind fun l41 =>
    (asAgg 5 (AV.agg l41)).bind fun d42 =>
    (asI .i64 (d42.getD 0 .bad)).bind fun n43 =>
    (asB (d42.getD 1 .bad)).bind fun t44 =>
    (asI .i64 (d42.getD 2 .bad)).bind fun n45 =>
    (asSl (d42.getD 3 .bad)).bind fun s46 =>
    (asSl (d42.getD 4 .bad)).bind fun s47 =>
    ((callP Try.prog keepT n) Y 13 [(.agg [(.int .i64 n35), (.bool t36), (.int .i64 n37), (.slice s38.1 s38.2.1 s38.2.2), (.slice s39.1 s39.2.1 s39.2.2)]), (.agg [(.int .i64 n43), (.bool t44), (.int .i64 n45), (.slice s46.1 s46.2.1 s46.2.2), (.slice s47.1 s47.2.1 s47.2.2)])] r27.2.1 r27.2.2).bind fun r48 =>
    (asB r48.1).bind fun t49 =>
    if t49 = true then
    ((s25.1).bind fun p50 =>
    if 0 ≤ ((wrapA .i64 (((e9.n : Nat) : Int) - 2)) : Int) ∧ (wrapA .i64 (((e9.n : Nat) : Int) - 2)) < ((s25.2.1 : Nat) : Int) then
    ((ldR r48.2.1 p50.1 (p50.2 + Int.toNat (wrapA .i64 (((e9.n : Nat) : Int) - 2)) * 5) 5).bind fun l51 =>
    (asAgg 5 (AV.agg l51)).bind fun d52 =>
    (asI .i64 (d52.getD 0 .bad)).bind fun n53 =>
    (asB (d52.getD 1 .bad)).bind fun t54 =>
    (asI .i64 (d52.getD 2 .bad)).bind fun n55 =>
    (asSl (d52.getD 3 .bad)).bind fun s56 =>
    (asSl (d52.getD 4 .bad)).bind fun s57 =>
    (s25.1).bind fun p58 =>
    if 0 ≤ ((wrapA .i64 (((s25.2.1 : Nat) : Int) - 2)) : Int) ∧ (wrapA .i64 (((s25.2.1 : Nat) : Int) - 2)) < ((s25.2.1 : Nat) : Int) then
    ((ldR r48.2.1 p58.1 (p58.2 + Int.toNat (wrapA .i64 (((s25.2.1 : Nat) : Int) - 2)) * 5) 5).bind fun l59 =>
    (asAgg 5 (AV.agg l59)).bind fun d60 =>
    (asI .i64 (d60.getD 0 .bad)).bind fun n61 =>
    (asB (d60.getD 1 .bad)).bind fun t62 =>
    (asI .i64 (d60.getD 2 .bad)).bind fun n63 =>
    (asSl (d60.getD 3 .bad)).bind fun s64 =>
    (asSl (d60.getD 4 .bad)).bind fun s65 =>
    ((callP Try.prog keepT n) Y 13 [(.agg [(.int .i64 n53), (.bool t54), (.int .i64 n55), (.slice s56.1 s56.2.1 s56.2.2), (.slice s57.1 s57.2.1 s57.2.2)]), (.agg [(.int .i64 n61), (.bool t62), (.int .i64 n63), (.slice s64.1 s64.2.1 s64.2.2), (.slice s65.1 s65.2.1 s65.2.2)])] r48.2.1 r48.2.2).bind fun r66 =>
    (asB r66.1).bind fun t67 =>
    some ((.bool t67), r66.2.1, r66.2.2))
    else none)
    else none)
    else
    (some ((.bool false), r48.2.1, r48.2.2)))
    else none)
    else none)
    else
    (some ((.bool false), r27.2.1, r27.2.2)))
    else none)
    else
    (some ((.bool false), r27.2.1, r27.2.2)))
    else
    (some ((.bool false), r23.2.1, (r23.2.2 + 43))) := F4_eq' go1 n Y x0a x0n x0c x1a x1n x1c x2 h nx

noncomputable def c5 : Code := (Try.f5.body).getD .skip

noncomputable def r5 : List ResultVar := Try.f5.results.toList

noncomputable def F5_J1' (W J : StepF (AV × AHeap × Nat) → StepF (AV × AHeap × Nat)) (call : YldF → CallF) (Y : YldF) (lf : Nat) (x11a : Option (Nat × Nat)) (x11n : Nat) (x11c : Option Nat) (x12 : Int) (x13a : Option (Nat × Nat)) (x13n : Nat) (x13c : Option Nat) (h : AHeap) (nx : Nat) : Option (AV × AHeap × Nat) :=
  goK W J drawK (machOf Try.prog) call Y (keepT 5) lf c5 [1, 1, 1, 1, 1, 1, 1, 1] [] (retK (machOf Try.prog) ⟨c5, 163, r5, keepT 5⟩) ⟨163, mkL [(11, (.slice x11a x11n x11c)), (12, (.int .i64 x12)), (13, (.slice x13a x13n x13c))]⟩ h nx

noncomputable def F5_J1 (call : YldF → CallF) (Y : YldF) (lf : Nat) (x11a : Option (Nat × Nat)) (x11n : Nat) (x11c : Option Nat) (x12 : Int) (x13a : Option (Nat × Nat)) (x13n : Nat) (x13c : Option Nat) (h : AHeap) (nx : Nat) : Option (AV × AHeap × Nat) := F5_J1' go1 go1 call Y lf x11a x11n x11c x12 x13a x13n x13c h nx

noncomputable def F5_J2' (W J : StepF (AV × AHeap × Nat) → StepF (AV × AHeap × Nat)) (call : YldF → CallF) (Y : YldF) (lf : Nat) (x11a : Option (Nat × Nat)) (x11n : Nat) (x11c : Option Nat) (x12 : Int) (x15 : Option (Nat × Nat)) (x17 : Option (Nat × Nat)) (h : AHeap) (nx : Nat) : Option (AV × AHeap × Nat) :=
  goK W J drawK (machOf Try.prog) call Y (keepT 5) lf c5 [1, 1, 1, 1, 1, 1, 1, 1, 1, 1, 1, 1, 1] [] (retK (machOf Try.prog) ⟨c5, 163, r5, keepT 5⟩) ⟨163, mkL [(11, (.slice x11a x11n x11c)), (12, (.int .i64 x12)), (15, (.ptr x15)), (17, (.ptr x17))]⟩ h nx

noncomputable def F5_J2 (call : YldF → CallF) (Y : YldF) (lf : Nat) (x11a : Option (Nat × Nat)) (x11n : Nat) (x11c : Option Nat) (x12 : Int) (x15 : Option (Nat × Nat)) (x17 : Option (Nat × Nat)) (h : AHeap) (nx : Nat) : Option (AV × AHeap × Nat) := F5_J2' go1 go1 call Y lf x11a x11n x11c x12 x15 x17 h nx

noncomputable def F5_L3' (W J : StepF (AV × AHeap × Nat) → StepF (AV × AHeap × Nat)) (call : YldF → CallF) (Y : YldF) (lf : Nat) (n0 : Nat) (x11a : Option (Nat × Nat)) (x11n : Nat) (x11c : Option Nat) (x12 : Int) (x15 : Option (Nat × Nat)) (x17 : Option (Nat × Nat)) (x18 : Int) (h : AHeap) (nx : Nat) : Option (AV × AHeap × Nat) :=
  goK W J drawK (machOf Try.prog) call Y (keepT 5) lf c5 [1, 1, 1, 1, 1, 1, 1, 1, 1, 1, 1, 1, 1, 0, 1, 0, 9] [n0] (retK (machOf Try.prog) ⟨c5, 163, r5, keepT 5⟩) ⟨163, mkL [(11, (.slice x11a x11n x11c)), (12, (.int .i64 x12)), (15, (.ptr x15)), (17, (.ptr x17)), (18, (.int .i64 x18))]⟩ h nx

noncomputable def F5_L3 (call : YldF → CallF) (Y : YldF) (lf : Nat) (n0 : Nat) (x11a : Option (Nat × Nat)) (x11n : Nat) (x11c : Option Nat) (x12 : Int) (x15 : Option (Nat × Nat)) (x17 : Option (Nat × Nat)) (x18 : Int) (h : AHeap) (nx : Nat) : Option (AV × AHeap × Nat) := F5_L3' go1 go1 call Y lf n0 x11a x11n x11c x12 x15 x17 x18 h nx

noncomputable def F5_J4' (W J : StepF (AV × AHeap × Nat) → StepF (AV × AHeap × Nat)) (call : YldF → CallF) (Y : YldF) (lf : Nat) (n0 : Nat) (x11a : Option (Nat × Nat)) (x11n : Nat) (x11c : Option Nat) (x12 : Int) (x15 : Option (Nat × Nat)) (x17 : Option (Nat × Nat)) (x18 : Int) (x19 : Int) (h : AHeap) (nx : Nat) : Option (AV × AHeap × Nat) :=
  goK W J drawK (machOf Try.prog) call Y (keepT 5) lf c5 [1, 1, 1, 1, 1, 1, 1, 1, 1, 1, 1, 1, 1, 0, 1, 0, 0, 1, 0, 0, 1, 1] [n0] (retK (machOf Try.prog) ⟨c5, 163, r5, keepT 5⟩) ⟨163, mkL [(11, (.slice x11a x11n x11c)), (12, (.int .i64 x12)), (15, (.ptr x15)), (17, (.ptr x17)), (18, (.int .i64 x18)), (19, (.int .u8 x19))]⟩ h nx

noncomputable def F5_J4 (call : YldF → CallF) (Y : YldF) (lf : Nat) (n0 : Nat) (x11a : Option (Nat × Nat)) (x11n : Nat) (x11c : Option Nat) (x12 : Int) (x15 : Option (Nat × Nat)) (x17 : Option (Nat × Nat)) (x18 : Int) (x19 : Int) (h : AHeap) (nx : Nat) : Option (AV × AHeap × Nat) := F5_J4' go1 go1 call Y lf n0 x11a x11n x11c x12 x15 x17 x18 x19 h nx

noncomputable def F5_J5' (W J : StepF (AV × AHeap × Nat) → StepF (AV × AHeap × Nat)) (call : YldF → CallF) (Y : YldF) (lf : Nat) (n0 : Nat) (x11a : Option (Nat × Nat)) (x11n : Nat) (x11c : Option Nat) (x12 : Int) (x15 : Option (Nat × Nat)) (x17 : Option (Nat × Nat)) (x18 : Int) (x19 : Int) (h : AHeap) (nx : Nat) : Option (AV × AHeap × Nat) :=
  goK W J drawK (machOf Try.prog) call Y (keepT 5) lf c5 [1, 1, 1, 1, 1, 1, 1, 1, 1, 1, 1, 1, 1, 0, 1, 0, 0, 1, 0, 0, 1, 1, 1] [n0] (retK (machOf Try.prog) ⟨c5, 163, r5, keepT 5⟩) ⟨163, mkL [(11, (.slice x11a x11n x11c)), (12, (.int .i64 x12)), (15, (.ptr x15)), (17, (.ptr x17)), (18, (.int .i64 x18)), (19, (.int .u8 x19))]⟩ h nx

noncomputable def F5_J5 (call : YldF → CallF) (Y : YldF) (lf : Nat) (n0 : Nat) (x11a : Option (Nat × Nat)) (x11n : Nat) (x11c : Option Nat) (x12 : Int) (x15 : Option (Nat × Nat)) (x17 : Option (Nat × Nat)) (x18 : Int) (x19 : Int) (h : AHeap) (nx : Nat) : Option (AV × AHeap × Nat) := F5_J5' go1 go1 call Y lf n0 x11a x11n x11c x12 x15 x17 x18 x19 h nx

theorem F5_J1_eq' (J : StepF (AV × AHeap × Nat) → StepF (AV × AHeap × Nat)) (call : YldF → CallF) (Y : YldF) (lf : Nat) (x11a : Option (Nat × Nat)) (x11n : Nat) (x11c : Option Nat) (x12 : Int) (x13a : Option (Nat × Nat)) (x13n : Nat) (x13c : Option Nat) (h : AHeap) (nx : Nat) : F5_J1' go1 J call Y lf x11a x11n x11c x12 x13a x13n x13c h nx =
    (x13a).bind fun p1 =>
    if 0 ≤ ((wrapA .i64 (((x13n : Nat) : Int) - 3)) : Int) ∧ (wrapA .i64 (((x13n : Nat) : Int) - 3)) < ((x13n : Nat) : Int) then
    ((ldR h p1.1 (p1.2 + Int.toNat (wrapA .i64 (((x13n : Nat) : Int) - 3)) * 5) 5).bind fun l2 =>
    (asAgg 5 (AV.agg l2)).bind fun d3 =>
    (asI .i64 (d3.getD 0 .bad)).bind fun n4 =>
    (asB (d3.getD 1 .bad)).bind fun t5 =>
    (asI .i64 (d3.getD 2 .bad)).bind fun n6 =>
    (asSl (d3.getD 3 .bad)).bind fun s7 =>
    (asSl (d3.getD 4 .bad)).bind fun s8 =>
    let h9 := AHeap.put h (nx + 6) (some ⟨[(.int .i64 0), (.bool false), (.int .i64 0), (.slice none 0 none), (.slice none 0 none)], 5, true⟩)
    (stA h9 (nx + 6) 0 (.agg [(.int .i64 n4), (.bool t5), (.int .i64 n6), (.slice s7.1 s7.2.1 s7.2.2), (.slice s8.1 s8.2.1 s8.2.2)]) 5).bind fun b10 =>
    let h11 := AHeap.put h9 (nx + 6) (some b10)
    (x13a).bind fun p12 =>
    if 0 ≤ ((wrapA .i64 (((x13n : Nat) : Int) - 2)) : Int) ∧ (wrapA .i64 (((x13n : Nat) : Int) - 2)) < ((x13n : Nat) : Int) then
    ((ldR h11 p12.1 (p12.2 + Int.toNat (wrapA .i64 (((x13n : Nat) : Int) - 2)) * 5) 5).bind fun l13 =>
    (asAgg 5 (AV.agg l13)).bind fun d14 =>
    (asI .i64 (d14.getD 0 .bad)).bind fun n15 =>
    (asB (d14.getD 1 .bad)).bind fun t16 =>
    (asI .i64 (d14.getD 2 .bad)).bind fun n17 =>
    (asSl (d14.getD 3 .bad)).bind fun s18 =>
    (asSl (d14.getD 4 .bad)).bind fun s19 =>
    let h20 := AHeap.put h11 (nx + 14) (some ⟨[(.int .i64 0), (.bool false), (.int .i64 0), (.slice none 0 none), (.slice none 0 none)], 5, true⟩)
    (stA h20 (nx + 14) 0 (.agg [(.int .i64 n15), (.bool t16), (.int .i64 n17), (.slice s18.1 s18.2.1 s18.2.2), (.slice s19.1 s19.2.1 s19.2.2)]) 5).bind fun b21 =>
    let h22 := AHeap.put h20 (nx + 14) (some b21)
    (x13a).bind fun p23 =>
    if 0 ≤ ((wrapA .i64 (((x13n : Nat) : Int) - 1)) : Int) ∧ (wrapA .i64 (((x13n : Nat) : Int) - 1)) < ((x13n : Nat) : Int) then
    ((ldR h22 p23.1 (p23.2 + Int.toNat (wrapA .i64 (((x13n : Nat) : Int) - 1)) * 5) 5).bind fun l24 =>
    (asAgg 5 (AV.agg l24)).bind fun d25 =>
    (asI .i64 (d25.getD 0 .bad)).bind fun n26 =>
    (asB (d25.getD 1 .bad)).bind fun t27 =>
    (asI .i64 (d25.getD 2 .bad)).bind fun n28 =>
    (asSl (d25.getD 3 .bad)).bind fun s29 =>
    (asSl (d25.getD 4 .bad)).bind fun s30 =>
    let h31 := AHeap.put h22 (nx + 22) (some ⟨[(.int .i64 0), (.bool false), (.int .i64 0), (.slice none 0 none), (.slice none 0 none)], 5, true⟩)
    (stA h31 (nx + 22) 0 (.agg [(.int .i64 n26), (.bool t27), (.int .i64 n28), (.slice s29.1 s29.2.1 s29.2.2), (.slice s30.1 s30.2.1 s30.2.2)]) 5).bind fun b32 =>
    let h33 := AHeap.put h31 (nx + 22) (some b32)
    (ldA h33 (nx + 6) 0).bind fun v34 =>
    (asI .i64 v34).bind fun n35 =>
    if ((n35 : Int) != 0) = true then
    ((ldA h33 (nx + 6) 0).bind fun v36 =>
    (asI .i64 v36).bind fun n37 =>
    if ((n37 : Int) == 6) = true then
    ((ldA h33 (nx + 14) 0).bind fun v38 =>
    (asI .i64 v38).bind fun n39 =>
    if ((n39 : Int) == 6) = true then
    ((ldA h33 (nx + 22) 0).bind fun v40 =>
    (asI .i64 v40).bind fun n41 =>
    some ((.bool ((n41 : Int) == 6)), h33, (nx + 41)))
    else
    (some ((.bool false), h33, (nx + 41))))
    else
    (some ((.bool false), h33, (nx + 41))))
    else
    ((ldA h33 (nx + 14) 0).bind fun v42 =>
    (asI .i64 v42).bind fun n43 =>
    if ((n43 : Int) != 0) = true then
    (some ((.bool false), h33, (nx + 61)))
    else
    ((ldA h33 (nx + 22) 3).bind fun v44 =>
    (asSl v44).bind fun s45 =>
    (ldA h33 (nx + 6) 3).bind fun v46 =>
    (asSl v46).bind fun s47 =>
    if ((((s45.2.1 : Nat) : Int) : Int) != (if (wrapA .i64 (x12 + ((x11n : Nat) : Int))) > ((s47.2.1 : Nat) : Int) then (wrapA .i64 (x12 + ((x11n : Nat) : Int))) else ((s47.2.1 : Nat) : Int))) = true then
    (some ((.bool false), h33, (nx + 61)))
    else
    ((ldA h33 (nx + 14) 2).bind fun v48 =>
    (asI .i64 v48).bind fun n49 =>
    (ldA h33 (nx + 22) 3).bind fun v50 =>
    (asSl v50).bind fun s51 =>
    if ((n49 : Int) != ((s51.2.1 : Nat) : Int)) = true then
    (some ((.bool false), h33, (nx + 61)))
    else
    ((ldA h33 (nx + 22) 2).bind fun v52 =>
    (asI .i64 v52).bind fun n53 =>
    (ldA h33 (nx + 22) 3).bind fun v54 =>
    (asSl v54).bind fun s55 =>
    if ((n53 : Int) != ((s55.2.1 : Nat) : Int)) = true then
    (some ((.bool false), h33, (nx + 61)))
    else
    (F5_J2' J J call Y lf x11a x11n x11c x12 (some ((nx + 6), 0)) (some ((nx + 22), 0)) h33 (nx + 60)))))))
    else none)
    else none)
    else none := by kernel_rfl

theorem F5_J1_eq (call : YldF → CallF) (Y : YldF) (lf : Nat) (x11a : Option (Nat × Nat)) (x11n : Nat) (x11c : Option Nat) (x12 : Int) (x13a : Option (Nat × Nat)) (x13n : Nat) (x13c : Option Nat) (h : AHeap) (nx : Nat) : F5_J1 call Y lf x11a x11n x11c x12 x13a x13n x13c h nx =
    (x13a).bind fun p1 =>
    if 0 ≤ ((wrapA .i64 (((x13n : Nat) : Int) - 3)) : Int) ∧ (wrapA .i64 (((x13n : Nat) : Int) - 3)) < ((x13n : Nat) : Int) then
    ((ldR h p1.1 (p1.2 + Int.toNat (wrapA .i64 (((x13n : Nat) : Int) - 3)) * 5) 5).bind fun l2 =>
    (asAgg 5 (AV.agg l2)).bind fun d3 =>
    (asI .i64 (d3.getD 0 .bad)).bind fun n4 =>
    (asB (d3.getD 1 .bad)).bind fun t5 =>
    (asI .i64 (d3.getD 2 .bad)).bind fun n6 =>
    (asSl (d3.getD 3 .bad)).bind fun s7 =>
    (asSl (d3.getD 4 .bad)).bind fun s8 =>
    let h9 := AHeap.put h (nx + 6) (some ⟨[(.int .i64 0), (.bool false), (.int .i64 0), (.slice none 0 none), (.slice none 0 none)], 5, true⟩)
    (stA h9 (nx + 6) 0 (.agg [(.int .i64 n4), (.bool t5), (.int .i64 n6), (.slice s7.1 s7.2.1 s7.2.2), (.slice s8.1 s8.2.1 s8.2.2)]) 5).bind fun b10 =>
    let h11 := AHeap.put h9 (nx + 6) (some b10)
    (x13a).bind fun p12 =>
    if 0 ≤ ((wrapA .i64 (((x13n : Nat) : Int) - 2)) : Int) ∧ (wrapA .i64 (((x13n : Nat) : Int) - 2)) < ((x13n : Nat) : Int) then
    ((ldR h11 p12.1 (p12.2 + Int.toNat (wrapA .i64 (((x13n : Nat) : Int) - 2)) * 5) 5).bind fun l13 =>
    (asAgg 5 (AV.agg l13)).bind fun d14 =>
    (asI .i64 (d14.getD 0 .bad)).bind fun n15 =>
    (asB (d14.getD 1 .bad)).bind fun t16 =>
    (asI .i64 (d14.getD 2 .bad)).bind fun n17 =>
    (asSl (d14.getD 3 .bad)).bind fun s18 =>
    (asSl (d14.getD 4 .bad)).bind fun s19 =>
    let h20 := AHeap.put h11 (nx + 14) (some ⟨[(.int .i64 0), (.bool false), (.int .i64 0), (.slice none 0 none), (.slice none 0 none)], 5, true⟩)
    (stA h20 (nx + 14) 0 (.agg [(.int .i64 n15), (.bool t16), (.int .i64 n17), (.slice s18.1 s18.2.1 s18.2.2), (.slice s19.1 s19.2.1 s19.2.2)]) 5).bind fun b21 =>
    let h22 := AHeap.put h20 (nx + 14) (some b21)
    (x13a).bind fun p23 =>
    if 0 ≤ ((wrapA .i64 (((x13n : Nat) : Int) - 1)) : Int) ∧ (wrapA .i64 (((x13n : Nat) : Int) - 1)) < ((x13n : Nat) : Int) then
    ((ldR h22 p23.1 (p23.2 + Int.toNat (wrapA .i64 (((x13n : Nat) : Int) - 1)) * 5) 5).bind fun l24 =>
    (asAgg 5 (AV.agg l24)).bind fun d25 =>
    (asI .i64 (d25.getD 0 .bad)).bind fun n26 =>
    (asB (d25.getD 1 .bad)).bind fun t27 =>
    (asI .i64 (d25.getD 2 .bad)).bind fun n28 =>
    (asSl (d25.getD 3 .bad)).bind fun s29 =>
    (asSl (d25.getD 4 .bad)).bind fun s30 =>
    let h31 := AHeap.put h22 (nx + 22) (some ⟨[(.int .i64 0), (.bool false), (.int .i64 0), (.slice none 0 none), (.slice none 0 none)], 5, true⟩)
    (stA h31 (nx + 22) 0 (.agg [(.int .i64 n26), (.bool t27), (.int .i64 n28), (.slice s29.1 s29.2.1 s29.2.2), (.slice s30.1 s30.2.1 s30.2.2)]) 5).bind fun b32 =>
    let h33 := AHeap.put h31 (nx + 22) (some b32)
    (ldA h33 (nx + 6) 0).bind fun v34 =>
    (asI .i64 v34).bind fun n35 =>
    if ((n35 : Int) != 0) = true then
    ((ldA h33 (nx + 6) 0).bind fun v36 =>
    (asI .i64 v36).bind fun n37 =>
    if ((n37 : Int) == 6) = true then
    ((ldA h33 (nx + 14) 0).bind fun v38 =>
    (asI .i64 v38).bind fun n39 =>
    if ((n39 : Int) == 6) = true then
    ((ldA h33 (nx + 22) 0).bind fun v40 =>
    (asI .i64 v40).bind fun n41 =>
    some ((.bool ((n41 : Int) == 6)), h33, (nx + 41)))
    else
    (some ((.bool false), h33, (nx + 41))))
    else
    (some ((.bool false), h33, (nx + 41))))
    else
    ((ldA h33 (nx + 14) 0).bind fun v42 =>
    (asI .i64 v42).bind fun n43 =>
    if ((n43 : Int) != 0) = true then
    (some ((.bool false), h33, (nx + 61)))
    else
    ((ldA h33 (nx + 22) 3).bind fun v44 =>
    (asSl v44).bind fun s45 =>
    (ldA h33 (nx + 6) 3).bind fun v46 =>
    (asSl v46).bind fun s47 =>
    if ((((s45.2.1 : Nat) : Int) : Int) != (if (wrapA .i64 (x12 + ((x11n : Nat) : Int))) > ((s47.2.1 : Nat) : Int) then (wrapA .i64 (x12 + ((x11n : Nat) : Int))) else ((s47.2.1 : Nat) : Int))) = true then
    (some ((.bool false), h33, (nx + 61)))
    else
    ((ldA h33 (nx + 14) 2).bind fun v48 =>
    (asI .i64 v48).bind fun n49 =>
    (ldA h33 (nx + 22) 3).bind fun v50 =>
    (asSl v50).bind fun s51 =>
    if ((n49 : Int) != ((s51.2.1 : Nat) : Int)) = true then
    (some ((.bool false), h33, (nx + 61)))
    else
    ((ldA h33 (nx + 22) 2).bind fun v52 =>
    (asI .i64 v52).bind fun n53 =>
    (ldA h33 (nx + 22) 3).bind fun v54 =>
    (asSl v54).bind fun s55 =>
    if ((n53 : Int) != ((s55.2.1 : Nat) : Int)) = true then
    (some ((.bool false), h33, (nx + 61)))
    else
    (F5_J2 call Y lf x11a x11n x11c x12 (some ((nx + 6), 0)) (some ((nx + 22), 0)) h33 (nx + 60)))))))
    else none)
    else none)
    else none := F5_J1_eq' go1 call Y lf x11a x11n x11c x12 x13a x13n x13c h nx

theorem F5_J2_eq' (J : StepF (AV × AHeap × Nat) → StepF (AV × AHeap × Nat)) (call : YldF → CallF) (Y : YldF) (lf : Nat) (x11a : Option (Nat × Nat)) (x11n : Nat) (x11c : Option Nat) (x12 : Int) (x15 : Option (Nat × Nat)) (x17 : Option (Nat × Nat)) (h : AHeap) (nx : Nat) : F5_J2' go1 J call Y lf x11a x11n x11c x12 x15 x17 h nx =
    F5_L3' J J call Y lf lf x11a x11n x11c x12 x15 x17 0 h (nx + 1) := by kernel_rfl

theorem F5_J2_eq (call : YldF → CallF) (Y : YldF) (lf : Nat) (x11a : Option (Nat × Nat)) (x11n : Nat) (x11c : Option Nat) (x12 : Int) (x15 : Option (Nat × Nat)) (x17 : Option (Nat × Nat)) (h : AHeap) (nx : Nat) : F5_J2 call Y lf x11a x11n x11c x12 x15 x17 h nx =
    F5_L3 call Y lf lf x11a x11n x11c x12 x15 x17 0 h (nx + 1) := F5_J2_eq' go1 call Y lf x11a x11n x11c x12 x15 x17 h nx

theorem F5_L3_eq' (J : StepF (AV × AHeap × Nat) → StepF (AV × AHeap × Nat)) (call : YldF → CallF) (Y : YldF) (lf : Nat) (n0 : Nat) (x11a : Option (Nat × Nat)) (x11n : Nat) (x11c : Option Nat) (x12 : Int) (x15 : Option (Nat × Nat)) (x17 : Option (Nat × Nat)) (x18 : Int) (h : AHeap) (nx : Nat) : F5_L3' go1 J call Y lf (n0 + 1) x11a x11n x11c x12 x15 x17 x18 h nx =
    (x17).bind fun p1 =>
    (ldA h p1.1 (p1.2 + 3)).bind fun v2 =>
    (asSl v2).bind fun s3 =>
    if (decide ((x18 : Int) < ((s3.2.1 : Nat) : Int))) = true then
    ((x15).bind fun p4 =>
    (ldA h p4.1 (p4.2 + 3)).bind fun v5 =>
    (asSl v5).bind fun s6 =>
    if (decide ((x18 : Int) < ((s6.2.1 : Nat) : Int))) = true then
    ((x15).bind fun p7 =>
    (ldA h p7.1 (p7.2 + 3)).bind fun v8 =>
    (asSl v8).bind fun s9 =>
    (s9.1).bind fun p10 =>
    if 0 ≤ (x18 : Int) ∧ x18 < ((s9.2.1 : Nat) : Int) then
    ((ldA h p10.1 (p10.2 + Int.toNat x18 * 1)).bind fun v11 =>
    (asI .u8 v11).bind fun n12 =>
    F5_J4' J J call Y lf n0 x11a x11n x11c x12 x15 x17 x18 n12 h (nx + 17))
    else none)
    else
    (F5_J4' J J call Y lf n0 x11a x11n x11c x12 x15 x17 x18 0 h (nx + 11)))
    else
    (some ((.bool true), h, (nx + 6))) := by kernel_rfl

theorem F5_L3_eq (call : YldF → CallF) (Y : YldF) (lf : Nat) (n0 : Nat) (x11a : Option (Nat × Nat)) (x11n : Nat) (x11c : Option Nat) (x12 : Int) (x15 : Option (Nat × Nat)) (x17 : Option (Nat × Nat)) (x18 : Int) (h : AHeap) (nx : Nat) : F5_L3 call Y lf (n0 + 1) x11a x11n x11c x12 x15 x17 x18 h nx =
    (x17).bind fun p1 =>
    (ldA h p1.1 (p1.2 + 3)).bind fun v2 =>
    (asSl v2).bind fun s3 =>
    if (decide ((x18 : Int) < ((s3.2.1 : Nat) : Int))) = true then
    ((x15).bind fun p4 =>
    (ldA h p4.1 (p4.2 + 3)).bind fun v5 =>
    (asSl v5).bind fun s6 =>
    if (decide ((x18 : Int) < ((s6.2.1 : Nat) : Int))) = true then
    ((x15).bind fun p7 =>
    (ldA h p7.1 (p7.2 + 3)).bind fun v8 =>
    (asSl v8).bind fun s9 =>
    (s9.1).bind fun p10 =>
    if 0 ≤ (x18 : Int) ∧ x18 < ((s9.2.1 : Nat) : Int) then
    ((ldA h p10.1 (p10.2 + Int.toNat x18 * 1)).bind fun v11 =>
    (asI .u8 v11).bind fun n12 =>
    F5_J4 call Y lf n0 x11a x11n x11c x12 x15 x17 x18 n12 h (nx + 17))
    else none)
    else
    (F5_J4 call Y lf n0 x11a x11n x11c x12 x15 x17 x18 0 h (nx + 11)))
    else
    (some ((.bool true), h, (nx + 6))) := F5_L3_eq' go1 call Y lf n0 x11a x11n x11c x12 x15 x17 x18 h nx

theorem F5_L3_zero (call : YldF → CallF) (Y : YldF) (lf : Nat) (x11a : Option (Nat × Nat)) (x11n : Nat) (x11c : Option Nat) (x12 : Int) (x15 : Option (Nat × Nat)) (x17 : Option (Nat × Nat)) (x18 : Int) (h : AHeap) (nx : Nat) : F5_L3 call Y lf 0 x11a x11n x11c x12 x15 x17 x18 h nx = none := by kernel_rfl

theorem F5_J4_eq' (J : StepF (AV × AHeap × Nat) → StepF (AV × AHeap × Nat)) (call : YldF → CallF) (Y : YldF) (lf : Nat) (n0 : Nat) (x11a : Option (Nat × Nat)) (x11n : Nat) (x11c : Option Nat) (x12 : Int) (x15 : Option (Nat × Nat)) (x17 : Option (Nat × Nat)) (x18 : Int) (x19 : Int) (h : AHeap) (nx : Nat) : F5_J4' go1 J call Y lf n0 x11a x11n x11c x12 x15 x17 x18 x19 h nx =
    if (decide ((x18 : Int) ≥ x12)) = true then
    (if (decide ((x18 : Int) < (wrapA .i64 (x12 + ((x11n : Nat) : Int))))) = true then
    ((x11a).bind fun p1 =>
    if 0 ≤ ((wrapA .i64 (x18 - x12)) : Int) ∧ (wrapA .i64 (x18 - x12)) < ((x11n : Nat) : Int) then
    ((ldA h p1.1 (p1.2 + Int.toNat (wrapA .i64 (x18 - x12)) * 1)).bind fun v2 =>
    (asI .u8 v2).bind fun n3 =>
    F5_J5' J J call Y lf n0 x11a x11n x11c x12 x15 x17 x18 n3 h (nx + 18))
    else none)
    else
    (F5_J5' J J call Y lf n0 x11a x11n x11c x12 x15 x17 x18 x19 h (nx + 11)))
    else
    (F5_J5' J J call Y lf n0 x11a x11n x11c x12 x15 x17 x18 x19 h (nx + 11)) := by kernel_rfl

theorem F5_J4_eq (call : YldF → CallF) (Y : YldF) (lf : Nat) (n0 : Nat) (x11a : Option (Nat × Nat)) (x11n : Nat) (x11c : Option Nat) (x12 : Int) (x15 : Option (Nat × Nat)) (x17 : Option (Nat × Nat)) (x18 : Int) (x19 : Int) (h : AHeap) (nx : Nat) : F5_J4 call Y lf n0 x11a x11n x11c x12 x15 x17 x18 x19 h nx =
    if (decide ((x18 : Int) ≥ x12)) = true then
    (if (decide ((x18 : Int) < (wrapA .i64 (x12 + ((x11n : Nat) : Int))))) = true then
    ((x11a).bind fun p1 =>
    if 0 ≤ ((wrapA .i64 (x18 - x12)) : Int) ∧ (wrapA .i64 (x18 - x12)) < ((x11n : Nat) : Int) then
    ((ldA h p1.1 (p1.2 + Int.toNat (wrapA .i64 (x18 - x12)) * 1)).bind fun v2 =>
    (asI .u8 v2).bind fun n3 =>
    F5_J5 call Y lf n0 x11a x11n x11c x12 x15 x17 x18 n3 h (nx + 18))
    else none)
    else
    (F5_J5 call Y lf n0 x11a x11n x11c x12 x15 x17 x18 x19 h (nx + 11)))
    else
    (F5_J5 call Y lf n0 x11a x11n x11c x12 x15 x17 x18 x19 h (nx + 11)) := F5_J4_eq' go1 call Y lf n0 x11a x11n x11c x12 x15 x17 x18 x19 h nx

theorem F5_J5_eq' (J : StepF (AV × AHeap × Nat) → StepF (AV × AHeap × Nat)) (call : YldF → CallF) (Y : YldF) (lf : Nat) (n0 : Nat) (x11a : Option (Nat × Nat)) (x11n : Nat) (x11c : Option Nat) (x12 : Int) (x15 : Option (Nat × Nat)) (x17 : Option (Nat × Nat)) (x18 : Int) (x19 : Int) (h : AHeap) (nx : Nat) : F5_J5' go1 J call Y lf n0 x11a x11n x11c x12 x15 x17 x18 x19 h nx =
    (x17).bind fun p1 =>
    (ldA h p1.1 (p1.2 + 3)).bind fun v2 =>
    (asSl v2).bind fun s3 =>
    (s3.1).bind fun p4 =>
    if 0 ≤ (x18 : Int) ∧ x18 < ((s3.2.1 : Nat) : Int) then
    ((ldA h p4.1 (p4.2 + Int.toNat x18 * 1)).bind fun v5 =>
    (asI .u8 v5).bind fun n6 =>
    if ((n6 : Int) != x19) = true then
    (some ((.bool false), h, (nx + 8)))
    else
    (F5_L3' J J call Y lf n0 x11a x11n x11c x12 x15 x17 (wrapA .i64 (x18 + 1)) h (nx + 10)))
    else none := by kernel_rfl

theorem F5_J5_eq (call : YldF → CallF) (Y : YldF) (lf : Nat) (n0 : Nat) (x11a : Option (Nat × Nat)) (x11n : Nat) (x11c : Option Nat) (x12 : Int) (x15 : Option (Nat × Nat)) (x17 : Option (Nat × Nat)) (x18 : Int) (x19 : Int) (h : AHeap) (nx : Nat) : F5_J5 call Y lf n0 x11a x11n x11c x12 x15 x17 x18 x19 h nx =
    (x17).bind fun p1 =>
    (ldA h p1.1 (p1.2 + 3)).bind fun v2 =>
    (asSl v2).bind fun s3 =>
    (s3.1).bind fun p4 =>
    if 0 ≤ (x18 : Int) ∧ x18 < ((s3.2.1 : Nat) : Int) then
    ((ldA h p4.1 (p4.2 + Int.toNat x18 * 1)).bind fun v5 =>
    (asI .u8 v5).bind fun n6 =>
    if ((n6 : Int) != x19) = true then
    (some ((.bool false), h, (nx + 8)))
    else
    (F5_L3 call Y lf n0 x11a x11n x11c x12 x15 x17 (wrapA .i64 (x18 + 1)) h (nx + 10)))
    else none := F5_J5_eq' go1 call Y lf n0 x11a x11n x11c x12 x15 x17 x18 x19 h nx

theorem F5_eq' (J : StepF (AV × AHeap × Nat) → StepF (AV × AHeap × Nat)) (n : Nat) (Y : YldF) (x0a : Option (Nat × Nat)) (x0n : Nat) (x0c : Option Nat) (x1 : Int) (x2 : Int) (x3a : Option (Nat × Nat)) (x3n : Nat) (x3c : Option Nat) (h : AHeap) (nx : Nat) : rootJ J Try.prog keepT (callP Try.prog keepT n) Y n 5 [(.slice x0a x0n x0c), (.int .i64 x1), (.int .i64 x2), (.slice x3a x3n x3c)] h nx =
    ((callP Try.prog keepT n) Y 8 [] h (nx + 5)).bind fun r1 =>
    (asSl r1.1).bind fun s2 =>
    ((callP Try.prog keepT n) Y 7 [(.slice x0a x0n x0c), (.int .i64 40), (.slice s2.1 s2.2.1 s2.2.2)] r1.2.1 r1.2.2).bind fun r3 =>
    (asSl r3.1).bind fun s4 =>
    ((callP Try.prog keepT n) Y 9 [(.int .i64 x1)] r3.2.1 (r3.2.2 + 3)).bind fun r5 =>
    (asStr r5.1).bind fun s6 =>
    ((callP Try.prog keepT n) Y 14 [(.slice x3a x3n x3c), (.int .i64 400)] r5.2.1 (r5.2.2 + 3)).bind fun r7 =>
    (asSl r7.1).bind fun s8 =>
    ((callP Try.prog keepT n) Y 15 [(.int .i64 x2), (.int .i64 (wrapA .i64 ((wrapA .i64 (1024 - ((s8.2.1 : Nat) : Int))) + 1)))] r7.2.1 (r7.2.2 + 7)).bind fun r9 =>
    (asI .i64 r9.1).bind fun n10 =>
    let h11 := AHeap.put r9.2.1 (r9.2.2 + 9) (some ⟨[(.int .i64 3), (.str s6), (.str (ByteArray.mk #[])), (.int .i64 0), (.int .i64 2000), (.int .i64 0), (.int .i64 0), (.slice none 0 none), (.int .i64 2), (.str s6), (.str (ByteArray.mk #[])), (.int .i64 n10), (.int .i64 0), (.int .i64 0), (.int .i64 0), (.slice s8.1 s8.2.1 s8.2.2), (.int .i64 3), (.str s6), (.str (ByteArray.mk #[])), (.int .i64 0), (.int .i64 2000), (.int .i64 0), (.int .i64 0), (.slice none 0 none)], 8, true⟩)
    (srcS h11 (some ((r9.2.2 + 9), 0)) 3 8).bind fun q12 =>
    (appD h11 s4.1 s4.2.1 s4.2.2 8 96 (r9.2.2 + 10) q12).bind fun e13 =>
    let h14 := AHeap.puts h11 e13.sets
    ((callP Try.prog keepT n) Y 11 [(.slice e13.a e13.n e13.c)] h14 (r9.2.2 + 19)).bind fun r15 =>
    (asTup 2 r15.1).bind fun d16 =>
    (asSl (d16.getD 0 .bad)).bind fun s17 =>
    (asB (d16.getD 1 .bad)).bind fun t18 =>
    if (!t18) = true then
    (some ((.bool false), r15.2.1, (r15.2.2 + 7)))
    else
    (((callP Try.prog keepT n) Y 12 [] r15.2.1 (r15.2.2 + 6)).bind fun r19 =>
    (asB r19.1).bind fun t20 =>
    if (!t20) = true then
    (some ((.bool false), r19.2.1, (r19.2.2 + 1)))
    else
    (F5_J1' J J (callP Try.prog keepT n) Y n s8.1 s8.2.1 s8.2.2 n10 s17.1 s17.2.1 s17.2.2 r19.2.1 r19.2.2)) := by kernel_rfl

/-- quickset/quicksetkeep.PoolStores -/
theorem F5_eq (n : Nat) (Y : YldF) (x0a : Option (Nat × Nat)) (x0n : Nat) (x0c : Option Nat) (x1 : Int) (x2 : Int) (x3a : Option (Nat × Nat)) (x3n : Nat) (x3c : Option Nat) (h : AHeap) (nx : Nat) : callP Try.prog keepT (n + 1) Y 5 [(.slice x0a x0n x0c), (.int .i64 x1), (.int .i64 x2), (.slice x3a x3n x3c)] h nx =
    ((callP Try.prog keepT n) Y 8 [] h (nx + 5)).bind fun r1 =>
    (asSl r1.1).bind fun s2 =>
    ((callP Try.prog keepT n) Y 7 [(.slice x0a x0n x0c), (.int .i64 40), (.slice s2.1 s2.2.1 s2.2.2)] r1.2.1 r1.2.2).bind fun r3 =>
    (asSl r3.1).bind fun s4 =>
    ((callP Try.prog keepT n) Y 9 [(.int .i64 x1)] r3.2.1 (r3.2.2 + 3)).bind fun r5 =>
    (asStr r5.1).bind fun s6 =>
    ((callP Try.prog keepT n) Y 14 [(.slice x3a x3n x3c), (.int .i64 400)] r5.2.1 (r5.2.2 + 3)).bind fun r7 =>
    (asSl r7.1).bind fun s8 =>
    ((callP Try.prog keepT n) Y 15 [(.int .i64 x2), (.int .i64 (wrapA .i64 ((wrapA .i64 (1024 - ((s8.2.1 : Nat) : Int))) + 1)))] r7.2.1 (r7.2.2 + 7)).bind fun r9 =>
    (asI .i64 r9.1).bind fun n10 =>
    let h11 := AHeap.put r9.2.1 (r9.2.2 + 9) (some ⟨[(.int .i64 3), (.str s6), (.str (ByteArray.mk #[])), (.int .i64 0), (.int .i64 2000), (.int .i64 0), (.int .i64 0), (.slice none 0 none), (.int .i64 2), (.str s6), (.str (ByteArray.mk #[])), (.int .i64 n10), (.int .i64 0), (.int .i64 0), (.int .i64 0), (.slice s8.1 s8.2.1 s8.2.2), (.int .i64 3), (.str s6), (.str (ByteArray.mk #[])), (.int .i64 0), (.int .i64 2000), (.int .i64 0), (.int .i64 0), (.slice none 0 none)], 8, true⟩)
    (srcS h11 (some ((r9.2.2 + 9), 0)) 3 8).bind fun q12 =>
    (appD h11 s4.1 s4.2.1 s4.2.2 8 96 (r9.2.2 + 10) q12).bind fun e13 =>
    let h14 := AHeap.puts h11 e13.sets
    ((callP Try.prog keepT n) Y 11 [(.slice e13.a e13.n e13.c)] h14 (r9.2.2 + 19)).bind fun r15 =>
    (asTup 2 r15.1).bind fun d16 =>
    (asSl (d16.getD 0 .bad)).bind fun s17 =>
    (asB (d16.getD 1 .bad)).bind fun t18 =>
    if (!t18) = true then
    (some ((.bool false), r15.2.1, (r15.2.2 + 7)))
    else
    (((callP Try.prog keepT n) Y 12 [] r15.2.1 (r15.2.2 + 6)).bind fun r19 =>
    (asB r19.1).bind fun t20 =>
    if (!t20) = true then
    (some ((.bool false), r19.2.1, (r19.2.2 + 1)))
    else
    (F5_J1 (callP Try.prog keepT n) Y n s8.1 s8.2.1 s8.2.2 n10 s17.1 s17.2.1 s17.2.2 r19.2.1 r19.2.2)) := F5_eq' go1 n Y x0a x0n x0c x1 x2 x3a x3n x3c h nx

noncomputable def c6 : Code := (Try.f6.body).getD .skip

noncomputable def r6 : List ResultVar := Try.f6.results.toList

noncomputable def F6_J1' (W J : StepF (AV × AHeap × Nat) → StepF (AV × AHeap × Nat)) (call : YldF → CallF) (Y : YldF) (lf : Nat) (x3a : Option (Nat × Nat)) (x3n : Nat) (x3c : Option Nat) (x4a : Option (Nat × Nat)) (x4n : Nat) (x4c : Option Nat) (h : AHeap) (nx : Nat) : Option (AV × AHeap × Nat) :=
  goK W J drawK (machOf Try.prog) call Y (keepT 6) lf c6 [1, 1, 1, 1] [] (retK (machOf Try.prog) ⟨c6, 75, r6, keepT 6⟩) ⟨75, mkL [(3, (.slice x3a x3n x3c)), (4, (.slice x4a x4n x4c))]⟩ h nx

noncomputable def F6_J1 (call : YldF → CallF) (Y : YldF) (lf : Nat) (x3a : Option (Nat × Nat)) (x3n : Nat) (x3c : Option Nat) (x4a : Option (Nat × Nat)) (x4n : Nat) (x4c : Option Nat) (h : AHeap) (nx : Nat) : Option (AV × AHeap × Nat) := F6_J1' go1 go1 call Y lf x3a x3n x3c x4a x4n x4c h nx

noncomputable def F6_L2' (W J : StepF (AV × AHeap × Nat) → StepF (AV × AHeap × Nat)) (call : YldF → CallF) (Y : YldF) (lf : Nat) (n0 : Nat) (x3a : Option (Nat × Nat)) (x3n : Nat) (x3c : Option Nat) (x4a : Option (Nat × Nat)) (x4n : Nat) (x4c : Option Nat) (x6a : Option (Nat × Nat)) (x6n : Nat) (x6c : Option Nat) (x7a : Option (Nat × Nat)) (x7n : Nat) (x7c : Option Nat) (x8 : Int) (h : AHeap) (nx : Nat) : Option (AV × AHeap × Nat) :=
  goK W J drawK (machOf Try.prog) call Y (keepT 6) lf c6 [1, 1, 1, 1, 1, 1, 0, 1, 0, 9] [n0] (retK (machOf Try.prog) ⟨c6, 75, r6, keepT 6⟩) ⟨75, mkL [(3, (.slice x3a x3n x3c)), (4, (.slice x4a x4n x4c)), (6, (.slice x6a x6n x6c)), (7, (.slice x7a x7n x7c)), (8, (.int .i64 x8))]⟩ h nx

noncomputable def F6_L2 (call : YldF → CallF) (Y : YldF) (lf : Nat) (n0 : Nat) (x3a : Option (Nat × Nat)) (x3n : Nat) (x3c : Option Nat) (x4a : Option (Nat × Nat)) (x4n : Nat) (x4c : Option Nat) (x6a : Option (Nat × Nat)) (x6n : Nat) (x6c : Option Nat) (x7a : Option (Nat × Nat)) (x7n : Nat) (x7c : Option Nat) (x8 : Int) (h : AHeap) (nx : Nat) : Option (AV × AHeap × Nat) := F6_L2' go1 go1 call Y lf n0 x3a x3n x3c x4a x4n x4c x6a x6n x6c x7a x7n x7c x8 h nx

noncomputable def F6_L3' (W J : StepF (AV × AHeap × Nat) → StepF (AV × AHeap × Nat)) (call : YldF → CallF) (Y : YldF) (lf : Nat) (n0 : Nat) (x7a : Option (Nat × Nat)) (x7n : Nat) (x7c : Option Nat) (x9a : Option (Nat × Nat)) (x9n : Nat) (x9c : Option Nat) (x11 : Int) (h : AHeap) (nx : Nat) : Option (AV × AHeap × Nat) :=
  goK W J drawK (machOf Try.prog) call Y (keepT 6) lf c6 [1, 1, 1, 1, 1, 1, 1, 1, 1, 0, 1, 0, 9] [n0] (retK (machOf Try.prog) ⟨c6, 75, r6, keepT 6⟩) ⟨75, mkL [(7, (.slice x7a x7n x7c)), (9, (.slice x9a x9n x9c)), (11, (.int .i64 x11))]⟩ h nx

noncomputable def F6_L3 (call : YldF → CallF) (Y : YldF) (lf : Nat) (n0 : Nat) (x7a : Option (Nat × Nat)) (x7n : Nat) (x7c : Option Nat) (x9a : Option (Nat × Nat)) (x9n : Nat) (x9c : Option Nat) (x11 : Int) (h : AHeap) (nx : Nat) : Option (AV × AHeap × Nat) := F6_L3' go1 go1 call Y lf n0 x7a x7n x7c x9a x9n x9c x11 h nx

theorem F6_J1_eq' (J : StepF (AV × AHeap × Nat) → StepF (AV × AHeap × Nat)) (call : YldF → CallF) (Y : YldF) (lf : Nat) (x3a : Option (Nat × Nat)) (x3n : Nat) (x3c : Option Nat) (x4a : Option (Nat × Nat)) (x4n : Nat) (x4c : Option Nat) (h : AHeap) (nx : Nat) : F6_J1' go1 J call Y lf x3a x3n x3c x4a x4n x4c h nx =
    F6_L2' J J call Y lf lf x3a x3n x3c x4a x4n x4c none 0 none none 0 none 0 h (nx + 3) := by kernel_rfl

theorem F6_J1_eq (call : YldF → CallF) (Y : YldF) (lf : Nat) (x3a : Option (Nat × Nat)) (x3n : Nat) (x3c : Option Nat) (x4a : Option (Nat × Nat)) (x4n : Nat) (x4c : Option Nat) (h : AHeap) (nx : Nat) : F6_J1 call Y lf x3a x3n x3c x4a x4n x4c h nx =
    F6_L2 call Y lf lf x3a x3n x3c x4a x4n x4c none 0 none none 0 none 0 h (nx + 3) := F6_J1_eq' go1 call Y lf x3a x3n x3c x4a x4n x4c h nx

theorem F6_L2_eq' (J : StepF (AV × AHeap × Nat) → StepF (AV × AHeap × Nat)) (call : YldF → CallF) (Y : YldF) (lf : Nat) (n0 : Nat) (x3a : Option (Nat × Nat)) (x3n : Nat) (x3c : Option Nat) (x4a : Option (Nat × Nat)) (x4n : Nat) (x4c : Option Nat) (x6a : Option (Nat × Nat)) (x6n : Nat) (x6c : Option Nat) (x7a : Option (Nat × Nat)) (x7n : Nat) (x7c : Option Nat) (x8 : Int) (h : AHeap) (nx : Nat) : F6_L2' go1 J call Y lf (n0 + 1) x3a x3n x3c x4a x4n x4c x6a x6n x6c x7a x7n x7c x8 h nx =
    if (decide ((x8 : Int) < ((x3n : Nat) : Int))) = true then
    ((x4a).bind fun p1 =>
    if 0 ≤ (x8 : Int) ∧ x8 < ((x4n : Nat) : Int) then
    ((ldA h p1.1 (p1.2 + Int.toNat x8 * 5)).bind fun v2 =>
    (asI .i64 v2).bind fun n3 =>
    if ((n3 : Int) == 0) = true then
    ((x3a).bind fun p4 =>
    if 0 ≤ (x8 : Int) ∧ x8 < ((x3n : Nat) : Int) then
    ((ldR h p4.1 (p4.2 + Int.toNat x8 * 8) 8).bind fun l5 =>
    (asAgg 8 (AV.agg l5)).bind fun d6 =>
    (asI .i64 (d6.getD 0 .bad)).bind fun n7 =>
    (asStr (d6.getD 1 .bad)).bind fun s8 =>
    (asStr (d6.getD 2 .bad)).bind fun s9 =>
    (asI .i64 (d6.getD 3 .bad)).bind fun n10 =>
    (asI .i64 (d6.getD 4 .bad)).bind fun n11 =>
    (asI .i64 (d6.getD 5 .bad)).bind fun n12 =>
    (asI .i64 (d6.getD 6 .bad)).bind fun n13 =>
    (asSl (d6.getD 7 .bad)).bind fun s14 =>
    let h15 := AHeap.put h (nx + 15) (some ⟨[(.int .i64 n7), (.str s8), (.str s9), (.int .i64 n10), (.int .i64 n11), (.int .i64 n12), (.int .i64 n13), (.slice s14.1 s14.2.1 s14.2.2)], 8, true⟩)
    (srcS h15 (some ((nx + 15), 0)) 1 8).bind fun q16 =>
    (appD h15 x6a x6n x6c 8 96 (nx + 16) q16).bind fun e17 =>
    let h18 := AHeap.puts h15 e17.sets
    (x4a).bind fun p19 =>
    if 0 ≤ (x8 : Int) ∧ x8 < ((x4n : Nat) : Int) then
    ((ldR h18 p19.1 (p19.2 + Int.toNat x8 * 5) 5).bind fun l20 =>
    (asAgg 5 (AV.agg l20)).bind fun d21 =>
    (asI .i64 (d21.getD 0 .bad)).bind fun n22 =>
    (asB (d21.getD 1 .bad)).bind fun t23 =>
    (asI .i64 (d21.getD 2 .bad)).bind fun n24 =>
    (asSl (d21.getD 3 .bad)).bind fun s25 =>
    (asSl (d21.getD 4 .bad)).bind fun s26 =>
    let h27 := AHeap.put h18 (nx + 23) (some ⟨[(.int .i64 n22), (.bool t23), (.int .i64 n24), (.slice s25.1 s25.2.1 s25.2.2), (.slice s26.1 s26.2.1 s26.2.2)], 5, true⟩)
    (srcS h27 (some ((nx + 23), 0)) 1 5).bind fun q28 =>
    (appD h27 x7a x7n x7c 5 72 (nx + 24) q28).bind fun e29 =>
    let h30 := AHeap.puts h27 e29.sets
    F6_L2' J J call Y lf n0 x3a x3n x3c x4a x4n x4c e17.a e17.n e17.c e29.a e29.n e29.c (wrapA .i64 (x8 + 1)) h30 (nx + 29))
    else none)
    else none)
    else
    (F6_L2' J J call Y lf n0 x3a x3n x3c x4a x4n x4c x6a x6n x6c x7a x7n x7c (wrapA .i64 (x8 + 1)) h (nx + 13)))
    else none)
    else
    ((call Y 11 [(.slice x6a x6n x6c)] h (nx + 11)).bind fun r31 =>
    (asTup 2 r31.1).bind fun d32 =>
    (asSl (d32.getD 0 .bad)).bind fun s33 =>
    (asB (d32.getD 1 .bad)).bind fun t34 =>
    if (!t34) = true then
    (some ((.bool false), r31.2.1, (r31.2.2 + 3)))
    else
    (F6_L3' J J call Y lf lf x7a x7n x7c s33.1 s33.2.1 s33.2.2 0 r31.2.1 (r31.2.2 + 3))) := by kernel_rfl

theorem F6_L2_eq (call : YldF → CallF) (Y : YldF) (lf : Nat) (n0 : Nat) (x3a : Option (Nat × Nat)) (x3n : Nat) (x3c : Option Nat) (x4a : Option (Nat × Nat)) (x4n : Nat) (x4c : Option Nat) (x6a : Option (Nat × Nat)) (x6n : Nat) (x6c : Option Nat) (x7a : Option (Nat × Nat)) (x7n : Nat) (x7c : Option Nat) (x8 : Int) (h : AHeap) (nx : Nat) : F6_L2 call Y lf (n0 + 1) x3a x3n x3c x4a x4n x4c x6a x6n x6c x7a x7n x7c x8 h nx =
    if (decide ((x8 : Int) < ((x3n : Nat) : Int))) = true then
    ((x4a).bind fun p1 =>
    if 0 ≤ (x8 : Int) ∧ x8 < ((x4n : Nat) : Int) then
    ((ldA h p1.1 (p1.2 + Int.toNat x8 * 5)).bind fun v2 =>
    (asI .i64 v2).bind fun n3 =>
    if ((n3 : Int) == 0) = true then
    ((x3a).bind fun p4 =>
    if 0 ≤ (x8 : Int) ∧ x8 < ((x3n : Nat) : Int) then
    ((ldR h p4.1 (p4.2 + Int.toNat x8 * 8) 8).bind fun l5 =>
    (asAgg 8 (AV.agg l5)).bind fun d6 =>
    (asI .i64 (d6.getD 0 .bad)).bind fun n7 =>
    (asStr (d6.getD 1 .bad)).bind fun s8 =>
    (asStr (d6.getD 2 .bad)).bind fun s9 =>
    (asI .i64 (d6.getD 3 .bad)).bind fun n10 =>
    (asI .i64 (d6.getD 4 .bad)).bind fun n11 =>
    (asI .i64 (d6.getD 5 .bad)).bind fun n12 =>
    (asI .i64 (d6.getD 6 .bad)).bind fun n13 =>
    (asSl (d6.getD 7 .bad)).bind fun s14 =>
    let h15 := AHeap.put h (nx + 15) (some ⟨[(.int .i64 n7), (.str s8), (.str s9), (.int .i64 n10), (.int .i64 n11), (.int .i64 n12), (.int .i64 n13), (.slice s14.1 s14.2.1 s14.2.2)], 8, true⟩)
    (srcS h15 (some ((nx + 15), 0)) 1 8).bind fun q16 =>
    (appD h15 x6a x6n x6c 8 96 (nx + 16) q16).bind fun e17 =>
    let h18 := AHeap.puts h15 e17.sets
    (x4a).bind fun p19 =>
    if 0 ≤ (x8 : Int) ∧ x8 < ((x4n : Nat) : Int) then
    ((ldR h18 p19.1 (p19.2 + Int.toNat x8 * 5) 5).bind fun l20 =>
    (asAgg 5 (AV.agg l20)).bind fun d21 =>
    (asI .i64 (d21.getD 0 .bad)).bind fun n22 =>
    (asB (d21.getD 1 .bad)).bind fun t23 =>
    (asI .i64 (d21.getD 2 .bad)).bind fun n24 =>
    (asSl (d21.getD 3 .bad)).bind fun s25 =>
    (asSl (d21.getD 4 .bad)).bind fun s26 =>
    let h27 := AHeap.put h18 (nx + 23) (some ⟨[(.int .i64 n22), (.bool t23), (.int .i64 n24), (.slice s25.1 s25.2.1 s25.2.2), (.slice s26.1 s26.2.1 s26.2.2)], 5, true⟩)
    (srcS h27 (some ((nx + 23), 0)) 1 5).bind fun q28 =>
    (appD h27 x7a x7n x7c 5 72 (nx + 24) q28).bind fun e29 =>
    let h30 := AHeap.puts h27 e29.sets
    F6_L2 call Y lf n0 x3a x3n x3c x4a x4n x4c e17.a e17.n e17.c e29.a e29.n e29.c (wrapA .i64 (x8 + 1)) h30 (nx + 29))
    else none)
    else none)
    else
    (F6_L2 call Y lf n0 x3a x3n x3c x4a x4n x4c x6a x6n x6c x7a x7n x7c (wrapA .i64 (x8 + 1)) h (nx + 13)))
    else none)
    else
    ((call Y 11 [(.slice x6a x6n x6c)] h (nx + 11)).bind fun r31 =>
    (asTup 2 r31.1).bind fun d32 =>
    (asSl (d32.getD 0 .bad)).bind fun s33 =>
    (asB (d32.getD 1 .bad)).bind fun t34 =>
    if (!t34) = true then
    (some ((.bool false), r31.2.1, (r31.2.2 + 3)))
    else
    (F6_L3 call Y lf lf x7a x7n x7c s33.1 s33.2.1 s33.2.2 0 r31.2.1 (r31.2.2 + 3))) := F6_L2_eq' go1 call Y lf n0 x3a x3n x3c x4a x4n x4c x6a x6n x6c x7a x7n x7c x8 h nx

theorem F6_L2_zero (call : YldF → CallF) (Y : YldF) (lf : Nat) (x3a : Option (Nat × Nat)) (x3n : Nat) (x3c : Option Nat) (x4a : Option (Nat × Nat)) (x4n : Nat) (x4c : Option Nat) (x6a : Option (Nat × Nat)) (x6n : Nat) (x6c : Option Nat) (x7a : Option (Nat × Nat)) (x7n : Nat) (x7c : Option Nat) (x8 : Int) (h : AHeap) (nx : Nat) : F6_L2 call Y lf 0 x3a x3n x3c x4a x4n x4c x6a x6n x6c x7a x7n x7c x8 h nx = none := by kernel_rfl

theorem F6_L3_eq' (J : StepF (AV × AHeap × Nat) → StepF (AV × AHeap × Nat)) (call : YldF → CallF) (Y : YldF) (lf : Nat) (n0 : Nat) (x7a : Option (Nat × Nat)) (x7n : Nat) (x7c : Option Nat) (x9a : Option (Nat × Nat)) (x9n : Nat) (x9c : Option Nat) (x11 : Int) (h : AHeap) (nx : Nat) : F6_L3' go1 J call Y lf (n0 + 1) x7a x7n x7c x9a x9n x9c x11 h nx =
    if (decide ((x11 : Int) < ((x9n : Nat) : Int))) = true then
    ((x9a).bind fun p1 =>
    if 0 ≤ (x11 : Int) ∧ x11 < ((x9n : Nat) : Int) then
    ((ldR h p1.1 (p1.2 + Int.toNat x11 * 5) 5).bind fun l2 =>
    (asAgg 5 (AV.agg l2)).bind fun d3 =>
    (asI .i64 (d3.getD 0 .bad)).bind fun n4 =>
    (asB (d3.getD 1 .bad)).bind fun t5 =>
    (asI .i64 (d3.getD 2 .bad)).bind fun n6 =>
    (asSl (d3.getD 3 .bad)).bind fun s7 =>
    (asSl (d3.getD 4 .bad)).bind fun s8 =>
    (x7a).bind fun p9 =>
    if 0 ≤ (x11 : Int) ∧ x11 < ((x7n : Nat) : Int) then
    ((ldR h p9.1 (p9.2 + Int.toNat x11 * 5) 5).bind fun l10 =>
    (asAgg 5 (AV.agg l10)).bind fun d11 =>
    (asI .i64 (d11.getD 0 .bad)).bind fun n12 =>
    (asB (d11.getD 1 .bad)).bind fun t13 =>
    (asI .i64 (d11.getD 2 .bad)).bind fun n14 =>
    (asSl (d11.getD 3 .bad)).bind fun s15 =>
    (asSl (d11.getD 4 .bad)).bind fun s16 =>
    (call Y 13 [(.agg [(.int .i64 n4), (.bool t5), (.int .i64 n6), (.slice s7.1 s7.2.1 s7.2.2), (.slice s8.1 s8.2.1 s8.2.2)]), (.agg [(.int .i64 n12), (.bool t13), (.int .i64 n14), (.slice s15.1 s15.2.1 s15.2.2), (.slice s16.1 s16.2.1 s16.2.2)])] h (nx + 14)).bind fun r17 =>
    (asB r17.1).bind fun t18 =>
    if (!t18) = true then
    (some ((.bool false), r17.2.1, (r17.2.2 + 1)))
    else
    (F6_L3' J J call Y lf n0 x7a x7n x7c x9a x9n x9c (wrapA .i64 (x11 + 1)) r17.2.1 (r17.2.2 + 3)))
    else none)
    else none)
    else
    (some ((.bool true), h, (nx + 5))) := by kernel_rfl

theorem F6_L3_eq (call : YldF → CallF) (Y : YldF) (lf : Nat) (n0 : Nat) (x7a : Option (Nat × Nat)) (x7n : Nat) (x7c : Option Nat) (x9a : Option (Nat × Nat)) (x9n : Nat) (x9c : Option Nat) (x11 : Int) (h : AHeap) (nx : Nat) : F6_L3 call Y lf (n0 + 1) x7a x7n x7c x9a x9n x9c x11 h nx =
    if (decide ((x11 : Int) < ((x9n : Nat) : Int))) = true then
    ((x9a).bind fun p1 =>
    if 0 ≤ (x11 : Int) ∧ x11 < ((x9n : Nat) : Int) then
    ((ldR h p1.1 (p1.2 + Int.toNat x11 * 5) 5).bind fun l2 =>
    (asAgg 5 (AV.agg l2)).bind fun d3 =>
    (asI .i64 (d3.getD 0 .bad)).bind fun n4 =>
    (asB (d3.getD 1 .bad)).bind fun t5 =>
    (asI .i64 (d3.getD 2 .bad)).bind fun n6 =>
    (asSl (d3.getD 3 .bad)).bind fun s7 =>
    (asSl (d3.getD 4 .bad)).bind fun s8 =>
    (x7a).bind fun p9 =>
    if 0 ≤ (x11 : Int) ∧ x11 < ((x7n : Nat) : Int) then
    ((ldR h p9.1 (p9.2 + Int.toNat x11 * 5) 5).bind fun l10 =>
    (asAgg 5 (AV.agg l10)).bind fun d11 =>
    (asI .i64 (d11.getD 0 .bad)).bind fun n12 =>
    (asB (d11.getD 1 .bad)).bind fun t13 =>
    (asI .i64 (d11.getD 2 .bad)).bind fun n14 =>
    (asSl (d11.getD 3 .bad)).bind fun s15 =>
    (asSl (d11.getD 4 .bad)).bind fun s16 =>
    (call Y 13 [(.agg [(.int .i64 n4), (.bool t5), (.int .i64 n6), (.slice s7.1 s7.2.1 s7.2.2), (.slice s8.1 s8.2.1 s8.2.2)]), (.agg [(.int .i64 n12), (.bool t13), (.int .i64 n14), (.slice s15.1 s15.2.1 s15.2.2), (.slice s16.1 s16.2.1 s16.2.2)])] h (nx + 14)).bind fun r17 =>
    (asB r17.1).bind fun t18 =>
    if (!t18) = true then
    (some ((.bool false), r17.2.1, (r17.2.2 + 1)))
    else
    (F6_L3 call Y lf n0 x7a x7n x7c x9a x9n x9c (wrapA .i64 (x11 + 1)) r17.2.1 (r17.2.2 + 3)))
    else none)
    else none)
    else
    (some ((.bool true), h, (nx + 5))) := F6_L3_eq' go1 call Y lf n0 x7a x7n x7c x9a x9n x9c x11 h nx

theorem F6_L3_zero (call : YldF → CallF) (Y : YldF) (lf : Nat) (x7a : Option (Nat × Nat)) (x7n : Nat) (x7c : Option Nat) (x9a : Option (Nat × Nat)) (x9n : Nat) (x9c : Option Nat) (x11 : Int) (h : AHeap) (nx : Nat) : F6_L3 call Y lf 0 x7a x7n x7c x9a x9n x9c x11 h nx = none := by kernel_rfl

theorem F6_eq' (J : StepF (AV × AHeap × Nat) → StepF (AV × AHeap × Nat)) (n : Nat) (Y : YldF) (x0a : Option (Nat × Nat)) (x0n : Nat) (x0c : Option Nat) (h : AHeap) (nx : Nat) : rootJ J Try.prog keepT (callP Try.prog keepT n) Y n 6 [(.slice x0a x0n x0c)] h nx =
    ((callP Try.prog keepT n) Y 8 [] h (nx + 5)).bind fun r1 =>
    (asSl r1.1).bind fun s2 =>
    ((callP Try.prog keepT n) Y 7 [(.slice x0a x0n x0c), (.int .i64 80), (.slice s2.1 s2.2.1 s2.2.2)] r1.2.1 r1.2.2).bind fun r3 =>
    (asSl r3.1).bind fun s4 =>
    ((callP Try.prog keepT n) Y 11 [(.slice s4.1 s4.2.1 s4.2.2)] r3.2.1 (r3.2.2 + 7)).bind fun r5 =>
    (asTup 2 r5.1).bind fun d6 =>
    (asSl (d6.getD 0 .bad)).bind fun s7 =>
    (asB (d6.getD 1 .bad)).bind fun t8 =>
    if (!t8) = true then
    (some ((.bool false), r5.2.1, (r5.2.2 + 7)))
    else
    (((callP Try.prog keepT n) Y 12 [] r5.2.1 (r5.2.2 + 6)).bind fun r9 =>
    (asB r9.1).bind fun t10 =>
    if (!t10) = true then
    (some ((.bool false), r9.2.1, (r9.2.2 + 1)))
    else
    (F6_J1' J J (callP Try.prog keepT n) Y n s4.1 s4.2.1 s4.2.2 s7.1 s7.2.1 s7.2.2 r9.2.1 r9.2.2)) := by kernel_rfl

/-- quickset/quicksetkeep.PoolRefused -/
theorem F6_eq (n : Nat) (Y : YldF) (x0a : Option (Nat × Nat)) (x0n : Nat) (x0c : Option Nat) (h : AHeap) (nx : Nat) : callP Try.prog keepT (n + 1) Y 6 [(.slice x0a x0n x0c)] h nx =
    ((callP Try.prog keepT n) Y 8 [] h (nx + 5)).bind fun r1 =>
    (asSl r1.1).bind fun s2 =>
    ((callP Try.prog keepT n) Y 7 [(.slice x0a x0n x0c), (.int .i64 80), (.slice s2.1 s2.2.1 s2.2.2)] r1.2.1 r1.2.2).bind fun r3 =>
    (asSl r3.1).bind fun s4 =>
    ((callP Try.prog keepT n) Y 11 [(.slice s4.1 s4.2.1 s4.2.2)] r3.2.1 (r3.2.2 + 7)).bind fun r5 =>
    (asTup 2 r5.1).bind fun d6 =>
    (asSl (d6.getD 0 .bad)).bind fun s7 =>
    (asB (d6.getD 1 .bad)).bind fun t8 =>
    if (!t8) = true then
    (some ((.bool false), r5.2.1, (r5.2.2 + 7)))
    else
    (((callP Try.prog keepT n) Y 12 [] r5.2.1 (r5.2.2 + 6)).bind fun r9 =>
    (asB r9.1).bind fun t10 =>
    if (!t10) = true then
    (some ((.bool false), r9.2.1, (r9.2.2 + 1)))
    else
    (F6_J1 (callP Try.prog keepT n) Y n s4.1 s4.2.1 s4.2.2 s7.1 s7.2.1 s7.2.2 r9.2.1 r9.2.2)) := F6_eq' go1 n Y x0a x0n x0c h nx

noncomputable def c7 : Code := (Try.f7.body).getD .skip

noncomputable def r7 : List ResultVar := Try.f7.results.toList

noncomputable def F7_L1' (W J : StepF (AV × AHeap × Nat) → StepF (AV × AHeap × Nat)) (call : YldF → CallF) (Y : YldF) (lf : Nat) (n0 : Nat) (x0a : Option (Nat × Nat)) (x0n : Nat) (x0c : Option Nat) (x1 : Int) (x2a : Option (Nat × Nat)) (x2n : Nat) (x2c : Option Nat) (x7a : Option (Nat × Nat)) (x7n : Nat) (x7c : Option Nat) (x8 : Int) (h : AHeap) (nx : Nat) : Option (AV × AHeap × Nat) :=
  goK W J drawK (machOf Try.prog) call Y (keepT 7) lf c7 [1, 1, 0, 1, 0, 9] [n0] (retK (machOf Try.prog) ⟨c7, 30, r7, keepT 7⟩) ⟨30, mkL [(0, (.slice x0a x0n x0c)), (1, (.int .i64 x1)), (2, (.slice x2a x2n x2c)), (7, (.slice x7a x7n x7c)), (8, (.int .i64 x8))]⟩ h nx

noncomputable def F7_L1 (call : YldF → CallF) (Y : YldF) (lf : Nat) (n0 : Nat) (x0a : Option (Nat × Nat)) (x0n : Nat) (x0c : Option Nat) (x1 : Int) (x2a : Option (Nat × Nat)) (x2n : Nat) (x2c : Option Nat) (x7a : Option (Nat × Nat)) (x7n : Nat) (x7c : Option Nat) (x8 : Int) (h : AHeap) (nx : Nat) : Option (AV × AHeap × Nat) := F7_L1' go1 go1 call Y lf n0 x0a x0n x0c x1 x2a x2n x2c x7a x7n x7c x8 h nx

noncomputable def F7_J2' (W J : StepF (AV × AHeap × Nat) → StepF (AV × AHeap × Nat)) (call : YldF → CallF) (Y : YldF) (lf : Nat) (n0 : Nat) (x0a : Option (Nat × Nat)) (x0n : Nat) (x0c : Option Nat) (x1 : Int) (x2a : Option (Nat × Nat)) (x2n : Nat) (x2c : Option Nat) (x7a : Option (Nat × Nat)) (x7n : Nat) (x7c : Option Nat) (x8 : Int) (h : AHeap) (nx : Nat) : Option (AV × AHeap × Nat) :=
  goK W J drawK (machOf Try.prog) call Y (keepT 7) lf c7 [1, 1, 0, 1, 0, 0, 1] [n0] (retK (machOf Try.prog) ⟨c7, 30, r7, keepT 7⟩) ⟨30, mkL [(0, (.slice x0a x0n x0c)), (1, (.int .i64 x1)), (2, (.slice x2a x2n x2c)), (7, (.slice x7a x7n x7c)), (8, (.int .i64 x8))]⟩ h nx

noncomputable def F7_J2 (call : YldF → CallF) (Y : YldF) (lf : Nat) (n0 : Nat) (x0a : Option (Nat × Nat)) (x0n : Nat) (x0c : Option Nat) (x1 : Int) (x2a : Option (Nat × Nat)) (x2n : Nat) (x2c : Option Nat) (x7a : Option (Nat × Nat)) (x7n : Nat) (x7c : Option Nat) (x8 : Int) (h : AHeap) (nx : Nat) : Option (AV × AHeap × Nat) := F7_J2' go1 go1 call Y lf n0 x0a x0n x0c x1 x2a x2n x2c x7a x7n x7c x8 h nx

theorem F7_L1_eq' (J : StepF (AV × AHeap × Nat) → StepF (AV × AHeap × Nat)) (call : YldF → CallF) (Y : YldF) (lf : Nat) (n0 : Nat) (x0a : Option (Nat × Nat)) (x0n : Nat) (x0c : Option Nat) (x1 : Int) (x2a : Option (Nat × Nat)) (x2n : Nat) (x2c : Option Nat) (x7a : Option (Nat × Nat)) (x7n : Nat) (x7c : Option Nat) (x8 : Int) (h : AHeap) (nx : Nat) : F7_L1' go1 J call Y lf (n0 + 1) x0a x0n x0c x1 x2a x2n x2c x7a x7n x7c x8 h nx =
    if (decide ((x8 : Int) < ((x0n : Nat) : Int))) = true then
    (if (decide ((x8 : Int) < x1)) = true then
    (F7_J2' J J call Y lf n0 x0a x0n x0c x1 x2a x2n x2c x7a x7n x7c x8 h (nx + 9))
    else
    (some ((.slice x7a x7n x7c), h, (nx + 11))))
    else
    (some ((.slice x7a x7n x7c), h, (nx + 11))) := by kernel_rfl

theorem F7_L1_eq (call : YldF → CallF) (Y : YldF) (lf : Nat) (n0 : Nat) (x0a : Option (Nat × Nat)) (x0n : Nat) (x0c : Option Nat) (x1 : Int) (x2a : Option (Nat × Nat)) (x2n : Nat) (x2c : Option Nat) (x7a : Option (Nat × Nat)) (x7n : Nat) (x7c : Option Nat) (x8 : Int) (h : AHeap) (nx : Nat) : F7_L1 call Y lf (n0 + 1) x0a x0n x0c x1 x2a x2n x2c x7a x7n x7c x8 h nx =
    if (decide ((x8 : Int) < ((x0n : Nat) : Int))) = true then
    (if (decide ((x8 : Int) < x1)) = true then
    (F7_J2 call Y lf n0 x0a x0n x0c x1 x2a x2n x2c x7a x7n x7c x8 h (nx + 9))
    else
    (some ((.slice x7a x7n x7c), h, (nx + 11))))
    else
    (some ((.slice x7a x7n x7c), h, (nx + 11))) := F7_L1_eq' go1 call Y lf n0 x0a x0n x0c x1 x2a x2n x2c x7a x7n x7c x8 h nx

theorem F7_L1_zero (call : YldF → CallF) (Y : YldF) (lf : Nat) (x0a : Option (Nat × Nat)) (x0n : Nat) (x0c : Option Nat) (x1 : Int) (x2a : Option (Nat × Nat)) (x2n : Nat) (x2c : Option Nat) (x7a : Option (Nat × Nat)) (x7n : Nat) (x7c : Option Nat) (x8 : Int) (h : AHeap) (nx : Nat) : F7_L1 call Y lf 0 x0a x0n x0c x1 x2a x2n x2c x7a x7n x7c x8 h nx = none := by kernel_rfl

theorem F7_J2_eq' (J : StepF (AV × AHeap × Nat) → StepF (AV × AHeap × Nat)) (call : YldF → CallF) (Y : YldF) (lf : Nat) (n0 : Nat) (x0a : Option (Nat × Nat)) (x0n : Nat) (x0c : Option Nat) (x1 : Int) (x2a : Option (Nat × Nat)) (x2n : Nat) (x2c : Option Nat) (x7a : Option (Nat × Nat)) (x7n : Nat) (x7c : Option Nat) (x8 : Int) (h : AHeap) (nx : Nat) : F7_J2' go1 J call Y lf n0 x0a x0n x0c x1 x2a x2n x2c x7a x7n x7c x8 h nx =
    (x0a).bind fun p1 =>
    if 0 ≤ (x8 : Int) ∧ x8 < ((x0n : Nat) : Int) then
    ((ldR h p1.1 (p1.2 + Int.toNat x8 * 6) 6).bind fun l2 =>
    (asAgg 6 (AV.agg l2)).bind fun d3 =>
    (asI .i64 (d3.getD 0 .bad)).bind fun n4 =>
    (asI .i64 (d3.getD 1 .bad)).bind fun n5 =>
    (asI .i64 (d3.getD 2 .bad)).bind fun n6 =>
    (asI .i64 (d3.getD 3 .bad)).bind fun n7 =>
    (asI .i64 (d3.getD 4 .bad)).bind fun n8 =>
    (asSl (d3.getD 5 .bad)).bind fun s9 =>
    (call Y 10 [(.agg [(.int .i64 n4), (.int .i64 n5), (.int .i64 n6), (.int .i64 n7), (.int .i64 n8), (.slice s9.1 s9.2.1 s9.2.2)]), (.slice x2a x2n x2c)] h (nx + 10)).bind fun r10 =>
    (asAgg 8 r10.1).bind fun d11 =>
    (asI .i64 (d11.getD 0 .bad)).bind fun n12 =>
    (asStr (d11.getD 1 .bad)).bind fun s13 =>
    (asStr (d11.getD 2 .bad)).bind fun s14 =>
    (asI .i64 (d11.getD 3 .bad)).bind fun n15 =>
    (asI .i64 (d11.getD 4 .bad)).bind fun n16 =>
    (asI .i64 (d11.getD 5 .bad)).bind fun n17 =>
    (asI .i64 (d11.getD 6 .bad)).bind fun n18 =>
    (asSl (d11.getD 7 .bad)).bind fun s19 =>
    let h20 := AHeap.put r10.2.1 (nx + 7) (some ⟨[(.int .i64 n12), (.str s13), (.str s14), (.int .i64 n15), (.int .i64 n16), (.int .i64 n17), (.int .i64 n18), (.slice s19.1 s19.2.1 s19.2.2)], 8, true⟩)
    (srcS h20 (some ((nx + 7), 0)) 1 8).bind fun q21 =>
    (appD h20 x7a x7n x7c 8 96 (nx + 8) q21).bind fun e22 =>
    let h23 := AHeap.puts h20 e22.sets
    F7_L1' J J call Y lf n0 x0a x0n x0c x1 x2a x2n x2c e22.a e22.n e22.c (wrapA .i64 (x8 + 1)) h23 (r10.2.2 + 3))
    else none := by kernel_rfl

theorem F7_J2_eq (call : YldF → CallF) (Y : YldF) (lf : Nat) (n0 : Nat) (x0a : Option (Nat × Nat)) (x0n : Nat) (x0c : Option Nat) (x1 : Int) (x2a : Option (Nat × Nat)) (x2n : Nat) (x2c : Option Nat) (x7a : Option (Nat × Nat)) (x7n : Nat) (x7c : Option Nat) (x8 : Int) (h : AHeap) (nx : Nat) : F7_J2 call Y lf n0 x0a x0n x0c x1 x2a x2n x2c x7a x7n x7c x8 h nx =
    (x0a).bind fun p1 =>
    if 0 ≤ (x8 : Int) ∧ x8 < ((x0n : Nat) : Int) then
    ((ldR h p1.1 (p1.2 + Int.toNat x8 * 6) 6).bind fun l2 =>
    (asAgg 6 (AV.agg l2)).bind fun d3 =>
    (asI .i64 (d3.getD 0 .bad)).bind fun n4 =>
    (asI .i64 (d3.getD 1 .bad)).bind fun n5 =>
    (asI .i64 (d3.getD 2 .bad)).bind fun n6 =>
    (asI .i64 (d3.getD 3 .bad)).bind fun n7 =>
    (asI .i64 (d3.getD 4 .bad)).bind fun n8 =>
    (asSl (d3.getD 5 .bad)).bind fun s9 =>
    (call Y 10 [(.agg [(.int .i64 n4), (.int .i64 n5), (.int .i64 n6), (.int .i64 n7), (.int .i64 n8), (.slice s9.1 s9.2.1 s9.2.2)]), (.slice x2a x2n x2c)] h (nx + 10)).bind fun r10 =>
    (asAgg 8 r10.1).bind fun d11 =>
    (asI .i64 (d11.getD 0 .bad)).bind fun n12 =>
    (asStr (d11.getD 1 .bad)).bind fun s13 =>
    (asStr (d11.getD 2 .bad)).bind fun s14 =>
    (asI .i64 (d11.getD 3 .bad)).bind fun n15 =>
    (asI .i64 (d11.getD 4 .bad)).bind fun n16 =>
    (asI .i64 (d11.getD 5 .bad)).bind fun n17 =>
    (asI .i64 (d11.getD 6 .bad)).bind fun n18 =>
    (asSl (d11.getD 7 .bad)).bind fun s19 =>
    let h20 := AHeap.put r10.2.1 (nx + 7) (some ⟨[(.int .i64 n12), (.str s13), (.str s14), (.int .i64 n15), (.int .i64 n16), (.int .i64 n17), (.int .i64 n18), (.slice s19.1 s19.2.1 s19.2.2)], 8, true⟩)
    (srcS h20 (some ((nx + 7), 0)) 1 8).bind fun q21 =>
    (appD h20 x7a x7n x7c 8 96 (nx + 8) q21).bind fun e22 =>
    let h23 := AHeap.puts h20 e22.sets
    F7_L1 call Y lf n0 x0a x0n x0c x1 x2a x2n x2c e22.a e22.n e22.c (wrapA .i64 (x8 + 1)) h23 (r10.2.2 + 3))
    else none := F7_J2_eq' go1 call Y lf n0 x0a x0n x0c x1 x2a x2n x2c x7a x7n x7c x8 h nx

theorem F7_eq' (J : StepF (AV × AHeap × Nat) → StepF (AV × AHeap × Nat)) (n : Nat) (Y : YldF) (x0a : Option (Nat × Nat)) (x0n : Nat) (x0c : Option Nat) (x1 : Int) (x2a : Option (Nat × Nat)) (x2n : Nat) (x2c : Option Nat) (h : AHeap) (nx : Nat) : rootJ J Try.prog keepT (callP Try.prog keepT n) Y n 7 [(.slice x0a x0n x0c), (.int .i64 x1), (.slice x2a x2n x2c)] h nx =
    F7_L1' J J (callP Try.prog keepT n) Y n n x0a x0n x0c x1 x2a x2n x2c none 0 none 0 h (nx + 3) := by kernel_rfl

/-- quickset/quicksetkeep.Commands -/
theorem F7_eq (n : Nat) (Y : YldF) (x0a : Option (Nat × Nat)) (x0n : Nat) (x0c : Option Nat) (x1 : Int) (x2a : Option (Nat × Nat)) (x2n : Nat) (x2c : Option Nat) (h : AHeap) (nx : Nat) : callP Try.prog keepT (n + 1) Y 7 [(.slice x0a x0n x0c), (.int .i64 x1), (.slice x2a x2n x2c)] h nx =
    F7_L1 (callP Try.prog keepT n) Y n n x0a x0n x0c x1 x2a x2n x2c none 0 none 0 h (nx + 3) := F7_eq' go1 n Y x0a x0n x0c x1 x2a x2n x2c h nx

noncomputable def c8 : Code := (Try.f8.body).getD .skip

noncomputable def r8 : List ResultVar := Try.f8.results.toList

theorem F8_eq' (J : StepF (AV × AHeap × Nat) → StepF (AV × AHeap × Nat)) (n : Nat) (Y : YldF) (h : AHeap) (nx : Nat) : rootJ J Try.prog keepT (callP Try.prog keepT n) Y n 8 [] h nx =
    let h1 := AHeap.put h (nx + 1) (some ⟨[(.int .i64 1), (.int .i64 2), (.int .i64 3), (.int .i64 4), (.int .i64 5), (.int .i64 6), (.int .i64 7), (.int .i64 8), (.int .i64 9), (.int .i64 10), (.int .i64 11), (.int .i64 12), (.int .i64 1), (.int .i64 2), (.int .i64 2), (.int .i64 2), (.int .i64 3), (.int .i64 8), (.int .i64 4), (.int .i64 4), (.int .i64 2), (.int .i64 3)], 1, true⟩)
    some ((.slice (some ((nx + 1), 0)) 22 (some 22)), h1, (nx + 3)) := by kernel_rfl

/-- quickset/quicksetkeep.OwnKinds -/
theorem F8_eq (n : Nat) (Y : YldF) (h : AHeap) (nx : Nat) : callP Try.prog keepT (n + 1) Y 8 [] h nx =
    let h1 := AHeap.put h (nx + 1) (some ⟨[(.int .i64 1), (.int .i64 2), (.int .i64 3), (.int .i64 4), (.int .i64 5), (.int .i64 6), (.int .i64 7), (.int .i64 8), (.int .i64 9), (.int .i64 10), (.int .i64 11), (.int .i64 12), (.int .i64 1), (.int .i64 2), (.int .i64 2), (.int .i64 2), (.int .i64 3), (.int .i64 8), (.int .i64 4), (.int .i64 4), (.int .i64 2), (.int .i64 3)], 1, true⟩)
    some ((.slice (some ((nx + 1), 0)) 22 (some 22)), h1, (nx + 3)) := F8_eq' go1 n Y h nx

noncomputable def c9 : Code := (Try.f9.body).getD .skip

noncomputable def r9 : List ResultVar := Try.f9.results.toList

theorem F9_eq' (J : StepF (AV × AHeap × Nat) → StepF (AV × AHeap × Nat)) (n : Nat) (Y : YldF) (x0 : Int) (h : AHeap) (nx : Nat) : rootJ J Try.prog keepT (callP Try.prog keepT n) Y n 9 [(.int .i64 x0)] h nx =
    let h1 := AHeap.put h (nx + 1) (some ⟨[(.str (ByteArray.mk #[97])), (.str (ByteArray.mk #[98])), (.str (ByteArray.mk #[99, 51])), (.str (ByteArray.mk #[122, 122])), (.str (ByteArray.mk #[101]))], 1, true⟩)
    ((callP Try.prog keepT n) Y 15 [(.int .i64 x0), (.int .i64 5)] h1 (nx + 7)).bind fun r2 =>
    (asI .i64 r2.1).bind fun n3 =>
    if 0 ≤ (n3 : Int) ∧ n3 < ((5 : Nat) : Int) then
    ((ldA r2.2.1 (nx + 1) (0 + Int.toNat n3 * 1)).bind fun v4 =>
    (asStr v4).bind fun s5 =>
    some ((.str s5), r2.2.1, r2.2.2))
    else none := by kernel_rfl

/-- quickset/quicksetkeep.objectName -/
theorem F9_eq (n : Nat) (Y : YldF) (x0 : Int) (h : AHeap) (nx : Nat) : callP Try.prog keepT (n + 1) Y 9 [(.int .i64 x0)] h nx =
    let h1 := AHeap.put h (nx + 1) (some ⟨[(.str (ByteArray.mk #[97])), (.str (ByteArray.mk #[98])), (.str (ByteArray.mk #[99, 51])), (.str (ByteArray.mk #[122, 122])), (.str (ByteArray.mk #[101]))], 1, true⟩)
    ((callP Try.prog keepT n) Y 15 [(.int .i64 x0), (.int .i64 5)] h1 (nx + 7)).bind fun r2 =>
    (asI .i64 r2.1).bind fun n3 =>
    if 0 ≤ (n3 : Int) ∧ n3 < ((5 : Nat) : Int) then
    ((ldA r2.2.1 (nx + 1) (0 + Int.toNat n3 * 1)).bind fun v4 =>
    (asStr v4).bind fun s5 =>
    some ((.str s5), r2.2.1, r2.2.2))
    else none := F9_eq' go1 n Y x0 h nx

noncomputable def c10 : Code := (Try.f10.body).getD .skip

noncomputable def r10 : List ResultVar := Try.f10.results.toList

theorem F10_eq' (J : StepF (AV × AHeap × Nat) → StepF (AV × AHeap × Nat)) (n : Nat) (Y : YldF) (x0_0 : Int) (x0_1 : Int) (x0_2 : Int) (x0_3 : Int) (x0_4 : Int) (x0_5a : Option (Nat × Nat)) (x0_5n : Nat) (x0_5c : Option Nat) (x1a : Option (Nat × Nat)) (x1n : Nat) (x1c : Option Nat) (h : AHeap) (nx : Nat) : rootJ J Try.prog keepT (callP Try.prog keepT n) Y n 10 [(.agg [(.int .i64 x0_0), (.int .i64 x0_1), (.int .i64 x0_2), (.int .i64 x0_3), (.int .i64 x0_4), (.slice x0_5a x0_5n x0_5c)]), (.slice x1a x1n x1c)] h nx =
    let h1 := AHeap.put h nx (some ⟨[(.int .i64 x0_0), (.int .i64 x0_1), (.int .i64 x0_2), (.int .i64 x0_3), (.int .i64 x0_4), (.slice x0_5a x0_5n x0_5c)], 6, true⟩)
    let h2 := AHeap.put h1 (nx + 1) (some ⟨[(.int .i64 0), (.str (ByteArray.mk #[])), (.str (ByteArray.mk #[])), (.int .i64 0), (.int .i64 0), (.int .i64 0), (.int .i64 0), (.slice none 0 none)], 8, true⟩)
    (ldA h2 nx 0).bind fun v3 =>
    (asI .i64 v3).bind fun n4 =>
    ((callP Try.prog keepT n) Y 15 [(.int .i64 n4), (.int .i64 ((x1n : Nat) : Int))] h2 (nx + 25)).bind fun r5 =>
    (asI .i64 r5.1).bind fun n6 =>
    (x1a).bind fun p7 =>
    if 0 ≤ (n6 : Int) ∧ n6 < ((x1n : Nat) : Int) then
    ((ldA r5.2.1 p7.1 (p7.2 + Int.toNat n6 * 1)).bind fun v8 =>
    (asI .i64 v8).bind fun n9 =>
    (ldA r5.2.1 nx 1).bind fun v10 =>
    (asI .i64 v10).bind fun n11 =>
    ((callP Try.prog keepT n) Y 9 [(.int .i64 n11)] r5.2.1 r5.2.2).bind fun r12 =>
    (asStr r12.1).bind fun s13 =>
    (ldA r12.2.1 nx 2).bind fun v14 =>
    (asI .i64 v14).bind fun n15 =>
    ((callP Try.prog keepT n) Y 16 [(.int .i64 n15)] r12.2.1 r12.2.2).bind fun r16 =>
    (asStr r16.1).bind fun s17 =>
    (ldA r16.2.1 nx 3).bind fun v18 =>
    (asI .i64 v18).bind fun n19 =>
    ((callP Try.prog keepT n) Y 15 [(.int .i64 n19), (.int .i64 1100)] r16.2.1 r16.2.2).bind fun r20 =>
    (asI .i64 r20.1).bind fun n21 =>
    (ldA r20.2.1 nx 4).bind fun v22 =>
    (asI .i64 v22).bind fun n23 =>
    ((callP Try.prog keepT n) Y 15 [(.int .i64 n23), (.int .i64 1100)] r20.2.1 r20.2.2).bind fun r24 =>
    (asI .i64 r24.1).bind fun n25 =>
    let h26 := AHeap.put r24.2.1 (nx + 23) (some ⟨[(.int .i64 0), (.str (ByteArray.mk #[])), (.str (ByteArray.mk #[])), (.int .i64 0), (.int .i64 0), (.int .i64 0), (.int .i64 0), (.slice none 0 none)], 8, true⟩)
    (stA h26 (nx + 23) 0 (.agg [(.int .i64 n9), (.str s13), (.str s17), (.int .i64 n21), (.int .i64 n25), (.int .i64 0), (.int .i64 0), (.slice none 0 none)]) 8).bind fun b27 =>
    let h28 := AHeap.put h26 (nx + 23) (some b27)
    ifApart [([(nx + 23)], [nx]), ([(nx + 23)], []), ([(nx + 23)], [p7.1]), ([(nx + 23)], [nx]), ([(nx + 23)], [nx]), ([(nx + 23)], [nx]), ([(nx + 23)], [nx])]
    (ifKept [(h2, r5.2.1, [nx]), (h2, r5.2.1, [nx]), (h2, r5.2.1, [nx]), (h2, r5.2.1, [nx]), (r5.2.1, r12.2.1, [p7.1]), (r12.2.1, r16.2.1, [p7.1]), (r16.2.1, r20.2.1, [p7.1]), (r20.2.1, r24.2.1, [p7.1]), (r5.2.1, r12.2.1, [nx]), (r5.2.1, r12.2.1, [nx]), (r5.2.1, r12.2.1, [nx]), (r12.2.1, r16.2.1, [nx]), (r12.2.1, r16.2.1, [nx]), (r16.2.1, r20.2.1, [nx])]
    (ifRob (callC ((callP Try.prog keepT n) Y) Y) [⟨(.fn 15), [(.int .i64 n4), (.int .i64 ((x1n : Nat) : Int))], (.int .i64 n6), h2, r5.2.1, (nx + 25), r5.2.2, [(nx + 23)]⟩, ⟨(.fn 9), [(.int .i64 n11)], (.str s13), r5.2.1, r12.2.1, r5.2.2, r12.2.2, [(nx + 23)]⟩, ⟨(.fn 16), [(.int .i64 n15)], (.str s17), r12.2.1, r16.2.1, r12.2.2, r16.2.2, [(nx + 23)]⟩, ⟨(.fn 15), [(.int .i64 n19), (.int .i64 1100)], (.int .i64 n21), r16.2.1, r20.2.1, r16.2.2, r20.2.2, [(nx + 23)]⟩, ⟨(.fn 15), [(.int .i64 n23), (.int .i64 1100)], (.int .i64 n25), r20.2.1, r24.2.1, r20.2.2, r24.2.2, [(nx + 23)]⟩]
    ((ldA h28 (nx + 23) 0).bind fun v29 =>
    (asI .i64 v29).bind fun n30 =>
    if ((n30 : Int) == 2) = true then
    ((ldA h28 nx 5).bind fun v31 =>
    (asSl v31).bind fun s32 =>
    ((callP Try.prog keepT n) Y 14 [(.slice s32.1 s32.2.1 s32.2.2), (.int .i64 400)] h28 (r24.2.2 + 8)).bind fun r33 =>
    (asSl r33.1).bind fun s34 =>
    (stA r33.2.1 (nx + 23) 7 (.slice s34.1 s34.2.1 s34.2.2) 1).bind fun b35 =>
    let h36 := AHeap.put r33.2.1 (nx + 23) (some b35)
    (ldR h36 (nx + 23) 0 8).bind fun l37 =>
    (asAgg 8 (AV.agg l37)).bind fun d38 =>
    (asI .i64 (d38.getD 0 .bad)).bind fun n39 =>
    (asStr (d38.getD 1 .bad)).bind fun s40 =>
    (asStr (d38.getD 2 .bad)).bind fun s41 =>
    (asI .i64 (d38.getD 3 .bad)).bind fun n42 =>
    (asI .i64 (d38.getD 4 .bad)).bind fun n43 =>
    (asI .i64 (d38.getD 5 .bad)).bind fun n44 =>
    (asI .i64 (d38.getD 6 .bad)).bind fun n45 =>
    (asSl (d38.getD 7 .bad)).bind fun s46 =>
    (stA h36 (nx + 1) 0 (.agg [(.int .i64 n39), (.str s40), (.str s41), (.int .i64 n42), (.int .i64 n43), (.int .i64 n44), (.int .i64 n45), (.slice s46.1 s46.2.1 s46.2.2)]) 8).bind fun b47 =>
    let h48 := AHeap.put h36 (nx + 1) (some b47)
    (ldR h48 (nx + 1) 0 8).bind fun l49 =>
    (asAgg 8 (AV.agg l49)).bind fun d50 =>
    (asI .i64 (d50.getD 0 .bad)).bind fun n51 =>
    (asStr (d50.getD 1 .bad)).bind fun s52 =>
    (asStr (d50.getD 2 .bad)).bind fun s53 =>
    (asI .i64 (d50.getD 3 .bad)).bind fun n54 =>
    (asI .i64 (d50.getD 4 .bad)).bind fun n55 =>
    (asI .i64 (d50.getD 5 .bad)).bind fun n56 =>
    (asI .i64 (d50.getD 6 .bad)).bind fun n57 =>
    (asSl (d50.getD 7 .bad)).bind fun s58 =>
    some ((.agg [(.int .i64 n51), (.str s52), (.str s53), (.int .i64 n54), (.int .i64 n55), (.int .i64 n56), (.int .i64 n57), (.slice s58.1 s58.2.1 s58.2.2)]), h48, (r33.2.2 + 2)))
    else
    ((ldR h28 (nx + 23) 0 8).bind fun l59 =>
    (asAgg 8 (AV.agg l59)).bind fun d60 =>
    (asI .i64 (d60.getD 0 .bad)).bind fun n61 =>
    (asStr (d60.getD 1 .bad)).bind fun s62 =>
    (asStr (d60.getD 2 .bad)).bind fun s63 =>
    (asI .i64 (d60.getD 3 .bad)).bind fun n64 =>
    (asI .i64 (d60.getD 4 .bad)).bind fun n65 =>
    (asI .i64 (d60.getD 5 .bad)).bind fun n66 =>
    (asI .i64 (d60.getD 6 .bad)).bind fun n67 =>
    (asSl (d60.getD 7 .bad)).bind fun s68 =>
    (stA h28 (nx + 1) 0 (.agg [(.int .i64 n61), (.str s62), (.str s63), (.int .i64 n64), (.int .i64 n65), (.int .i64 n66), (.int .i64 n67), (.slice s68.1 s68.2.1 s68.2.2)]) 8).bind fun b69 =>
    let h70 := AHeap.put h28 (nx + 1) (some b69)
    (ldR h70 (nx + 1) 0 8).bind fun l71 =>
    (asAgg 8 (AV.agg l71)).bind fun d72 =>
    (asI .i64 (d72.getD 0 .bad)).bind fun n73 =>
    (asStr (d72.getD 1 .bad)).bind fun s74 =>
    (asStr (d72.getD 2 .bad)).bind fun s75 =>
    (asI .i64 (d72.getD 3 .bad)).bind fun n76 =>
    (asI .i64 (d72.getD 4 .bad)).bind fun n77 =>
    (asI .i64 (d72.getD 5 .bad)).bind fun n78 =>
    (asI .i64 (d72.getD 6 .bad)).bind fun n79 =>
    (asSl (d72.getD 7 .bad)).bind fun s80 =>
    some ((.agg [(.int .i64 n73), (.str s74), (.str s75), (.int .i64 n76), (.int .i64 n77), (.int .i64 n78), (.int .i64 n79), (.slice s80.1 s80.2.1 s80.2.2)]), h70, (r24.2.2 + 5)))))))
    else none := by kernel_rfl

/-- quickset/quicksetkeep.CommandOf -/
theorem F10_eq (n : Nat) (Y : YldF) (x0_0 : Int) (x0_1 : Int) (x0_2 : Int) (x0_3 : Int) (x0_4 : Int) (x0_5a : Option (Nat × Nat)) (x0_5n : Nat) (x0_5c : Option Nat) (x1a : Option (Nat × Nat)) (x1n : Nat) (x1c : Option Nat) (h : AHeap) (nx : Nat) : callP Try.prog keepT (n + 1) Y 10 [(.agg [(.int .i64 x0_0), (.int .i64 x0_1), (.int .i64 x0_2), (.int .i64 x0_3), (.int .i64 x0_4), (.slice x0_5a x0_5n x0_5c)]), (.slice x1a x1n x1c)] h nx =
    let h1 := AHeap.put h nx (some ⟨[(.int .i64 x0_0), (.int .i64 x0_1), (.int .i64 x0_2), (.int .i64 x0_3), (.int .i64 x0_4), (.slice x0_5a x0_5n x0_5c)], 6, true⟩)
    let h2 := AHeap.put h1 (nx + 1) (some ⟨[(.int .i64 0), (.str (ByteArray.mk #[])), (.str (ByteArray.mk #[])), (.int .i64 0), (.int .i64 0), (.int .i64 0), (.int .i64 0), (.slice none 0 none)], 8, true⟩)
    (ldA h2 nx 0).bind fun v3 =>
    (asI .i64 v3).bind fun n4 =>
    ((callP Try.prog keepT n) Y 15 [(.int .i64 n4), (.int .i64 ((x1n : Nat) : Int))] h2 (nx + 25)).bind fun r5 =>
    (asI .i64 r5.1).bind fun n6 =>
    (x1a).bind fun p7 =>
    if 0 ≤ (n6 : Int) ∧ n6 < ((x1n : Nat) : Int) then
    ((ldA r5.2.1 p7.1 (p7.2 + Int.toNat n6 * 1)).bind fun v8 =>
    (asI .i64 v8).bind fun n9 =>
    (ldA r5.2.1 nx 1).bind fun v10 =>
    (asI .i64 v10).bind fun n11 =>
    ((callP Try.prog keepT n) Y 9 [(.int .i64 n11)] r5.2.1 r5.2.2).bind fun r12 =>
    (asStr r12.1).bind fun s13 =>
    (ldA r12.2.1 nx 2).bind fun v14 =>
    (asI .i64 v14).bind fun n15 =>
    ((callP Try.prog keepT n) Y 16 [(.int .i64 n15)] r12.2.1 r12.2.2).bind fun r16 =>
    (asStr r16.1).bind fun s17 =>
    (ldA r16.2.1 nx 3).bind fun v18 =>
    (asI .i64 v18).bind fun n19 =>
    ((callP Try.prog keepT n) Y 15 [(.int .i64 n19), (.int .i64 1100)] r16.2.1 r16.2.2).bind fun r20 =>
    (asI .i64 r20.1).bind fun n21 =>
    (ldA r20.2.1 nx 4).bind fun v22 =>
    (asI .i64 v22).bind fun n23 =>
    ((callP Try.prog keepT n) Y 15 [(.int .i64 n23), (.int .i64 1100)] r20.2.1 r20.2.2).bind fun r24 =>
    (asI .i64 r24.1).bind fun n25 =>
    let h26 := AHeap.put r24.2.1 (nx + 23) (some ⟨[(.int .i64 0), (.str (ByteArray.mk #[])), (.str (ByteArray.mk #[])), (.int .i64 0), (.int .i64 0), (.int .i64 0), (.int .i64 0), (.slice none 0 none)], 8, true⟩)
    (stA h26 (nx + 23) 0 (.agg [(.int .i64 n9), (.str s13), (.str s17), (.int .i64 n21), (.int .i64 n25), (.int .i64 0), (.int .i64 0), (.slice none 0 none)]) 8).bind fun b27 =>
    let h28 := AHeap.put h26 (nx + 23) (some b27)
    ifApart [([(nx + 23)], [nx]), ([(nx + 23)], []), ([(nx + 23)], [p7.1]), ([(nx + 23)], [nx]), ([(nx + 23)], [nx]), ([(nx + 23)], [nx]), ([(nx + 23)], [nx])]
    (ifKept [(h2, r5.2.1, [nx]), (h2, r5.2.1, [nx]), (h2, r5.2.1, [nx]), (h2, r5.2.1, [nx]), (r5.2.1, r12.2.1, [p7.1]), (r12.2.1, r16.2.1, [p7.1]), (r16.2.1, r20.2.1, [p7.1]), (r20.2.1, r24.2.1, [p7.1]), (r5.2.1, r12.2.1, [nx]), (r5.2.1, r12.2.1, [nx]), (r5.2.1, r12.2.1, [nx]), (r12.2.1, r16.2.1, [nx]), (r12.2.1, r16.2.1, [nx]), (r16.2.1, r20.2.1, [nx])]
    (ifRob (callC ((callP Try.prog keepT n) Y) Y) [⟨(.fn 15), [(.int .i64 n4), (.int .i64 ((x1n : Nat) : Int))], (.int .i64 n6), h2, r5.2.1, (nx + 25), r5.2.2, [(nx + 23)]⟩, ⟨(.fn 9), [(.int .i64 n11)], (.str s13), r5.2.1, r12.2.1, r5.2.2, r12.2.2, [(nx + 23)]⟩, ⟨(.fn 16), [(.int .i64 n15)], (.str s17), r12.2.1, r16.2.1, r12.2.2, r16.2.2, [(nx + 23)]⟩, ⟨(.fn 15), [(.int .i64 n19), (.int .i64 1100)], (.int .i64 n21), r16.2.1, r20.2.1, r16.2.2, r20.2.2, [(nx + 23)]⟩, ⟨(.fn 15), [(.int .i64 n23), (.int .i64 1100)], (.int .i64 n25), r20.2.1, r24.2.1, r20.2.2, r24.2.2, [(nx + 23)]⟩]
    ((ldA h28 (nx + 23) 0).bind fun v29 =>
    (asI .i64 v29).bind fun n30 =>
    if ((n30 : Int) == 2) = true then
    ((ldA h28 nx 5).bind fun v31 =>
    (asSl v31).bind fun s32 =>
    ((callP Try.prog keepT n) Y 14 [(.slice s32.1 s32.2.1 s32.2.2), (.int .i64 400)] h28 (r24.2.2 + 8)).bind fun r33 =>
    (asSl r33.1).bind fun s34 =>
    (stA r33.2.1 (nx + 23) 7 (.slice s34.1 s34.2.1 s34.2.2) 1).bind fun b35 =>
    let h36 := AHeap.put r33.2.1 (nx + 23) (some b35)
    (ldR h36 (nx + 23) 0 8).bind fun l37 =>
    (asAgg 8 (AV.agg l37)).bind fun d38 =>
    (asI .i64 (d38.getD 0 .bad)).bind fun n39 =>
    (asStr (d38.getD 1 .bad)).bind fun s40 =>
    (asStr (d38.getD 2 .bad)).bind fun s41 =>
    (asI .i64 (d38.getD 3 .bad)).bind fun n42 =>
    (asI .i64 (d38.getD 4 .bad)).bind fun n43 =>
    (asI .i64 (d38.getD 5 .bad)).bind fun n44 =>
    (asI .i64 (d38.getD 6 .bad)).bind fun n45 =>
    (asSl (d38.getD 7 .bad)).bind fun s46 =>
    (stA h36 (nx + 1) 0 (.agg [(.int .i64 n39), (.str s40), (.str s41), (.int .i64 n42), (.int .i64 n43), (.int .i64 n44), (.int .i64 n45), (.slice s46.1 s46.2.1 s46.2.2)]) 8).bind fun b47 =>
    let h48 := AHeap.put h36 (nx + 1) (some b47)
    (ldR h48 (nx + 1) 0 8).bind fun l49 =>
    (asAgg 8 (AV.agg l49)).bind fun d50 =>
    (asI .i64 (d50.getD 0 .bad)).bind fun n51 =>
    (asStr (d50.getD 1 .bad)).bind fun s52 =>
    (asStr (d50.getD 2 .bad)).bind fun s53 =>
    (asI .i64 (d50.getD 3 .bad)).bind fun n54 =>
    (asI .i64 (d50.getD 4 .bad)).bind fun n55 =>
    (asI .i64 (d50.getD 5 .bad)).bind fun n56 =>
    (asI .i64 (d50.getD 6 .bad)).bind fun n57 =>
    (asSl (d50.getD 7 .bad)).bind fun s58 =>
    some ((.agg [(.int .i64 n51), (.str s52), (.str s53), (.int .i64 n54), (.int .i64 n55), (.int .i64 n56), (.int .i64 n57), (.slice s58.1 s58.2.1 s58.2.2)]), h48, (r33.2.2 + 2)))
    else
    ((ldR h28 (nx + 23) 0 8).bind fun l59 =>
    (asAgg 8 (AV.agg l59)).bind fun d60 =>
    (asI .i64 (d60.getD 0 .bad)).bind fun n61 =>
    (asStr (d60.getD 1 .bad)).bind fun s62 =>
    (asStr (d60.getD 2 .bad)).bind fun s63 =>
    (asI .i64 (d60.getD 3 .bad)).bind fun n64 =>
    (asI .i64 (d60.getD 4 .bad)).bind fun n65 =>
    (asI .i64 (d60.getD 5 .bad)).bind fun n66 =>
    (asI .i64 (d60.getD 6 .bad)).bind fun n67 =>
    (asSl (d60.getD 7 .bad)).bind fun s68 =>
    (stA h28 (nx + 1) 0 (.agg [(.int .i64 n61), (.str s62), (.str s63), (.int .i64 n64), (.int .i64 n65), (.int .i64 n66), (.int .i64 n67), (.slice s68.1 s68.2.1 s68.2.2)]) 8).bind fun b69 =>
    let h70 := AHeap.put h28 (nx + 1) (some b69)
    (ldR h70 (nx + 1) 0 8).bind fun l71 =>
    (asAgg 8 (AV.agg l71)).bind fun d72 =>
    (asI .i64 (d72.getD 0 .bad)).bind fun n73 =>
    (asStr (d72.getD 1 .bad)).bind fun s74 =>
    (asStr (d72.getD 2 .bad)).bind fun s75 =>
    (asI .i64 (d72.getD 3 .bad)).bind fun n76 =>
    (asI .i64 (d72.getD 4 .bad)).bind fun n77 =>
    (asI .i64 (d72.getD 5 .bad)).bind fun n78 =>
    (asI .i64 (d72.getD 6 .bad)).bind fun n79 =>
    (asSl (d72.getD 7 .bad)).bind fun s80 =>
    some ((.agg [(.int .i64 n73), (.str s74), (.str s75), (.int .i64 n76), (.int .i64 n77), (.int .i64 n78), (.int .i64 n79), (.slice s80.1 s80.2.1 s80.2.2)]), h70, (r24.2.2 + 5)))))))
    else none := F10_eq' go1 n Y x0_0 x0_1 x0_2 x0_3 x0_4 x0_5a x0_5n x0_5c x1a x1n x1c h nx

noncomputable def c11 : Code := (Try.f11.body).getD .skip

noncomputable def r11 : List ResultVar := Try.f11.results.toList

theorem F11_eq' (J : StepF (AV × AHeap × Nat) → StepF (AV × AHeap × Nat)) (n : Nat) (Y : YldF) (x0a : Option (Nat × Nat)) (x0n : Nat) (x0c : Option Nat) (h : AHeap) (nx : Nat) : rootJ J Try.prog keepT (callP Try.prog keepT n) Y n 11 [(.slice x0a x0n x0c)] h nx =
    (srcS h x0a x0n 8).bind fun q1 =>
    (appD h none 0 none 8 96 (nx + 3) q1).bind fun e2 =>
    let h3 := AHeap.puts h e2.sets
    ((callP Try.prog keepT n) Y 17 [(.slice e2.a e2.n e2.c)] h3 (nx + 10)).bind fun r4 =>
    (asTup 2 r4.1).bind fun d5 =>
    (asSl (d5.getD 0 .bad)).bind fun s6 =>
    (asI .i64 (d5.getD 1 .bad)).bind fun n7 =>
    if ((n7 : Int) == 0) = true then
    (some ((.tuple [(.slice s6.1 s6.2.1 s6.2.2), (.bool ((((s6.2.1 : Nat) : Int) : Int) == ((x0n : Nat) : Int)))]), r4.2.1, (r4.2.2 + 12)))
    else
    (some ((.tuple [(.slice s6.1 s6.2.1 s6.2.2), (.bool false)]), r4.2.1, (r4.2.2 + 12))) := by kernel_rfl

/-- quickset/quicksetkeep.pooled -/
theorem F11_eq (n : Nat) (Y : YldF) (x0a : Option (Nat × Nat)) (x0n : Nat) (x0c : Option Nat) (h : AHeap) (nx : Nat) : callP Try.prog keepT (n + 1) Y 11 [(.slice x0a x0n x0c)] h nx =
    (srcS h x0a x0n 8).bind fun q1 =>
    (appD h none 0 none 8 96 (nx + 3) q1).bind fun e2 =>
    let h3 := AHeap.puts h e2.sets
    ((callP Try.prog keepT n) Y 17 [(.slice e2.a e2.n e2.c)] h3 (nx + 10)).bind fun r4 =>
    (asTup 2 r4.1).bind fun d5 =>
    (asSl (d5.getD 0 .bad)).bind fun s6 =>
    (asI .i64 (d5.getD 1 .bad)).bind fun n7 =>
    if ((n7 : Int) == 0) = true then
    (some ((.tuple [(.slice s6.1 s6.2.1 s6.2.2), (.bool ((((s6.2.1 : Nat) : Int) : Int) == ((x0n : Nat) : Int)))]), r4.2.1, (r4.2.2 + 12)))
    else
    (some ((.tuple [(.slice s6.1 s6.2.1 s6.2.2), (.bool false)]), r4.2.1, (r4.2.2 + 12))) := F11_eq' go1 n Y x0a x0n x0c h nx

noncomputable def c12 : Code := (Try.f12.body).getD .skip

noncomputable def r12 : List ResultVar := Try.f12.results.toList

theorem F12_eq' (J : StepF (AV × AHeap × Nat) → StepF (AV × AHeap × Nat)) (n : Nat) (Y : YldF) (h : AHeap) (nx : Nat) : rootJ J Try.prog keepT (callP Try.prog keepT n) Y n 12 [] h nx =
    let h1 := AHeap.put h (nx + 2) (some ⟨[(.int .u8 5)], 1, true⟩)
    let h2 := AHeap.put h1 (nx + 5) (some ⟨[(.int .i64 1), (.str (ByteArray.mk #[97])), (.str (ByteArray.mk #[])), (.int .i64 0), (.int .i64 0), (.int .i64 0), (.int .i64 0), (.slice none 0 none), (.int .i64 2), (.str (ByteArray.mk #[97])), (.str (ByteArray.mk #[])), (.int .i64 0), (.int .i64 0), (.int .i64 0), (.int .i64 0), (.slice (some ((nx + 2), 0)) 1 (some 1)), (.int .i64 3), (.str (ByteArray.mk #[97])), (.str (ByteArray.mk #[])), (.int .i64 0), (.int .i64 9), (.int .i64 0), (.int .i64 0), (.slice none 0 none)], 8, true⟩)
    ((callP Try.prog keepT n) Y 11 [(.slice (some ((nx + 5), 0)) 3 (some 3))] h2 (nx + 12)).bind fun r3 =>
    (asTup 2 r3.1).bind fun d4 =>
    (asSl (d4.getD 0 .bad)).bind fun s5 =>
    (asB (d4.getD 1 .bad)).bind fun t6 =>
    if t6 = true then
    ((s5.1).bind fun p7 =>
    if 0 ≤ (2 : Int) ∧ 2 < ((s5.2.1 : Nat) : Int) then
    ((ldA r3.2.1 p7.1 ((p7.2 + Int.toNat 2 * 5) + 2)).bind fun v8 =>
    (asI .i64 v8).bind fun n9 =>
    if ((n9 : Int) == 1) = true then
    ((s5.1).bind fun p10 =>
    if 0 ≤ (2 : Int) ∧ 2 < ((s5.2.1 : Nat) : Int) then
    ((ldA r3.2.1 p10.1 ((p10.2 + Int.toNat 2 * 5) + 3)).bind fun v11 =>
    (asSl v11).bind fun s12 =>
    if ((((s12.2.1 : Nat) : Int) : Int) == 1) = true then
    ((s5.1).bind fun p13 =>
    if 0 ≤ (2 : Int) ∧ 2 < ((s5.2.1 : Nat) : Int) then
    ((ldA r3.2.1 p13.1 ((p13.2 + Int.toNat 2 * 5) + 3)).bind fun v14 =>
    (asSl v14).bind fun s15 =>
    (s15.1).bind fun p16 =>
    if 0 ≤ (0 : Int) ∧ 0 < ((s15.2.1 : Nat) : Int) then
    ((ldA r3.2.1 p16.1 (p16.2 + Int.toNat 0 * 1)).bind fun v17 =>
    (asI .u8 v17).bind fun n18 =>
    some ((.bool ((n18 : Int) == 5)), r3.2.1, (r3.2.2 + 26)))
    else none)
    else none)
    else
    (some ((.bool false), r3.2.1, (r3.2.2 + 26))))
    else none)
    else
    (some ((.bool false), r3.2.1, (r3.2.2 + 26))))
    else none)
    else
    (some ((.bool false), r3.2.1, (r3.2.2 + 26))) := by kernel_rfl

/-- quickset/quicksetkeep.begun -/
theorem F12_eq (n : Nat) (Y : YldF) (h : AHeap) (nx : Nat) : callP Try.prog keepT (n + 1) Y 12 [] h nx =
    let h1 := AHeap.put h (nx + 2) (some ⟨[(.int .u8 5)], 1, true⟩)
    let h2 := AHeap.put h1 (nx + 5) (some ⟨[(.int .i64 1), (.str (ByteArray.mk #[97])), (.str (ByteArray.mk #[])), (.int .i64 0), (.int .i64 0), (.int .i64 0), (.int .i64 0), (.slice none 0 none), (.int .i64 2), (.str (ByteArray.mk #[97])), (.str (ByteArray.mk #[])), (.int .i64 0), (.int .i64 0), (.int .i64 0), (.int .i64 0), (.slice (some ((nx + 2), 0)) 1 (some 1)), (.int .i64 3), (.str (ByteArray.mk #[97])), (.str (ByteArray.mk #[])), (.int .i64 0), (.int .i64 9), (.int .i64 0), (.int .i64 0), (.slice none 0 none)], 8, true⟩)
    ((callP Try.prog keepT n) Y 11 [(.slice (some ((nx + 5), 0)) 3 (some 3))] h2 (nx + 12)).bind fun r3 =>
    (asTup 2 r3.1).bind fun d4 =>
    (asSl (d4.getD 0 .bad)).bind fun s5 =>
    (asB (d4.getD 1 .bad)).bind fun t6 =>
    if t6 = true then
    ((s5.1).bind fun p7 =>
    if 0 ≤ (2 : Int) ∧ 2 < ((s5.2.1 : Nat) : Int) then
    ((ldA r3.2.1 p7.1 ((p7.2 + Int.toNat 2 * 5) + 2)).bind fun v8 =>
    (asI .i64 v8).bind fun n9 =>
    if ((n9 : Int) == 1) = true then
    ((s5.1).bind fun p10 =>
    if 0 ≤ (2 : Int) ∧ 2 < ((s5.2.1 : Nat) : Int) then
    ((ldA r3.2.1 p10.1 ((p10.2 + Int.toNat 2 * 5) + 3)).bind fun v11 =>
    (asSl v11).bind fun s12 =>
    if ((((s12.2.1 : Nat) : Int) : Int) == 1) = true then
    ((s5.1).bind fun p13 =>
    if 0 ≤ (2 : Int) ∧ 2 < ((s5.2.1 : Nat) : Int) then
    ((ldA r3.2.1 p13.1 ((p13.2 + Int.toNat 2 * 5) + 3)).bind fun v14 =>
    (asSl v14).bind fun s15 =>
    (s15.1).bind fun p16 =>
    if 0 ≤ (0 : Int) ∧ 0 < ((s15.2.1 : Nat) : Int) then
    ((ldA r3.2.1 p16.1 (p16.2 + Int.toNat 0 * 1)).bind fun v17 =>
    (asI .u8 v17).bind fun n18 =>
    some ((.bool ((n18 : Int) == 5)), r3.2.1, (r3.2.2 + 26)))
    else none)
    else none)
    else
    (some ((.bool false), r3.2.1, (r3.2.2 + 26))))
    else none)
    else
    (some ((.bool false), r3.2.1, (r3.2.2 + 26))))
    else none)
    else
    (some ((.bool false), r3.2.1, (r3.2.2 + 26))) := F12_eq' go1 n Y h nx

noncomputable def c13 : Code := (Try.f13.body).getD .skip

noncomputable def r13 : List ResultVar := Try.f13.results.toList

theorem F13_eq' (J : StepF (AV × AHeap × Nat) → StepF (AV × AHeap × Nat)) (n : Nat) (Y : YldF) (x0_0 : Int) (x0_1 : Bool) (x0_2 : Int) (x0_3a : Option (Nat × Nat)) (x0_3n : Nat) (x0_3c : Option Nat) (x0_4a : Option (Nat × Nat)) (x0_4n : Nat) (x0_4c : Option Nat) (x1_0 : Int) (x1_1 : Bool) (x1_2 : Int) (x1_3a : Option (Nat × Nat)) (x1_3n : Nat) (x1_3c : Option Nat) (x1_4a : Option (Nat × Nat)) (x1_4n : Nat) (x1_4c : Option Nat) (h : AHeap) (nx : Nat) : rootJ J Try.prog keepT (callP Try.prog keepT n) Y n 13 [(.agg [(.int .i64 x0_0), (.bool x0_1), (.int .i64 x0_2), (.slice x0_3a x0_3n x0_3c), (.slice x0_4a x0_4n x0_4c)]), (.agg [(.int .i64 x1_0), (.bool x1_1), (.int .i64 x1_2), (.slice x1_3a x1_3n x1_3c), (.slice x1_4a x1_4n x1_4c)])] h nx =
    let h1 := AHeap.put h nx (some ⟨[(.int .i64 x0_0), (.bool x0_1), (.int .i64 x0_2), (.slice x0_3a x0_3n x0_3c), (.slice x0_4a x0_4n x0_4c)], 5, true⟩)
    let h2 := AHeap.put h1 (nx + 1) (some ⟨[(.int .i64 x1_0), (.bool x1_1), (.int .i64 x1_2), (.slice x1_3a x1_3n x1_3c), (.slice x1_4a x1_4n x1_4c)], 5, true⟩)
    (ldA h2 nx 0).bind fun v3 =>
    (asI .i64 v3).bind fun n4 =>
    (ldA h2 (nx + 1) 0).bind fun v5 =>
    (asI .i64 v5).bind fun n6 =>
    if ((n4 : Int) == n6) = true then
    ((ldA h2 nx 1).bind fun v7 =>
    (asB v7).bind fun t8 =>
    (ldA h2 (nx + 1) 1).bind fun v9 =>
    (asB v9).bind fun t10 =>
    if (t8 == t10) = true then
    ((ldA h2 nx 2).bind fun v11 =>
    (asI .i64 v11).bind fun n12 =>
    (ldA h2 (nx + 1) 2).bind fun v13 =>
    (asI .i64 v13).bind fun n14 =>
    if ((n12 : Int) == n14) = true then
    ((ldA h2 nx 3).bind fun v15 =>
    (asSl v15).bind fun s16 =>
    (ldA h2 (nx + 1) 3).bind fun v17 =>
    (asSl v17).bind fun s18 =>
    ((callP Try.prog keepT n) Y 18 [(.slice s16.1 s16.2.1 s16.2.2), (.slice s18.1 s18.2.1 s18.2.2)] h2 (nx + 37)).bind fun r19 =>
    (asB r19.1).bind fun t20 =>
    if t20 = true then
    ((ldA r19.2.1 nx 4).bind fun v21 =>
    (asSl v21).bind fun s22 =>
    (ldA r19.2.1 (nx + 1) 4).bind fun v23 =>
    (asSl v23).bind fun s24 =>
    ((callP Try.prog keepT n) Y 19 [(.slice s22.1 s22.2.1 s22.2.2), (.slice s24.1 s24.2.1 s24.2.2)] r19.2.1 r19.2.2).bind fun r25 =>
    (asB r25.1).bind fun t26 =>
    some ((.bool t26), r25.2.1, r25.2.2))
    else
    (some ((.bool false), r19.2.1, r19.2.2)))
    else
    (some ((.bool false), h2, (nx + 37))))
    else
    (some ((.bool false), h2, (nx + 37))))
    else
    (some ((.bool false), h2, (nx + 37))) := by kernel_rfl

/-- quickset/quicksetkeep.SameTold -/
theorem F13_eq (n : Nat) (Y : YldF) (x0_0 : Int) (x0_1 : Bool) (x0_2 : Int) (x0_3a : Option (Nat × Nat)) (x0_3n : Nat) (x0_3c : Option Nat) (x0_4a : Option (Nat × Nat)) (x0_4n : Nat) (x0_4c : Option Nat) (x1_0 : Int) (x1_1 : Bool) (x1_2 : Int) (x1_3a : Option (Nat × Nat)) (x1_3n : Nat) (x1_3c : Option Nat) (x1_4a : Option (Nat × Nat)) (x1_4n : Nat) (x1_4c : Option Nat) (h : AHeap) (nx : Nat) : callP Try.prog keepT (n + 1) Y 13 [(.agg [(.int .i64 x0_0), (.bool x0_1), (.int .i64 x0_2), (.slice x0_3a x0_3n x0_3c), (.slice x0_4a x0_4n x0_4c)]), (.agg [(.int .i64 x1_0), (.bool x1_1), (.int .i64 x1_2), (.slice x1_3a x1_3n x1_3c), (.slice x1_4a x1_4n x1_4c)])] h nx =
    let h1 := AHeap.put h nx (some ⟨[(.int .i64 x0_0), (.bool x0_1), (.int .i64 x0_2), (.slice x0_3a x0_3n x0_3c), (.slice x0_4a x0_4n x0_4c)], 5, true⟩)
    let h2 := AHeap.put h1 (nx + 1) (some ⟨[(.int .i64 x1_0), (.bool x1_1), (.int .i64 x1_2), (.slice x1_3a x1_3n x1_3c), (.slice x1_4a x1_4n x1_4c)], 5, true⟩)
    (ldA h2 nx 0).bind fun v3 =>
    (asI .i64 v3).bind fun n4 =>
    (ldA h2 (nx + 1) 0).bind fun v5 =>
    (asI .i64 v5).bind fun n6 =>
    if ((n4 : Int) == n6) = true then
    ((ldA h2 nx 1).bind fun v7 =>
    (asB v7).bind fun t8 =>
    (ldA h2 (nx + 1) 1).bind fun v9 =>
    (asB v9).bind fun t10 =>
    if (t8 == t10) = true then
    ((ldA h2 nx 2).bind fun v11 =>
    (asI .i64 v11).bind fun n12 =>
    (ldA h2 (nx + 1) 2).bind fun v13 =>
    (asI .i64 v13).bind fun n14 =>
    if ((n12 : Int) == n14) = true then
    ((ldA h2 nx 3).bind fun v15 =>
    (asSl v15).bind fun s16 =>
    (ldA h2 (nx + 1) 3).bind fun v17 =>
    (asSl v17).bind fun s18 =>
    ((callP Try.prog keepT n) Y 18 [(.slice s16.1 s16.2.1 s16.2.2), (.slice s18.1 s18.2.1 s18.2.2)] h2 (nx + 37)).bind fun r19 =>
    (asB r19.1).bind fun t20 =>
    if t20 = true then
    ((ldA r19.2.1 nx 4).bind fun v21 =>
    (asSl v21).bind fun s22 =>
    (ldA r19.2.1 (nx + 1) 4).bind fun v23 =>
    (asSl v23).bind fun s24 =>
    ((callP Try.prog keepT n) Y 19 [(.slice s22.1 s22.2.1 s22.2.2), (.slice s24.1 s24.2.1 s24.2.2)] r19.2.1 r19.2.2).bind fun r25 =>
    (asB r25.1).bind fun t26 =>
    some ((.bool t26), r25.2.1, r25.2.2))
    else
    (some ((.bool false), r19.2.1, r19.2.2)))
    else
    (some ((.bool false), h2, (nx + 37))))
    else
    (some ((.bool false), h2, (nx + 37))))
    else
    (some ((.bool false), h2, (nx + 37))) := F13_eq' go1 n Y x0_0 x0_1 x0_2 x0_3a x0_3n x0_3c x0_4a x0_4n x0_4c x1_0 x1_1 x1_2 x1_3a x1_3n x1_3c x1_4a x1_4n x1_4c h nx

noncomputable def c14 : Code := (Try.f14.body).getD .skip

noncomputable def r14 : List ResultVar := Try.f14.results.toList

theorem F14_eq' (J : StepF (AV × AHeap × Nat) → StepF (AV × AHeap × Nat)) (n : Nat) (Y : YldF) (x0a : Option (Nat × Nat)) (x0n : Nat) (x0c : Option Nat) (x1 : Int) (h : AHeap) (nx : Nat) : rootJ J Try.prog keepT (callP Try.prog keepT n) Y n 14 [(.slice x0a x0n x0c), (.int .i64 x1)] h nx =
    if ((((x0n : Nat) : Int) : Int) == 0) = true then
    (let h1 := AHeap.put h (nx + 4) (some ⟨[(.int .u8 7)], 1, true⟩)
    some ((.slice (some ((nx + 4), 0)) 1 (some 1)), h1, (nx + 6)))
    else
    ((cutA h x0a x0n x0c 1 none (some (.int .i64 (if x1 < ((x0n : Nat) : Int) then x1 else ((x0n : Nat) : Int)))) none).bind fun s2 =>
    (srcS h s2.1 s2.2.1 1).bind fun q3 =>
    (appD h none 0 none 1 1 (nx + 10) q3).bind fun e4 =>
    let h5 := AHeap.puts h e4.sets
    some ((.slice e4.a e4.n e4.c), h5, (nx + 12))) := by kernel_rfl

/-- quickset/quicksetkeep.Block -/
theorem F14_eq (n : Nat) (Y : YldF) (x0a : Option (Nat × Nat)) (x0n : Nat) (x0c : Option Nat) (x1 : Int) (h : AHeap) (nx : Nat) : callP Try.prog keepT (n + 1) Y 14 [(.slice x0a x0n x0c), (.int .i64 x1)] h nx =
    if ((((x0n : Nat) : Int) : Int) == 0) = true then
    (let h1 := AHeap.put h (nx + 4) (some ⟨[(.int .u8 7)], 1, true⟩)
    some ((.slice (some ((nx + 4), 0)) 1 (some 1)), h1, (nx + 6)))
    else
    ((cutA h x0a x0n x0c 1 none (some (.int .i64 (if x1 < ((x0n : Nat) : Int) then x1 else ((x0n : Nat) : Int)))) none).bind fun s2 =>
    (srcS h s2.1 s2.2.1 1).bind fun q3 =>
    (appD h none 0 none 1 1 (nx + 10) q3).bind fun e4 =>
    let h5 := AHeap.puts h e4.sets
    some ((.slice e4.a e4.n e4.c), h5, (nx + 12))) := F14_eq' go1 n Y x0a x0n x0c x1 h nx

noncomputable def c15 : Code := (Try.f15.body).getD .skip

noncomputable def r15 : List ResultVar := Try.f15.results.toList

theorem F15_eq' (J : StepF (AV × AHeap × Nat) → StepF (AV × AHeap × Nat)) (n : Nat) (Y : YldF) (x0 : Int) (x1 : Int) (h : AHeap) (nx : Nat) : rootJ J Try.prog keepT (callP Try.prog keepT n) Y n 15 [(.int .i64 x0), (.int .i64 x1)] h nx =
    if (x1 : Int) = 0 then none else
    (if (decide (((Int.tmod x0 x1) : Int) < 0)) = true then
    (some ((.int .i64 (wrapA .i64 ((Int.tmod x0 x1) + x1))), h, (nx + 11)))
    else
    (some ((.int .i64 (Int.tmod x0 x1)), h, (nx + 9)))) := by kernel_rfl

/-- quickset/quicksetkeep.Picked -/
theorem F15_eq (n : Nat) (Y : YldF) (x0 : Int) (x1 : Int) (h : AHeap) (nx : Nat) : callP Try.prog keepT (n + 1) Y 15 [(.int .i64 x0), (.int .i64 x1)] h nx =
    if (x1 : Int) = 0 then none else
    (if (decide (((Int.tmod x0 x1) : Int) < 0)) = true then
    (some ((.int .i64 (wrapA .i64 ((Int.tmod x0 x1) + x1))), h, (nx + 11)))
    else
    (some ((.int .i64 (Int.tmod x0 x1)), h, (nx + 9)))) := F15_eq' go1 n Y x0 x1 h nx

noncomputable def c16 : Code := (Try.f16.body).getD .skip

noncomputable def r16 : List ResultVar := Try.f16.results.toList

theorem F16_eq' (J : StepF (AV × AHeap × Nat) → StepF (AV × AHeap × Nat)) (n : Nat) (Y : YldF) (x0 : Int) (h : AHeap) (nx : Nat) : rootJ J Try.prog keepT (callP Try.prog keepT n) Y n 16 [(.int .i64 x0)] h nx =
    let h1 := AHeap.put h (nx + 1) (some ⟨[(.str (ByteArray.mk #[115])), (.str (ByteArray.mk #[116])), (.str (ByteArray.mk #[117, 48])), (.str (ByteArray.mk #[118]))], 1, true⟩)
    ((callP Try.prog keepT n) Y 15 [(.int .i64 x0), (.int .i64 4)] h1 (nx + 7)).bind fun r2 =>
    (asI .i64 r2.1).bind fun n3 =>
    if 0 ≤ (n3 : Int) ∧ n3 < ((4 : Nat) : Int) then
    ((ldA r2.2.1 (nx + 1) (0 + Int.toNat n3 * 1)).bind fun v4 =>
    (asStr v4).bind fun s5 =>
    some ((.str s5), r2.2.1, r2.2.2))
    else none := by kernel_rfl

/-- quickset/quicksetkeep.snapName -/
theorem F16_eq (n : Nat) (Y : YldF) (x0 : Int) (h : AHeap) (nx : Nat) : callP Try.prog keepT (n + 1) Y 16 [(.int .i64 x0)] h nx =
    let h1 := AHeap.put h (nx + 1) (some ⟨[(.str (ByteArray.mk #[115])), (.str (ByteArray.mk #[116])), (.str (ByteArray.mk #[117, 48])), (.str (ByteArray.mk #[118]))], 1, true⟩)
    ((callP Try.prog keepT n) Y 15 [(.int .i64 x0), (.int .i64 4)] h1 (nx + 7)).bind fun r2 =>
    (asI .i64 r2.1).bind fun n3 =>
    if 0 ≤ (n3 : Int) ∧ n3 < ((4 : Nat) : Int) then
    ((ldA r2.2.1 (nx + 1) (0 + Int.toNat n3 * 1)).bind fun v4 =>
    (asStr v4).bind fun s5 =>
    some ((.str s5), r2.2.1, r2.2.2))
    else none := F16_eq' go1 n Y x0 h nx

noncomputable def c17 : Code := (Try.f17.body).getD .skip

noncomputable def r17 : List ResultVar := Try.f17.results.toList

noncomputable def F17_L1' (W J : StepF (AV × AHeap × Nat) → StepF (AV × AHeap × Nat)) (call : YldF → CallF) (Y : YldF) (lf : Nat) (n0 : Nat) (x4 : Option (Nat × Nat)) (x5a : Option (Nat × Nat)) (x5n : Nat) (x5c : Option Nat) (x12a : Option (Nat × Nat)) (x12n : Nat) (x12c : Option Nat) (x13 : Int) (x14 : Int) (h : AHeap) (nx : Nat) : Option (AV × AHeap × Nat) :=
  goK W J drawK (machOf Try.prog) call Y (keepT 17) lf c17 [1, 1, 1, 1, 0, 1, 0, 9] [n0] (retK (machOf Try.prog) ⟨c17, 26, r17, keepT 17⟩) ⟨26, mkL [(4, (.ptr x4)), (5, (.slice x5a x5n x5c)), (12, (.slice x12a x12n x12c)), (13, (.int .i64 x13)), (14, (.int .i64 x14))]⟩ h nx

noncomputable def F17_L1 (call : YldF → CallF) (Y : YldF) (lf : Nat) (n0 : Nat) (x4 : Option (Nat × Nat)) (x5a : Option (Nat × Nat)) (x5n : Nat) (x5c : Option Nat) (x12a : Option (Nat × Nat)) (x12n : Nat) (x12c : Option Nat) (x13 : Int) (x14 : Int) (h : AHeap) (nx : Nat) : Option (AV × AHeap × Nat) := F17_L1' go1 go1 call Y lf n0 x4 x5a x5n x5c x12a x12n x12c x13 x14 h nx

theorem F17_L1_eq' (J : StepF (AV × AHeap × Nat) → StepF (AV × AHeap × Nat)) (call : YldF → CallF) (Y : YldF) (lf : Nat) (n0 : Nat) (x4 : Option (Nat × Nat)) (x5a : Option (Nat × Nat)) (x5n : Nat) (x5c : Option Nat) (x12a : Option (Nat × Nat)) (x12n : Nat) (x12c : Option Nat) (x13 : Int) (x14 : Int) (h : AHeap) (nx : Nat) : F17_L1' go1 J call Y lf (n0 + 1) x4 x5a x5n x5c x12a x12n x12c x13 x14 h nx =
    if (decide ((x14 : Int) < x13)) = true then
    ((x12a).bind fun p1 =>
    if 0 ≤ (x14 : Int) ∧ x14 < ((x12n : Nat) : Int) then
    ((ldR h p1.1 (p1.2 + Int.toNat x14 * 8) 8).bind fun l2 =>
    (asAgg 8 (AV.agg l2)).bind fun d3 =>
    (asI .i64 (d3.getD 0 .bad)).bind fun n4 =>
    (asStr (d3.getD 1 .bad)).bind fun s5 =>
    (asStr (d3.getD 2 .bad)).bind fun s6 =>
    (asI .i64 (d3.getD 3 .bad)).bind fun n7 =>
    (asI .i64 (d3.getD 4 .bad)).bind fun n8 =>
    (asI .i64 (d3.getD 5 .bad)).bind fun n9 =>
    (asI .i64 (d3.getD 6 .bad)).bind fun n10 =>
    (asSl (d3.getD 7 .bad)).bind fun s11 =>
    let h12 := AHeap.put h (nx + 3) (some ⟨[(.int .i64 0), (.str (ByteArray.mk #[])), (.str (ByteArray.mk #[])), (.int .i64 0), (.int .i64 0), (.int .i64 0), (.int .i64 0), (.slice none 0 none)], 8, true⟩)
    (stA h12 (nx + 3) 0 (.agg [(.int .i64 n4), (.str s5), (.str s6), (.int .i64 n7), (.int .i64 n8), (.int .i64 n9), (.int .i64 n10), (.slice s11.1 s11.2.1 s11.2.2)]) 8).bind fun b13 =>
    let h14 := AHeap.put h12 (nx + 3) (some b13)
    (ldR h14 (nx + 3) 0 8).bind fun l15 =>
    (asAgg 8 (AV.agg l15)).bind fun d16 =>
    (asI .i64 (d16.getD 0 .bad)).bind fun n17 =>
    (asStr (d16.getD 1 .bad)).bind fun s18 =>
    (asStr (d16.getD 2 .bad)).bind fun s19 =>
    (asI .i64 (d16.getD 3 .bad)).bind fun n20 =>
    (asI .i64 (d16.getD 4 .bad)).bind fun n21 =>
    (asI .i64 (d16.getD 5 .bad)).bind fun n22 =>
    (asI .i64 (d16.getD 6 .bad)).bind fun n23 =>
    (asSl (d16.getD 7 .bad)).bind fun s24 =>
    (call Y 21 [(.ptr x4), (.agg [(.int .i64 n17), (.str s18), (.str s19), (.int .i64 n20), (.int .i64 n21), (.int .i64 n22), (.int .i64 n23), (.slice s24.1 s24.2.1 s24.2.2)])] h14 (nx + 12)).bind fun r25 =>
    (asAgg 5 r25.1).bind fun d26 =>
    (asI .i64 (d26.getD 0 .bad)).bind fun n27 =>
    (asB (d26.getD 1 .bad)).bind fun t28 =>
    (asI .i64 (d26.getD 2 .bad)).bind fun n29 =>
    (asSl (d26.getD 3 .bad)).bind fun s30 =>
    (asSl (d26.getD 4 .bad)).bind fun s31 =>
    let h32 := AHeap.put r25.2.1 (nx + 9) (some ⟨[(.int .i64 n27), (.bool t28), (.int .i64 n29), (.slice s30.1 s30.2.1 s30.2.2), (.slice s31.1 s31.2.1 s31.2.2)], 5, true⟩)
    (srcS h32 (some ((nx + 9), 0)) 1 5).bind fun q33 =>
    (appD h32 x5a x5n x5c 5 72 (nx + 10) q33).bind fun e34 =>
    let h35 := AHeap.puts h32 e34.sets
    F17_L1' J J call Y lf n0 x4 e34.a e34.n e34.c x12a x12n x12c x13 (wrapA .i64 (x14 + 1)) h35 (r25.2.2 + 2))
    else none)
    else
    (some ((.tuple [(.slice x5a x5n x5c), (.int .i64 0)]), h, (nx + 4))) := by kernel_rfl

theorem F17_L1_eq (call : YldF → CallF) (Y : YldF) (lf : Nat) (n0 : Nat) (x4 : Option (Nat × Nat)) (x5a : Option (Nat × Nat)) (x5n : Nat) (x5c : Option Nat) (x12a : Option (Nat × Nat)) (x12n : Nat) (x12c : Option Nat) (x13 : Int) (x14 : Int) (h : AHeap) (nx : Nat) : F17_L1 call Y lf (n0 + 1) x4 x5a x5n x5c x12a x12n x12c x13 x14 h nx =
    if (decide ((x14 : Int) < x13)) = true then
    ((x12a).bind fun p1 =>
    if 0 ≤ (x14 : Int) ∧ x14 < ((x12n : Nat) : Int) then
    ((ldR h p1.1 (p1.2 + Int.toNat x14 * 8) 8).bind fun l2 =>
    (asAgg 8 (AV.agg l2)).bind fun d3 =>
    (asI .i64 (d3.getD 0 .bad)).bind fun n4 =>
    (asStr (d3.getD 1 .bad)).bind fun s5 =>
    (asStr (d3.getD 2 .bad)).bind fun s6 =>
    (asI .i64 (d3.getD 3 .bad)).bind fun n7 =>
    (asI .i64 (d3.getD 4 .bad)).bind fun n8 =>
    (asI .i64 (d3.getD 5 .bad)).bind fun n9 =>
    (asI .i64 (d3.getD 6 .bad)).bind fun n10 =>
    (asSl (d3.getD 7 .bad)).bind fun s11 =>
    let h12 := AHeap.put h (nx + 3) (some ⟨[(.int .i64 0), (.str (ByteArray.mk #[])), (.str (ByteArray.mk #[])), (.int .i64 0), (.int .i64 0), (.int .i64 0), (.int .i64 0), (.slice none 0 none)], 8, true⟩)
    (stA h12 (nx + 3) 0 (.agg [(.int .i64 n4), (.str s5), (.str s6), (.int .i64 n7), (.int .i64 n8), (.int .i64 n9), (.int .i64 n10), (.slice s11.1 s11.2.1 s11.2.2)]) 8).bind fun b13 =>
    let h14 := AHeap.put h12 (nx + 3) (some b13)
    (ldR h14 (nx + 3) 0 8).bind fun l15 =>
    (asAgg 8 (AV.agg l15)).bind fun d16 =>
    (asI .i64 (d16.getD 0 .bad)).bind fun n17 =>
    (asStr (d16.getD 1 .bad)).bind fun s18 =>
    (asStr (d16.getD 2 .bad)).bind fun s19 =>
    (asI .i64 (d16.getD 3 .bad)).bind fun n20 =>
    (asI .i64 (d16.getD 4 .bad)).bind fun n21 =>
    (asI .i64 (d16.getD 5 .bad)).bind fun n22 =>
    (asI .i64 (d16.getD 6 .bad)).bind fun n23 =>
    (asSl (d16.getD 7 .bad)).bind fun s24 =>
    (call Y 21 [(.ptr x4), (.agg [(.int .i64 n17), (.str s18), (.str s19), (.int .i64 n20), (.int .i64 n21), (.int .i64 n22), (.int .i64 n23), (.slice s24.1 s24.2.1 s24.2.2)])] h14 (nx + 12)).bind fun r25 =>
    (asAgg 5 r25.1).bind fun d26 =>
    (asI .i64 (d26.getD 0 .bad)).bind fun n27 =>
    (asB (d26.getD 1 .bad)).bind fun t28 =>
    (asI .i64 (d26.getD 2 .bad)).bind fun n29 =>
    (asSl (d26.getD 3 .bad)).bind fun s30 =>
    (asSl (d26.getD 4 .bad)).bind fun s31 =>
    let h32 := AHeap.put r25.2.1 (nx + 9) (some ⟨[(.int .i64 n27), (.bool t28), (.int .i64 n29), (.slice s30.1 s30.2.1 s30.2.2), (.slice s31.1 s31.2.1 s31.2.2)], 5, true⟩)
    (srcS h32 (some ((nx + 9), 0)) 1 5).bind fun q33 =>
    (appD h32 x5a x5n x5c 5 72 (nx + 10) q33).bind fun e34 =>
    let h35 := AHeap.puts h32 e34.sets
    F17_L1 call Y lf n0 x4 e34.a e34.n e34.c x12a x12n x12c x13 (wrapA .i64 (x14 + 1)) h35 (r25.2.2 + 2))
    else none)
    else
    (some ((.tuple [(.slice x5a x5n x5c), (.int .i64 0)]), h, (nx + 4))) := F17_L1_eq' go1 call Y lf n0 x4 x5a x5n x5c x12a x12n x12c x13 x14 h nx

theorem F17_L1_zero (call : YldF → CallF) (Y : YldF) (lf : Nat) (x4 : Option (Nat × Nat)) (x5a : Option (Nat × Nat)) (x5n : Nat) (x5c : Option Nat) (x12a : Option (Nat × Nat)) (x12n : Nat) (x12c : Option Nat) (x13 : Int) (x14 : Int) (h : AHeap) (nx : Nat) : F17_L1 call Y lf 0 x4 x5a x5n x5c x12a x12n x12c x13 x14 h nx = none := by kernel_rfl

theorem F17_eq' (J : StepF (AV × AHeap × Nat) → StepF (AV × AHeap × Nat)) (n : Nat) (Y : YldF) (x0a : Option (Nat × Nat)) (x0n : Nat) (x0c : Option Nat) (h : AHeap) (nx : Nat) : rootJ J Try.prog keepT (callP Try.prog keepT n) Y n 17 [(.slice x0a x0n x0c)] h nx =
    if (decide ((((x0n : Nat) : Int) : Int) > 300)) = true then
    (some ((.tuple [(.slice none 0 none), (.int .i64 1)]), h, (nx + 7)))
    else
    (((callP Try.prog keepT n) Y 20 [(.slice none 0 none)] h (nx + 7)).bind fun r1 =>
    (asP r1.1).bind fun p2 =>
    F17_L1' J J (callP Try.prog keepT n) Y n n p2 none 0 none x0a x0n x0c ((x0n : Nat) : Int) 0 r1.2.1 (r1.2.2 + 4)) := by kernel_rfl

/-- quickset/pool.Play -/
theorem F17_eq (n : Nat) (Y : YldF) (x0a : Option (Nat × Nat)) (x0n : Nat) (x0c : Option Nat) (h : AHeap) (nx : Nat) : callP Try.prog keepT (n + 1) Y 17 [(.slice x0a x0n x0c)] h nx =
    if (decide ((((x0n : Nat) : Int) : Int) > 300)) = true then
    (some ((.tuple [(.slice none 0 none), (.int .i64 1)]), h, (nx + 7)))
    else
    (((callP Try.prog keepT n) Y 20 [(.slice none 0 none)] h (nx + 7)).bind fun r1 =>
    (asP r1.1).bind fun p2 =>
    F17_L1 (callP Try.prog keepT n) Y n n p2 none 0 none x0a x0n x0c ((x0n : Nat) : Int) 0 r1.2.1 (r1.2.2 + 4)) := F17_eq' go1 n Y x0a x0n x0c h nx

noncomputable def c18 : Code := (Try.f18.body).getD .skip

noncomputable def r18 : List ResultVar := Try.f18.results.toList

noncomputable def F18_L1' (W J : StepF (AV × AHeap × Nat) → StepF (AV × AHeap × Nat)) (call : YldF → CallF) (Y : YldF) (lf : Nat) (n0 : Nat) (x0a : Option (Nat × Nat)) (x0n : Nat) (x0c : Option Nat) (x1a : Option (Nat × Nat)) (x1n : Nat) (x1c : Option Nat) (x5 : Int) (h : AHeap) (nx : Nat) : Option (AV × AHeap × Nat) :=
  goK W J drawK (machOf Try.prog) call Y (keepT 18) lf c18 [1, 1, 0, 1, 0, 9] [n0] (retK (machOf Try.prog) ⟨c18, 26, r18, keepT 18⟩) ⟨26, mkL [(0, (.slice x0a x0n x0c)), (1, (.slice x1a x1n x1c)), (5, (.int .i64 x5))]⟩ h nx

noncomputable def F18_L1 (call : YldF → CallF) (Y : YldF) (lf : Nat) (n0 : Nat) (x0a : Option (Nat × Nat)) (x0n : Nat) (x0c : Option Nat) (x1a : Option (Nat × Nat)) (x1n : Nat) (x1c : Option Nat) (x5 : Int) (h : AHeap) (nx : Nat) : Option (AV × AHeap × Nat) := F18_L1' go1 go1 call Y lf n0 x0a x0n x0c x1a x1n x1c x5 h nx

theorem F18_L1_eq' (J : StepF (AV × AHeap × Nat) → StepF (AV × AHeap × Nat)) (call : YldF → CallF) (Y : YldF) (lf : Nat) (n0 : Nat) (x0a : Option (Nat × Nat)) (x0n : Nat) (x0c : Option Nat) (x1a : Option (Nat × Nat)) (x1n : Nat) (x1c : Option Nat) (x5 : Int) (h : AHeap) (nx : Nat) : F18_L1' go1 J call Y lf (n0 + 1) x0a x0n x0c x1a x1n x1c x5 h nx =
    if (decide ((x5 : Int) < ((x0n : Nat) : Int))) = true then
    ((x0a).bind fun p1 =>
    if 0 ≤ (x5 : Int) ∧ x5 < ((x0n : Nat) : Int) then
    ((ldA h p1.1 (p1.2 + Int.toNat x5 * 1)).bind fun v2 =>
    (asI .u8 v2).bind fun n3 =>
    (x1a).bind fun p4 =>
    if 0 ≤ (x5 : Int) ∧ x5 < ((x1n : Nat) : Int) then
    ((ldA h p4.1 (p4.2 + Int.toNat x5 * 1)).bind fun v5 =>
    (asI .u8 v5).bind fun n6 =>
    if ((n3 : Int) != n6) = true then
    (some ((.bool false), h, (nx + 14)))
    else
    (F18_L1' J J call Y lf n0 x0a x0n x0c x1a x1n x1c (wrapA .i64 (x5 + 1)) h (nx + 16)))
    else none)
    else none)
    else
    (some ((.bool true), h, (nx + 5))) := by kernel_rfl

theorem F18_L1_eq (call : YldF → CallF) (Y : YldF) (lf : Nat) (n0 : Nat) (x0a : Option (Nat × Nat)) (x0n : Nat) (x0c : Option Nat) (x1a : Option (Nat × Nat)) (x1n : Nat) (x1c : Option Nat) (x5 : Int) (h : AHeap) (nx : Nat) : F18_L1 call Y lf (n0 + 1) x0a x0n x0c x1a x1n x1c x5 h nx =
    if (decide ((x5 : Int) < ((x0n : Nat) : Int))) = true then
    ((x0a).bind fun p1 =>
    if 0 ≤ (x5 : Int) ∧ x5 < ((x0n : Nat) : Int) then
    ((ldA h p1.1 (p1.2 + Int.toNat x5 * 1)).bind fun v2 =>
    (asI .u8 v2).bind fun n3 =>
    (x1a).bind fun p4 =>
    if 0 ≤ (x5 : Int) ∧ x5 < ((x1n : Nat) : Int) then
    ((ldA h p4.1 (p4.2 + Int.toNat x5 * 1)).bind fun v5 =>
    (asI .u8 v5).bind fun n6 =>
    if ((n3 : Int) != n6) = true then
    (some ((.bool false), h, (nx + 14)))
    else
    (F18_L1 call Y lf n0 x0a x0n x0c x1a x1n x1c (wrapA .i64 (x5 + 1)) h (nx + 16)))
    else none)
    else none)
    else
    (some ((.bool true), h, (nx + 5))) := F18_L1_eq' go1 call Y lf n0 x0a x0n x0c x1a x1n x1c x5 h nx

theorem F18_L1_zero (call : YldF → CallF) (Y : YldF) (lf : Nat) (x0a : Option (Nat × Nat)) (x0n : Nat) (x0c : Option Nat) (x1a : Option (Nat × Nat)) (x1n : Nat) (x1c : Option Nat) (x5 : Int) (h : AHeap) (nx : Nat) : F18_L1 call Y lf 0 x0a x0n x0c x1a x1n x1c x5 h nx = none := by kernel_rfl

theorem F18_eq' (J : StepF (AV × AHeap × Nat) → StepF (AV × AHeap × Nat)) (n : Nat) (Y : YldF) (x0a : Option (Nat × Nat)) (x0n : Nat) (x0c : Option Nat) (x1a : Option (Nat × Nat)) (x1n : Nat) (x1c : Option Nat) (h : AHeap) (nx : Nat) : rootJ J Try.prog keepT (callP Try.prog keepT n) Y n 18 [(.slice x0a x0n x0c), (.slice x1a x1n x1c)] h nx =
    if ((((x0n : Nat) : Int) : Int) != ((x1n : Nat) : Int)) = true then
    (some ((.bool false), h, (nx + 7)))
    else
    (F18_L1' J J (callP Try.prog keepT n) Y n n x0a x0n x0c x1a x1n x1c 0 h (nx + 7)) := by kernel_rfl

/-- quickset/quicksetkeep.sameBytes -/
theorem F18_eq (n : Nat) (Y : YldF) (x0a : Option (Nat × Nat)) (x0n : Nat) (x0c : Option Nat) (x1a : Option (Nat × Nat)) (x1n : Nat) (x1c : Option Nat) (h : AHeap) (nx : Nat) : callP Try.prog keepT (n + 1) Y 18 [(.slice x0a x0n x0c), (.slice x1a x1n x1c)] h nx =
    if ((((x0n : Nat) : Int) : Int) != ((x1n : Nat) : Int)) = true then
    (some ((.bool false), h, (nx + 7)))
    else
    (F18_L1 (callP Try.prog keepT n) Y n n x0a x0n x0c x1a x1n x1c 0 h (nx + 7)) := F18_eq' go1 n Y x0a x0n x0c x1a x1n x1c h nx

noncomputable def c19 : Code := (Try.f19.body).getD .skip

noncomputable def r19 : List ResultVar := Try.f19.results.toList

noncomputable def F19_L1' (W J : StepF (AV × AHeap × Nat) → StepF (AV × AHeap × Nat)) (call : YldF → CallF) (Y : YldF) (lf : Nat) (n0 : Nat) (x0a : Option (Nat × Nat)) (x0n : Nat) (x0c : Option Nat) (x1a : Option (Nat × Nat)) (x1n : Nat) (x1c : Option Nat) (x5 : Int) (h : AHeap) (nx : Nat) : Option (AV × AHeap × Nat) :=
  goK W J drawK (machOf Try.prog) call Y (keepT 19) lf c19 [1, 1, 0, 1, 0, 9] [n0] (retK (machOf Try.prog) ⟨c19, 26, r19, keepT 19⟩) ⟨26, mkL [(0, (.slice x0a x0n x0c)), (1, (.slice x1a x1n x1c)), (5, (.int .i64 x5))]⟩ h nx

noncomputable def F19_L1 (call : YldF → CallF) (Y : YldF) (lf : Nat) (n0 : Nat) (x0a : Option (Nat × Nat)) (x0n : Nat) (x0c : Option Nat) (x1a : Option (Nat × Nat)) (x1n : Nat) (x1c : Option Nat) (x5 : Int) (h : AHeap) (nx : Nat) : Option (AV × AHeap × Nat) := F19_L1' go1 go1 call Y lf n0 x0a x0n x0c x1a x1n x1c x5 h nx

theorem F19_L1_eq' (J : StepF (AV × AHeap × Nat) → StepF (AV × AHeap × Nat)) (call : YldF → CallF) (Y : YldF) (lf : Nat) (n0 : Nat) (x0a : Option (Nat × Nat)) (x0n : Nat) (x0c : Option Nat) (x1a : Option (Nat × Nat)) (x1n : Nat) (x1c : Option Nat) (x5 : Int) (h : AHeap) (nx : Nat) : F19_L1' go1 J call Y lf (n0 + 1) x0a x0n x0c x1a x1n x1c x5 h nx =
    if (decide ((x5 : Int) < ((x0n : Nat) : Int))) = true then
    ((x0a).bind fun p1 =>
    if 0 ≤ (x5 : Int) ∧ x5 < ((x0n : Nat) : Int) then
    ((ldA h p1.1 (p1.2 + Int.toNat x5 * 1)).bind fun v2 =>
    (asStr v2).bind fun s3 =>
    (x1a).bind fun p4 =>
    if 0 ≤ (x5 : Int) ∧ x5 < ((x1n : Nat) : Int) then
    ((ldA h p4.1 (p4.2 + Int.toNat x5 * 1)).bind fun v5 =>
    (asStr v5).bind fun s6 =>
    if (!(s3.toList == s6.toList)) = true then
    (some ((.bool false), h, (nx + 14)))
    else
    (F19_L1' J J call Y lf n0 x0a x0n x0c x1a x1n x1c (wrapA .i64 (x5 + 1)) h (nx + 16)))
    else none)
    else none)
    else
    (some ((.bool true), h, (nx + 5))) := by kernel_rfl

theorem F19_L1_eq (call : YldF → CallF) (Y : YldF) (lf : Nat) (n0 : Nat) (x0a : Option (Nat × Nat)) (x0n : Nat) (x0c : Option Nat) (x1a : Option (Nat × Nat)) (x1n : Nat) (x1c : Option Nat) (x5 : Int) (h : AHeap) (nx : Nat) : F19_L1 call Y lf (n0 + 1) x0a x0n x0c x1a x1n x1c x5 h nx =
    if (decide ((x5 : Int) < ((x0n : Nat) : Int))) = true then
    ((x0a).bind fun p1 =>
    if 0 ≤ (x5 : Int) ∧ x5 < ((x0n : Nat) : Int) then
    ((ldA h p1.1 (p1.2 + Int.toNat x5 * 1)).bind fun v2 =>
    (asStr v2).bind fun s3 =>
    (x1a).bind fun p4 =>
    if 0 ≤ (x5 : Int) ∧ x5 < ((x1n : Nat) : Int) then
    ((ldA h p4.1 (p4.2 + Int.toNat x5 * 1)).bind fun v5 =>
    (asStr v5).bind fun s6 =>
    if (!(s3.toList == s6.toList)) = true then
    (some ((.bool false), h, (nx + 14)))
    else
    (F19_L1 call Y lf n0 x0a x0n x0c x1a x1n x1c (wrapA .i64 (x5 + 1)) h (nx + 16)))
    else none)
    else none)
    else
    (some ((.bool true), h, (nx + 5))) := F19_L1_eq' go1 call Y lf n0 x0a x0n x0c x1a x1n x1c x5 h nx

theorem F19_L1_zero (call : YldF → CallF) (Y : YldF) (lf : Nat) (x0a : Option (Nat × Nat)) (x0n : Nat) (x0c : Option Nat) (x1a : Option (Nat × Nat)) (x1n : Nat) (x1c : Option Nat) (x5 : Int) (h : AHeap) (nx : Nat) : F19_L1 call Y lf 0 x0a x0n x0c x1a x1n x1c x5 h nx = none := by kernel_rfl

theorem F19_eq' (J : StepF (AV × AHeap × Nat) → StepF (AV × AHeap × Nat)) (n : Nat) (Y : YldF) (x0a : Option (Nat × Nat)) (x0n : Nat) (x0c : Option Nat) (x1a : Option (Nat × Nat)) (x1n : Nat) (x1c : Option Nat) (h : AHeap) (nx : Nat) : rootJ J Try.prog keepT (callP Try.prog keepT n) Y n 19 [(.slice x0a x0n x0c), (.slice x1a x1n x1c)] h nx =
    if ((((x0n : Nat) : Int) : Int) != ((x1n : Nat) : Int)) = true then
    (some ((.bool false), h, (nx + 7)))
    else
    (F19_L1' J J (callP Try.prog keepT n) Y n n x0a x0n x0c x1a x1n x1c 0 h (nx + 7)) := by kernel_rfl

/-- quickset/quicksetkeep.sameTexts -/
theorem F19_eq (n : Nat) (Y : YldF) (x0a : Option (Nat × Nat)) (x0n : Nat) (x0c : Option Nat) (x1a : Option (Nat × Nat)) (x1n : Nat) (x1c : Option Nat) (h : AHeap) (nx : Nat) : callP Try.prog keepT (n + 1) Y 19 [(.slice x0a x0n x0c), (.slice x1a x1n x1c)] h nx =
    if ((((x0n : Nat) : Int) : Int) != ((x1n : Nat) : Int)) = true then
    (some ((.bool false), h, (nx + 7)))
    else
    (F19_L1 (callP Try.prog keepT n) Y n n x0a x0n x0c x1a x1n x1c 0 h (nx + 7)) := F19_eq' go1 n Y x0a x0n x0c x1a x1n x1c h nx

noncomputable def c20 : Code := (Try.f20.body).getD .skip

noncomputable def r20 : List ResultVar := Try.f20.results.toList

theorem F20_eq' (J : StepF (AV × AHeap × Nat) → StepF (AV × AHeap × Nat)) (n : Nat) (Y : YldF) (x0a : Option (Nat × Nat)) (x0n : Nat) (x0c : Option Nat) (h : AHeap) (nx : Nat) : rootJ J Try.prog keepT (callP Try.prog keepT n) Y n 20 [(.slice x0a x0n x0c)] h nx =
    let h1 := AHeap.put h (nx + 1) (some ⟨[], MB, true⟩)
    let h2 := AHeap.put h1 (nx + 2) (some ⟨[], MB, true⟩)
    let h3 := AHeap.put h2 (nx + 5) (some ⟨[(.mapv (some (nx + 1))), (.mapv (some (nx + 2))), (.slice x0a x0n x0c)], 3, true⟩)
    some ((.ptr (some ((nx + 5), 0))), h3, (nx + 7)) := by kernel_rfl

/-- quickset/pool.New[quickset/pool.flat] -/
theorem F20_eq (n : Nat) (Y : YldF) (x0a : Option (Nat × Nat)) (x0n : Nat) (x0c : Option Nat) (h : AHeap) (nx : Nat) : callP Try.prog keepT (n + 1) Y 20 [(.slice x0a x0n x0c)] h nx =
    let h1 := AHeap.put h (nx + 1) (some ⟨[], MB, true⟩)
    let h2 := AHeap.put h1 (nx + 2) (some ⟨[], MB, true⟩)
    let h3 := AHeap.put h2 (nx + 5) (some ⟨[(.mapv (some (nx + 1))), (.mapv (some (nx + 2))), (.slice x0a x0n x0c)], 3, true⟩)
    some ((.ptr (some ((nx + 5), 0))), h3, (nx + 7)) := F20_eq' go1 n Y x0a x0n x0c h nx

end Go.Proofs.Ytncmdbpoceilgaa.T
