/- Printed by mp.py: functions of the program as plain Lean, each by the kernel. -/
import Derived.Test.YtophneodoibcgaaTG
import Derived.Test.YtophneodoibcgaaProg
import Derived.KernelRfl
set_option linter.unusedVariables false
set_option linter.unusedSimpArgs false
namespace Go.Proofs.Ytophneodoibcgaa.T
open Go Go.RowKit Go.Proofs
set_option maxRecDepth 100000

def keepL : List (Nat × List (Nat × Bool × List Nat)) := [(3, [(0, false, [0, 1]), (1, false, [0, 1]), (2, false, [0, 1, 5]), (3, false, [0, 1, 5, 6]), (4, false, [0, 1, 5, 6]), (5, true, [0, 1, 5, 6]), (6, true, [1, 5]), (7, false, [1, 5, 7]), (8, false, [1, 5, 7, 8]), (9, false, [1, 5, 7, 8, 9]), (10, false, [1, 5, 7, 8, 9]), (11, false, [1, 5, 7, 8, 9]), (12, false, [1, 5, 7, 8, 9, 10]), (13, false, [5, 7]), (14, false, [7, 11, 12]), (15, false, [11, 12, 13, 14])]),
  (4, [(0, false, [0, 1, 2]), (1, false, [0, 1, 2]), (2, false, [1, 2, 7, 8]), (3, false, [7, 8, 9]), (4, false, [7, 8, 9, 10, 11]), (5, false, [7, 8, 9, 10, 11, 12, 13]), (6, false, [7, 8, 9, 10, 11, 12, 13, 14, 15]), (7, false, [7, 8, 9, 10, 11, 12, 13, 14, 15, 16, 17]), (8, false, []), (9, true, [7, 9, 10, 12, 14, 16]), (10, false, [9, 10, 12, 14, 16, 18])]),
  (5, [(0, false, [0, 1, 2, 3, 4]), (1, false, [0, 1, 2, 3, 4]), (2, false, [1, 2, 3, 4, 11, 12]), (3, false, [2, 3, 4, 11, 12, 13, 14]), (4, false, []), (5, true, [2, 3, 4, 11, 13]), (6, false, [4, 11, 13, 15]), (7, false, [11, 13, 15, 16]), (8, true, [11, 13, 15, 16, 17]), (9, false, [11, 13, 15, 16, 17, 18, 19]), (10, false, [11, 13, 16, 17, 18, 19, 20, 21]), (11, false, [11, 13, 16, 17, 18, 19, 20, 21, 22, 23]), (12, false, []), (13, true, [11, 13, 16, 17, 18, 20, 22]), (14, false, [13, 16, 17, 18, 20, 22, 24])]),
  (6, [(0, false, [0, 1]), (1, false, [0, 1]), (2, false, [1, 5, 6]), (3, false, [5, 6, 7]), (4, false, [5, 6, 7, 8, 9]), (5, false, []), (6, false, [5, 7, 8, 9]), (7, false, [5, 7, 8, 9, 10]), (8, false, [5, 7, 8, 9, 10, 11]), (9, false, [5, 7, 8, 9, 10, 11]), (10, false, [5, 7, 8, 9, 10, 11]), (11, false, [5, 7, 8, 9, 10, 11]), (12, false, [5, 7, 8, 9, 11]), (13, true, [5, 7, 8, 9, 10, 11]), (14, false, [7, 8, 9, 11]), (15, false, [8, 9])]),
  (7, [(0, false, [0, 1]), (1, false, [0, 1]), (2, false, [0, 1]), (3, false, [0, 1]), (4, false, [0])]),
  (8, [(0, false, [0, 1]), (1, false, [0, 1]), (2, false, [0, 1, 6]), (3, false, [0, 1, 6, 7]), (4, false, [0, 1, 6, 7]), (5, true, [0, 1, 6, 7]), (6, false, [0, 1, 7, 8, 9]), (7, false, []), (8, false, [0, 1, 7, 8]), (9, true, [6])]),
  (9, [(0, false, [0, 1]), (1, false, [0, 1]), (2, false, []), (3, false, [0, 1]), (4, false, [0, 1, 5]), (5, false, [0, 1, 5]), (6, false, [0, 1, 5]), (7, false, []), (8, false, [])]),
  (10, [(0, false, [0, 1]), (1, false, [0, 1, 4]), (2, false, [1, 4, 5])]),
  (11, [(0, false, [0, 1]), (1, false, [0, 3]), (2, false, []), (3, true, [0, 3])]),
  (12, [(0, false, [0, 1]), (1, false, [0, 3]), (2, false, []), (3, true, [0, 3])]),
  (13, [(0, false, [0, 1]), (1, false, [0, 1]), (2, false, []), (3, true, [0, 1])]),
  (14, [(0, false, [0]), (1, false, [0]), (2, false, [0, 3]), (3, false, [0, 3]), (4, false, [3, 8, 9, 10]), (5, false, [3, 8, 9, 10]), (6, false, [3, 5, 8, 9, 10]), (7, false, [3, 8, 9, 10]), (8, false, [3])]),
  (15, [(0, false, [0]), (1, false, [0]), (2, false, [0, 5, 6, 7]), (3, false, [0, 5, 6, 7]), (4, false, [0, 3, 4, 5, 6, 7]), (5, false, []), (6, false, [0, 5, 6, 7]), (7, false, [0])]),
  (16, [(0, false, [0, 1]), (1, false, [2, 3]), (2, false, []), (3, false, [2, 3]), (4, false, [2, 3, 5])]),
  (17, [(0, false, [0, 1]), (1, false, [0, 1]), (2, false, []), (3, false, [0, 1]), (4, false, []), (5, false, [0, 1]), (6, false, [1, 13, 14, 15]), (7, false, [1, 13, 14, 15]), (8, false, [1, 7, 13, 14, 15]), (9, false, [7]), (10, false, [1, 13, 14, 15]), (11, false, [])]),
  (18, [(0, false, [0]), (1, false, [1])]),
  (19, [(0, false, [0]), (1, false, [0]), (2, false, []), (3, false, [0])]),
  (20, [(0, false, [0, 1]), (1, false, [1, 2]), (2, false, [1, 2]), (3, false, [1, 2, 5]), (4, false, [1, 2, 5, 6, 7]), (5, false, [1, 2, 5, 6, 7, 8]), (6, false, [1, 2, 5, 6, 7, 8]), (7, false, [1, 2, 5, 6, 7, 8, 9]), (8, false, [1, 2, 5, 6, 7, 8, 9]), (9, true, [1, 2, 5, 6, 7, 8, 9]), (10, true, [1, 2, 5, 6, 7, 8, 9]), (11, false, [1, 2, 5, 6, 8, 9]), (12, false, [1, 2, 5, 6, 7, 8, 9]), (13, false, [1, 2, 5, 6, 7, 8, 9]), (14, false, [1, 2, 5, 6, 8]), (15, false, [5])]),
  (21, [(0, false, [0, 1]), (1, false, [0, 1]), (2, false, [0, 1, 5]), (3, false, [1, 5, 8, 9, 10]), (4, false, [1, 5, 8, 9, 10]), (5, false, [1, 5, 7, 8, 9, 10]), (6, false, [1, 5, 8, 9, 10]), (7, false, [5])]),
  (22, [(0, false, [0]), (1, false, [0])]),
  (23, [(0, false, [0]), (1, false, [0])]),
  (24, [(0, false, [0]), (1, false, [0])]),
  (25, [(0, false, [0, 1]), (1, false, [0, 1]), (2, false, [1, 5, 6]), (3, false, [1, 5, 6]), (4, false, [1, 5, 6, 7]), (5, false, [1, 6, 7]), (6, false, [1, 5, 7]), (7, false, [5])]),
  (26, [(0, false, [0, 1, 2]), (1, false, [0, 1, 2])]),
  (27, [(9000000, true, [2,46,28])]),
  (28, [(0, false, [0, 1, 2]), (1, false, [0, 1, 2])])]
def keepT : Nat → Keep := keepOf keepL

noncomputable def c3 : Code := (Try.f3.body).getD .skip

noncomputable def r3 : List ResultVar := Try.f3.results.toList

noncomputable def F3_L1' (W J : StepF (AV × AHeap × Nat) → StepF (AV × AHeap × Nat)) (call : YldF → CallF) (Y : YldF) (lf : Nat) (n0 : Nat) (x0a : Option (Nat × Nat)) (x0n : Nat) (x0c : Option Nat) (x1 : Int) (x5a : Option (Nat × Nat)) (x5n : Nat) (x5c : Option Nat) (x6 : Int) (h : AHeap) (nx : Nat) : Option (AV × AHeap × Nat) :=
  goK W J drawK (machOf Try.prog) call Y (keepT 3) lf c3 [1, 1, 0, 1, 0, 9] [n0] (retK (machOf Try.prog) ⟨c3, 88, r3, keepT 3⟩) ⟨88, mkL [(0, (.slice x0a x0n x0c)), (1, (.int .i64 x1)), (5, (.slice x5a x5n x5c)), (6, (.int .i64 x6))]⟩ h nx

noncomputable def F3_L1 (call : YldF → CallF) (Y : YldF) (lf : Nat) (n0 : Nat) (x0a : Option (Nat × Nat)) (x0n : Nat) (x0c : Option Nat) (x1 : Int) (x5a : Option (Nat × Nat)) (x5n : Nat) (x5c : Option Nat) (x6 : Int) (h : AHeap) (nx : Nat) : Option (AV × AHeap × Nat) := F3_L1' go1 go1 call Y lf n0 x0a x0n x0c x1 x5a x5n x5c x6 h nx

noncomputable def F3_J2' (W J : StepF (AV × AHeap × Nat) → StepF (AV × AHeap × Nat)) (call : YldF → CallF) (Y : YldF) (lf : Nat) (n0 : Nat) (x0a : Option (Nat × Nat)) (x0n : Nat) (x0c : Option Nat) (x1 : Int) (x5a : Option (Nat × Nat)) (x5n : Nat) (x5c : Option Nat) (x6 : Int) (h : AHeap) (nx : Nat) : Option (AV × AHeap × Nat) :=
  goK W J drawK (machOf Try.prog) call Y (keepT 3) lf c3 [1, 1, 0, 1, 0, 0, 1] [n0] (retK (machOf Try.prog) ⟨c3, 88, r3, keepT 3⟩) ⟨88, mkL [(0, (.slice x0a x0n x0c)), (1, (.int .i64 x1)), (5, (.slice x5a x5n x5c)), (6, (.int .i64 x6))]⟩ h nx

noncomputable def F3_J2 (call : YldF → CallF) (Y : YldF) (lf : Nat) (n0 : Nat) (x0a : Option (Nat × Nat)) (x0n : Nat) (x0c : Option Nat) (x1 : Int) (x5a : Option (Nat × Nat)) (x5n : Nat) (x5c : Option Nat) (x6 : Int) (h : AHeap) (nx : Nat) : Option (AV × AHeap × Nat) := F3_J2' go1 go1 call Y lf n0 x0a x0n x0c x1 x5a x5n x5c x6 h nx

noncomputable def F3_J3' (W J : StepF (AV × AHeap × Nat) → StepF (AV × AHeap × Nat)) (call : YldF → CallF) (Y : YldF) (lf : Nat) (x1 : Int) (x5a : Option (Nat × Nat)) (x5n : Nat) (x5c : Option Nat) (h : AHeap) (nx : Nat) : Option (AV × AHeap × Nat) :=
  goK W J drawK (machOf Try.prog) call Y (keepT 3) lf c3 [1, 1, 1] [] (retK (machOf Try.prog) ⟨c3, 88, r3, keepT 3⟩) ⟨88, mkL [(1, (.int .i64 x1)), (5, (.slice x5a x5n x5c))]⟩ h nx

noncomputable def F3_J3 (call : YldF → CallF) (Y : YldF) (lf : Nat) (x1 : Int) (x5a : Option (Nat × Nat)) (x5n : Nat) (x5c : Option Nat) (h : AHeap) (nx : Nat) : Option (AV × AHeap × Nat) := F3_J3' go1 go1 call Y lf x1 x5a x5n x5c h nx

noncomputable def F3_L4' (W J : StepF (AV × AHeap × Nat) → StepF (AV × AHeap × Nat)) (call : YldF → CallF) (Y : YldF) (lf : Nat) (n0 : Nat) (x1 : Int) (x5a : Option (Nat × Nat)) (x5n : Nat) (x5c : Option Nat) (x7a : Option (Nat × Nat)) (x7n : Nat) (x7c : Option Nat) (x8 : Int) (x9 : Int) (h : AHeap) (nx : Nat) : Option (AV × AHeap × Nat) :=
  goK W J drawK (machOf Try.prog) call Y (keepT 3) lf c3 [1, 1, 1, 1, 1, 0, 1, 0, 9] [n0] (retK (machOf Try.prog) ⟨c3, 88, r3, keepT 3⟩) ⟨88, mkL [(1, (.int .i64 x1)), (5, (.slice x5a x5n x5c)), (7, (.slice x7a x7n x7c)), (8, (.int .i64 x8)), (9, (.int .i64 x9))]⟩ h nx

noncomputable def F3_L4 (call : YldF → CallF) (Y : YldF) (lf : Nat) (n0 : Nat) (x1 : Int) (x5a : Option (Nat × Nat)) (x5n : Nat) (x5c : Option Nat) (x7a : Option (Nat × Nat)) (x7n : Nat) (x7c : Option Nat) (x8 : Int) (x9 : Int) (h : AHeap) (nx : Nat) : Option (AV × AHeap × Nat) := F3_L4' go1 go1 call Y lf n0 x1 x5a x5n x5c x7a x7n x7c x8 x9 h nx

theorem F3_L1_eq' (J : StepF (AV × AHeap × Nat) → StepF (AV × AHeap × Nat)) (call : YldF → CallF) (Y : YldF) (lf : Nat) (n0 : Nat) (x0a : Option (Nat × Nat)) (x0n : Nat) (x0c : Option Nat) (x1 : Int) (x5a : Option (Nat × Nat)) (x5n : Nat) (x5c : Option Nat) (x6 : Int) (h : AHeap) (nx : Nat) : F3_L1' go1 J call Y lf (n0 + 1) x0a x0n x0c x1 x5a x5n x5c x6 h nx =
    if (decide (((wrapA .i64 (x6 + 1)) : Int) < ((x0n : Nat) : Int))) = true then
    (if (decide ((x6 : Int) < 24)) = true then
    (F3_J2' J J call Y lf n0 x0a x0n x0c x1 x5a x5n x5c x6 h (nx + 9))
    else
    (F3_J3' J J call Y lf x1 x5a x5n x5c h (nx + 9)))
    else
    (F3_J3' J J call Y lf x1 x5a x5n x5c h (nx + 9)) := by kernel_rfl

theorem F3_L1_eq (call : YldF → CallF) (Y : YldF) (lf : Nat) (n0 : Nat) (x0a : Option (Nat × Nat)) (x0n : Nat) (x0c : Option Nat) (x1 : Int) (x5a : Option (Nat × Nat)) (x5n : Nat) (x5c : Option Nat) (x6 : Int) (h : AHeap) (nx : Nat) : F3_L1 call Y lf (n0 + 1) x0a x0n x0c x1 x5a x5n x5c x6 h nx =
    if (decide (((wrapA .i64 (x6 + 1)) : Int) < ((x0n : Nat) : Int))) = true then
    (if (decide ((x6 : Int) < 24)) = true then
    (F3_J2 call Y lf n0 x0a x0n x0c x1 x5a x5n x5c x6 h (nx + 9))
    else
    (F3_J3 call Y lf x1 x5a x5n x5c h (nx + 9)))
    else
    (F3_J3 call Y lf x1 x5a x5n x5c h (nx + 9)) := F3_L1_eq' go1 call Y lf n0 x0a x0n x0c x1 x5a x5n x5c x6 h nx

theorem F3_L1_zero (call : YldF → CallF) (Y : YldF) (lf : Nat) (x0a : Option (Nat × Nat)) (x0n : Nat) (x0c : Option Nat) (x1 : Int) (x5a : Option (Nat × Nat)) (x5n : Nat) (x5c : Option Nat) (x6 : Int) (h : AHeap) (nx : Nat) : F3_L1 call Y lf 0 x0a x0n x0c x1 x5a x5n x5c x6 h nx = none := by kernel_rfl

theorem F3_J2_eq' (J : StepF (AV × AHeap × Nat) → StepF (AV × AHeap × Nat)) (call : YldF → CallF) (Y : YldF) (lf : Nat) (n0 : Nat) (x0a : Option (Nat × Nat)) (x0n : Nat) (x0c : Option Nat) (x1 : Int) (x5a : Option (Nat × Nat)) (x5n : Nat) (x5c : Option Nat) (x6 : Int) (h : AHeap) (nx : Nat) : F3_J2' go1 J call Y lf n0 x0a x0n x0c x1 x5a x5n x5c x6 h nx =
    (x0a).bind fun p1 =>
    if 0 ≤ (x6 : Int) ∧ x6 < ((x0n : Nat) : Int) then
    ((ldA h p1.1 (p1.2 + Int.toNat x6 * 1)).bind fun v2 =>
    (asI .i64 v2).bind fun n3 =>
    (x0a).bind fun p4 =>
    if 0 ≤ ((wrapA .i64 (x6 + 1)) : Int) ∧ (wrapA .i64 (x6 + 1)) < ((x0n : Nat) : Int) then
    ((ldA h p4.1 (p4.2 + Int.toNat (wrapA .i64 (x6 + 1)) * 1)).bind fun v5 =>
    (asI .i64 v5).bind fun n6 =>
    let h7 := AHeap.put h (nx + 10) (some ⟨[(.int .i64 n3), (.int .i64 n6)], 1, true⟩)
    (srcS h7 (some ((nx + 10), 0)) 2 1).bind fun q8 =>
    (appD h7 x5a x5n x5c 1 8 (nx + 11) q8).bind fun e9 =>
    let h10 := AHeap.puts h7 e9.sets
    F3_L1' J J call Y lf n0 x0a x0n x0c x1 e9.a e9.n e9.c (wrapA .i64 (x6 + 2)) h10 (nx + 16))
    else none)
    else none := by kernel_rfl

theorem F3_J2_eq (call : YldF → CallF) (Y : YldF) (lf : Nat) (n0 : Nat) (x0a : Option (Nat × Nat)) (x0n : Nat) (x0c : Option Nat) (x1 : Int) (x5a : Option (Nat × Nat)) (x5n : Nat) (x5c : Option Nat) (x6 : Int) (h : AHeap) (nx : Nat) : F3_J2 call Y lf n0 x0a x0n x0c x1 x5a x5n x5c x6 h nx =
    (x0a).bind fun p1 =>
    if 0 ≤ (x6 : Int) ∧ x6 < ((x0n : Nat) : Int) then
    ((ldA h p1.1 (p1.2 + Int.toNat x6 * 1)).bind fun v2 =>
    (asI .i64 v2).bind fun n3 =>
    (x0a).bind fun p4 =>
    if 0 ≤ ((wrapA .i64 (x6 + 1)) : Int) ∧ (wrapA .i64 (x6 + 1)) < ((x0n : Nat) : Int) then
    ((ldA h p4.1 (p4.2 + Int.toNat (wrapA .i64 (x6 + 1)) * 1)).bind fun v5 =>
    (asI .i64 v5).bind fun n6 =>
    let h7 := AHeap.put h (nx + 10) (some ⟨[(.int .i64 n3), (.int .i64 n6)], 1, true⟩)
    (srcS h7 (some ((nx + 10), 0)) 2 1).bind fun q8 =>
    (appD h7 x5a x5n x5c 1 8 (nx + 11) q8).bind fun e9 =>
    let h10 := AHeap.puts h7 e9.sets
    F3_L1 call Y lf n0 x0a x0n x0c x1 e9.a e9.n e9.c (wrapA .i64 (x6 + 2)) h10 (nx + 16))
    else none)
    else none := F3_J2_eq' go1 call Y lf n0 x0a x0n x0c x1 x5a x5n x5c x6 h nx

theorem F3_J3_eq' (J : StepF (AV × AHeap × Nat) → StepF (AV × AHeap × Nat)) (call : YldF → CallF) (Y : YldF) (lf : Nat) (x1 : Int) (x5a : Option (Nat × Nat)) (x5n : Nat) (x5c : Option Nat) (h : AHeap) (nx : Nat) : F3_J3' go1 J call Y lf x1 x5a x5n x5c h nx =
    F3_L4' J J call Y lf lf x1 x5a x5n x5c none 0 none (wrapA .i64 (Int.tdiv ((x5n : Nat) : Int) 2)) 0 h (nx + 6) := by kernel_rfl

theorem F3_J3_eq (call : YldF → CallF) (Y : YldF) (lf : Nat) (x1 : Int) (x5a : Option (Nat × Nat)) (x5n : Nat) (x5c : Option Nat) (h : AHeap) (nx : Nat) : F3_J3 call Y lf x1 x5a x5n x5c h nx =
    F3_L4 call Y lf lf x1 x5a x5n x5c none 0 none (wrapA .i64 (Int.tdiv ((x5n : Nat) : Int) 2)) 0 h (nx + 6) := F3_J3_eq' go1 call Y lf x1 x5a x5n x5c h nx

theorem F3_L4_eq' (J : StepF (AV × AHeap × Nat) → StepF (AV × AHeap × Nat)) (call : YldF → CallF) (Y : YldF) (lf : Nat) (n0 : Nat) (x1 : Int) (x5a : Option (Nat × Nat)) (x5n : Nat) (x5c : Option Nat) (x7a : Option (Nat × Nat)) (x7n : Nat) (x7c : Option Nat) (x8 : Int) (x9 : Int) (h : AHeap) (nx : Nat) : F3_L4' go1 J call Y lf (n0 + 1) x1 x5a x5n x5c x7a x7n x7c x8 x9 h nx =
    if (decide ((x9 : Int) < x8)) = true then
    ((call Y 7 [(.int .i64 x1), (.int .i64 x8)] h (nx + 11)).bind fun r1 =>
    (asI .i64 r1.1).bind fun n2 =>
    if (x8 : Int) = 0 then none else
    ((x5a).bind fun p3 =>
    if 0 ≤ ((wrapA .i64 (2 * (Int.tmod (wrapA .i64 (x9 + n2)) x8))) : Int) ∧ (wrapA .i64 (2 * (Int.tmod (wrapA .i64 (x9 + n2)) x8))) < ((x5n : Nat) : Int) then
    ((ldA r1.2.1 p3.1 (p3.2 + Int.toNat (wrapA .i64 (2 * (Int.tmod (wrapA .i64 (x9 + n2)) x8))) * 1)).bind fun v4 =>
    (asI .i64 v4).bind fun n5 =>
    (x5a).bind fun p6 =>
    if 0 ≤ ((wrapA .i64 ((wrapA .i64 (2 * (Int.tmod (wrapA .i64 (x9 + n2)) x8))) + 1)) : Int) ∧ (wrapA .i64 ((wrapA .i64 (2 * (Int.tmod (wrapA .i64 (x9 + n2)) x8))) + 1)) < ((x5n : Nat) : Int) then
    ((ldA r1.2.1 p6.1 (p6.2 + Int.toNat (wrapA .i64 ((wrapA .i64 (2 * (Int.tmod (wrapA .i64 (x9 + n2)) x8))) + 1)) * 1)).bind fun v7 =>
    (asI .i64 v7).bind fun n8 =>
    let h9 := AHeap.put r1.2.1 (r1.2.2 + 11) (some ⟨[(.int .i64 n5), (.int .i64 n8)], 1, true⟩)
    (srcS h9 x7a x7n 1).bind fun q10 =>
    (appD h9 (some ((r1.2.2 + 11), 0)) 2 (some 2) 1 8 (r1.2.2 + 13) q10).bind fun e11 =>
    let h12 := AHeap.puts h9 e11.sets
    F3_L4' J J call Y lf n0 x1 x5a x5n x5c e11.a e11.n e11.c x8 (wrapA .i64 (x9 + 1)) h12 (r1.2.2 + 18))
    else none)
    else none))
    else
    ((call Y 8 [(.slice x5a x5n x5c), (.int .i64 12)] h (nx + 10)).bind fun r13 =>
    (asTup 2 r13.1).bind fun d14 =>
    (asSl (d14.getD 0 .bad)).bind fun s15 =>
    (asB (d14.getD 1 .bad)).bind fun t16 =>
    (srcS r13.2.1 x7a x7n 1).bind fun q17 =>
    (appD r13.2.1 x7a x7n x7c 1 8 (r13.2.2 + 2) q17).bind fun e18 =>
    let h19 := AHeap.puts r13.2.1 e18.sets
    (call Y 8 [(.slice e18.a e18.n e18.c), (.int .i64 24)] h19 (r13.2.2 + 9)).bind fun r20 =>
    (asTup 2 r20.1).bind fun d21 =>
    (asSl (d21.getD 0 .bad)).bind fun s22 =>
    (asB (d21.getD 1 .bad)).bind fun t23 =>
    if t16 = true then
    (if t23 = true then
    ((call Y 9 [(.slice s15.1 s15.2.1 s15.2.2), (.slice s22.1 s22.2.1 s22.2.2)] r20.2.1 (r20.2.2 + 10)).bind fun r24 =>
    (asB r24.1).bind fun t25 =>
    some ((.bool t25), r24.2.1, r24.2.2))
    else
    (some ((.bool false), r20.2.1, (r20.2.2 + 10))))
    else
    (some ((.bool false), r20.2.1, (r20.2.2 + 10)))) := by kernel_rfl

theorem F3_L4_eq (call : YldF → CallF) (Y : YldF) (lf : Nat) (n0 : Nat) (x1 : Int) (x5a : Option (Nat × Nat)) (x5n : Nat) (x5c : Option Nat) (x7a : Option (Nat × Nat)) (x7n : Nat) (x7c : Option Nat) (x8 : Int) (x9 : Int) (h : AHeap) (nx : Nat) : F3_L4 call Y lf (n0 + 1) x1 x5a x5n x5c x7a x7n x7c x8 x9 h nx =
    if (decide ((x9 : Int) < x8)) = true then
    ((call Y 7 [(.int .i64 x1), (.int .i64 x8)] h (nx + 11)).bind fun r1 =>
    (asI .i64 r1.1).bind fun n2 =>
    if (x8 : Int) = 0 then none else
    ((x5a).bind fun p3 =>
    if 0 ≤ ((wrapA .i64 (2 * (Int.tmod (wrapA .i64 (x9 + n2)) x8))) : Int) ∧ (wrapA .i64 (2 * (Int.tmod (wrapA .i64 (x9 + n2)) x8))) < ((x5n : Nat) : Int) then
    ((ldA r1.2.1 p3.1 (p3.2 + Int.toNat (wrapA .i64 (2 * (Int.tmod (wrapA .i64 (x9 + n2)) x8))) * 1)).bind fun v4 =>
    (asI .i64 v4).bind fun n5 =>
    (x5a).bind fun p6 =>
    if 0 ≤ ((wrapA .i64 ((wrapA .i64 (2 * (Int.tmod (wrapA .i64 (x9 + n2)) x8))) + 1)) : Int) ∧ (wrapA .i64 ((wrapA .i64 (2 * (Int.tmod (wrapA .i64 (x9 + n2)) x8))) + 1)) < ((x5n : Nat) : Int) then
    ((ldA r1.2.1 p6.1 (p6.2 + Int.toNat (wrapA .i64 ((wrapA .i64 (2 * (Int.tmod (wrapA .i64 (x9 + n2)) x8))) + 1)) * 1)).bind fun v7 =>
    (asI .i64 v7).bind fun n8 =>
    let h9 := AHeap.put r1.2.1 (r1.2.2 + 11) (some ⟨[(.int .i64 n5), (.int .i64 n8)], 1, true⟩)
    (srcS h9 x7a x7n 1).bind fun q10 =>
    (appD h9 (some ((r1.2.2 + 11), 0)) 2 (some 2) 1 8 (r1.2.2 + 13) q10).bind fun e11 =>
    let h12 := AHeap.puts h9 e11.sets
    F3_L4 call Y lf n0 x1 x5a x5n x5c e11.a e11.n e11.c x8 (wrapA .i64 (x9 + 1)) h12 (r1.2.2 + 18))
    else none)
    else none))
    else
    ((call Y 8 [(.slice x5a x5n x5c), (.int .i64 12)] h (nx + 10)).bind fun r13 =>
    (asTup 2 r13.1).bind fun d14 =>
    (asSl (d14.getD 0 .bad)).bind fun s15 =>
    (asB (d14.getD 1 .bad)).bind fun t16 =>
    (srcS r13.2.1 x7a x7n 1).bind fun q17 =>
    (appD r13.2.1 x7a x7n x7c 1 8 (r13.2.2 + 2) q17).bind fun e18 =>
    let h19 := AHeap.puts r13.2.1 e18.sets
    (call Y 8 [(.slice e18.a e18.n e18.c), (.int .i64 24)] h19 (r13.2.2 + 9)).bind fun r20 =>
    (asTup 2 r20.1).bind fun d21 =>
    (asSl (d21.getD 0 .bad)).bind fun s22 =>
    (asB (d21.getD 1 .bad)).bind fun t23 =>
    if t16 = true then
    (if t23 = true then
    ((call Y 9 [(.slice s15.1 s15.2.1 s15.2.2), (.slice s22.1 s22.2.1 s22.2.2)] r20.2.1 (r20.2.2 + 10)).bind fun r24 =>
    (asB r24.1).bind fun t25 =>
    some ((.bool t25), r24.2.1, r24.2.2))
    else
    (some ((.bool false), r20.2.1, (r20.2.2 + 10))))
    else
    (some ((.bool false), r20.2.1, (r20.2.2 + 10)))) := F3_L4_eq' go1 call Y lf n0 x1 x5a x5n x5c x7a x7n x7c x8 x9 h nx

theorem F3_L4_zero (call : YldF → CallF) (Y : YldF) (lf : Nat) (x1 : Int) (x5a : Option (Nat × Nat)) (x5n : Nat) (x5c : Option Nat) (x7a : Option (Nat × Nat)) (x7n : Nat) (x7c : Option Nat) (x8 : Int) (x9 : Int) (h : AHeap) (nx : Nat) : F3_L4 call Y lf 0 x1 x5a x5n x5c x7a x7n x7c x8 x9 h nx = none := by kernel_rfl

theorem F3_eq' (J : StepF (AV × AHeap × Nat) → StepF (AV × AHeap × Nat)) (n : Nat) (Y : YldF) (x0a : Option (Nat × Nat)) (x0n : Nat) (x0c : Option Nat) (x1 : Int) (h : AHeap) (nx : Nat) : rootJ J Try.prog keepT (callP Try.prog keepT n) Y n 3 [(.slice x0a x0n x0c), (.int .i64 x1)] h nx =
    F3_L1' J J (callP Try.prog keepT n) Y n n x0a x0n x0c x1 none 0 none 0 h (nx + 3) := by kernel_rfl

/-- quickset/quicksetkeep.SpanSame -/
theorem F3_eq (n : Nat) (Y : YldF) (x0a : Option (Nat × Nat)) (x0n : Nat) (x0c : Option Nat) (x1 : Int) (h : AHeap) (nx : Nat) : callP Try.prog keepT (n + 1) Y 3 [(.slice x0a x0n x0c), (.int .i64 x1)] h nx =
    F3_L1 (callP Try.prog keepT n) Y n n x0a x0n x0c x1 none 0 none 0 h (nx + 3) := F3_eq' go1 n Y x0a x0n x0c x1 h nx

noncomputable def c4 : Code := (Try.f4.body).getD .skip

noncomputable def r4 : List ResultVar := Try.f4.results.toList

noncomputable def F4_J1' (W J : StepF (AV × AHeap × Nat) → StepF (AV × AHeap × Nat)) (call : YldF → CallF) (Y : YldF) (lf : Nat) (x7a : Option (Nat × Nat)) (x7n : Nat) (x7c : Option Nat) (x9 : Option (Nat × Nat)) (x10a : Option (Nat × Nat)) (x10n : Nat) (x10c : Option Nat) (x12a : Option (Nat × Nat)) (x12n : Nat) (x12c : Option Nat) (x14a : Option (Nat × Nat)) (x14n : Nat) (x14c : Option Nat) (x16a : Option (Nat × Nat)) (x16n : Nat) (x16c : Option Nat) (h : AHeap) (nx : Nat) : Option (AV × AHeap × Nat) :=
  goK W J drawK (machOf Try.prog) call Y (keepT 4) lf c4 [1, 1, 1, 1, 1, 1, 1, 1] [] (retK (machOf Try.prog) ⟨c4, 105, r4, keepT 4⟩) ⟨105, mkL [(7, (.slice x7a x7n x7c)), (9, (.ptr x9)), (10, (.slice x10a x10n x10c)), (12, (.slice x12a x12n x12c)), (14, (.slice x14a x14n x14c)), (16, (.slice x16a x16n x16c))]⟩ h nx

noncomputable def F4_J1 (call : YldF → CallF) (Y : YldF) (lf : Nat) (x7a : Option (Nat × Nat)) (x7n : Nat) (x7c : Option Nat) (x9 : Option (Nat × Nat)) (x10a : Option (Nat × Nat)) (x10n : Nat) (x10c : Option Nat) (x12a : Option (Nat × Nat)) (x12n : Nat) (x12c : Option Nat) (x14a : Option (Nat × Nat)) (x14n : Nat) (x14c : Option Nat) (x16a : Option (Nat × Nat)) (x16n : Nat) (x16c : Option Nat) (h : AHeap) (nx : Nat) : Option (AV × AHeap × Nat) := F4_J1' go1 go1 call Y lf x7a x7n x7c x9 x10a x10n x10c x12a x12n x12c x14a x14n x14c x16a x16n x16c h nx

theorem F4_J1_eq' (J : StepF (AV × AHeap × Nat) → StepF (AV × AHeap × Nat)) (call : YldF → CallF) (Y : YldF) (lf : Nat) (x7a : Option (Nat × Nat)) (x7n : Nat) (x7c : Option Nat) (x9 : Option (Nat × Nat)) (x10a : Option (Nat × Nat)) (x10n : Nat) (x10c : Option Nat) (x12a : Option (Nat × Nat)) (x12n : Nat) (x12c : Option Nat) (x14a : Option (Nat × Nat)) (x14n : Nat) (x14c : Option Nat) (x16a : Option (Nat × Nat)) (x16n : Nat) (x16c : Option Nat) (h : AHeap) (nx : Nat) : F4_J1' go1 J call Y lf x7a x7n x7c x9 x10a x10n x10c x12a x12n x12c x14a x14n x14c x16a x16n x16c h nx =
    (call Y 14 [(.slice x7a x7n x7c)] h (nx + 3)).bind fun r1 =>
    (asI .i64 r1.1).bind fun n2 =>
    if (decide ((n2 : Int) ≥ 0)) = true then
    (if (decide ((n2 : Int) < 1048576)) = true then
    ((call Y 14 [(.slice x10a x10n x10c)] r1.2.1 (r1.2.2 + 34)).bind fun r3 =>
    (asI .i64 r3.1).bind fun n4 =>
    (call Y 14 [(.slice x12a x12n x12c)] r3.2.1 r3.2.2).bind fun r5 =>
    (asI .i64 r5.1).bind fun n6 =>
    (x9).bind fun p7 =>
    (ldA r5.2.1 p7.1 (p7.2 + 1)).bind fun v8 =>
    (asI .i64 v8).bind fun n9 =>
    (x9).bind fun p10 =>
    (ldA r5.2.1 p10.1 p10.2).bind fun v11 =>
    (asI .i64 v11).bind fun n12 =>
    if ((n4 : Int) == (wrapA .i64 ((wrapA .i64 (n6 + n9)) - n12))) = true then
    ((call Y 14 [(.slice x12a x12n x12c)] r5.2.1 r5.2.2).bind fun r13 =>
    (asI .i64 r13.1).bind fun n14 =>
    (call Y 14 [(.slice x14a x14n x14c)] r13.2.1 r13.2.2).bind fun r15 =>
    (asI .i64 r15.1).bind fun n16 =>
    if (((wrapA .i64 (n14 + n16)) : Int) == n2) = true then
    ((call Y 9 [(.slice x16a x16n x16c), (.slice x12a x12n x12c)] r15.2.1 r15.2.2).bind fun r17 =>
    (asB r17.1).bind fun t18 =>
    ifKept [(r1.2.1, r3.2.1, [p7.1]), (r1.2.1, r3.2.1, [p10.1]), (r3.2.1, r5.2.1, [p7.1]), (r3.2.1, r5.2.1, [p10.1])]
    (some ((.bool t18), r17.2.1, r17.2.2)))
    else
    (ifKept [(r1.2.1, r3.2.1, [p7.1]), (r1.2.1, r3.2.1, [p10.1]), (r3.2.1, r5.2.1, [p7.1]), (r3.2.1, r5.2.1, [p10.1])]
    (some ((.bool false), r15.2.1, r15.2.2))))
    else
    (ifKept [(r1.2.1, r3.2.1, [p7.1]), (r1.2.1, r3.2.1, [p10.1]), (r3.2.1, r5.2.1, [p7.1]), (r3.2.1, r5.2.1, [p10.1])]
    (some ((.bool false), r5.2.1, r5.2.2))))
    else
    (some ((.bool false), r1.2.1, (r1.2.2 + 34))))
    else
    (some ((.bool false), r1.2.1, (r1.2.2 + 34))) := by kernel_rfl

theorem F4_J1_eq (call : YldF → CallF) (Y : YldF) (lf : Nat) (x7a : Option (Nat × Nat)) (x7n : Nat) (x7c : Option Nat) (x9 : Option (Nat × Nat)) (x10a : Option (Nat × Nat)) (x10n : Nat) (x10c : Option Nat) (x12a : Option (Nat × Nat)) (x12n : Nat) (x12c : Option Nat) (x14a : Option (Nat × Nat)) (x14n : Nat) (x14c : Option Nat) (x16a : Option (Nat × Nat)) (x16n : Nat) (x16c : Option Nat) (h : AHeap) (nx : Nat) : F4_J1 call Y lf x7a x7n x7c x9 x10a x10n x10c x12a x12n x12c x14a x14n x14c x16a x16n x16c h nx =
    (call Y 14 [(.slice x7a x7n x7c)] h (nx + 3)).bind fun r1 =>
    (asI .i64 r1.1).bind fun n2 =>
    if (decide ((n2 : Int) ≥ 0)) = true then
    (if (decide ((n2 : Int) < 1048576)) = true then
    ((call Y 14 [(.slice x10a x10n x10c)] r1.2.1 (r1.2.2 + 34)).bind fun r3 =>
    (asI .i64 r3.1).bind fun n4 =>
    (call Y 14 [(.slice x12a x12n x12c)] r3.2.1 r3.2.2).bind fun r5 =>
    (asI .i64 r5.1).bind fun n6 =>
    (x9).bind fun p7 =>
    (ldA r5.2.1 p7.1 (p7.2 + 1)).bind fun v8 =>
    (asI .i64 v8).bind fun n9 =>
    (x9).bind fun p10 =>
    (ldA r5.2.1 p10.1 p10.2).bind fun v11 =>
    (asI .i64 v11).bind fun n12 =>
    if ((n4 : Int) == (wrapA .i64 ((wrapA .i64 (n6 + n9)) - n12))) = true then
    ((call Y 14 [(.slice x12a x12n x12c)] r5.2.1 r5.2.2).bind fun r13 =>
    (asI .i64 r13.1).bind fun n14 =>
    (call Y 14 [(.slice x14a x14n x14c)] r13.2.1 r13.2.2).bind fun r15 =>
    (asI .i64 r15.1).bind fun n16 =>
    if (((wrapA .i64 (n14 + n16)) : Int) == n2) = true then
    ((call Y 9 [(.slice x16a x16n x16c), (.slice x12a x12n x12c)] r15.2.1 r15.2.2).bind fun r17 =>
    (asB r17.1).bind fun t18 =>
    ifKept [(r1.2.1, r3.2.1, [p7.1]), (r1.2.1, r3.2.1, [p10.1]), (r3.2.1, r5.2.1, [p7.1]), (r3.2.1, r5.2.1, [p10.1])]
    (some ((.bool t18), r17.2.1, r17.2.2)))
    else
    (ifKept [(r1.2.1, r3.2.1, [p7.1]), (r1.2.1, r3.2.1, [p10.1]), (r3.2.1, r5.2.1, [p7.1]), (r3.2.1, r5.2.1, [p10.1])]
    (some ((.bool false), r15.2.1, r15.2.2))))
    else
    (ifKept [(r1.2.1, r3.2.1, [p7.1]), (r1.2.1, r3.2.1, [p10.1]), (r3.2.1, r5.2.1, [p7.1]), (r3.2.1, r5.2.1, [p10.1])]
    (some ((.bool false), r5.2.1, r5.2.2))))
    else
    (some ((.bool false), r1.2.1, (r1.2.2 + 34))))
    else
    (some ((.bool false), r1.2.1, (r1.2.2 + 34))) := F4_J1_eq' go1 call Y lf x7a x7n x7c x9 x10a x10n x10c x12a x12n x12c x14a x14n x14c x16a x16n x16c h nx

theorem F4_eq' (J : StepF (AV × AHeap × Nat) → StepF (AV × AHeap × Nat)) (n : Nat) (Y : YldF) (x0a : Option (Nat × Nat)) (x0n : Nat) (x0c : Option Nat) (x1 : Int) (x2 : Int) (h : AHeap) (nx : Nat) : rootJ J Try.prog keepT (callP Try.prog keepT n) Y n 4 [(.slice x0a x0n x0c), (.int .i64 x1), (.int .i64 x2)] h nx =
    ((callP Try.prog keepT n) Y 8 [(.slice x0a x0n x0c), (.int .i64 12)] h (nx + 8)).bind fun r1 =>
    (asTup 2 r1.1).bind fun d2 =>
    (asSl (d2.getD 0 .bad)).bind fun s3 =>
    (asB (d2.getD 1 .bad)).bind fun t4 =>
    ((callP Try.prog keepT n) Y 10 [(.int .i64 x1), (.int .i64 x2)] r1.2.1 (r1.2.2 + 5)).bind fun r5 =>
    (asAgg 2 r5.1).bind fun d6 =>
    (asI .i64 (d6.getD 0 .bad)).bind fun n7 =>
    (asI .i64 (d6.getD 1 .bad)).bind fun n8 =>
    let h9 := AHeap.put r5.2.1 (r1.2.2 + 3) (some ⟨[(.int .i64 0), (.int .i64 0)], 2, true⟩)
    (stA h9 (r1.2.2 + 3) 0 (.agg [(.int .i64 n7), (.int .i64 n8)]) 2).bind fun b10 =>
    let h11 := AHeap.put h9 (r1.2.2 + 3) (some b10)
    (ldR h11 (r1.2.2 + 3) 0 2).bind fun l12 =>
    (asAgg 2 (AV.agg l12)).bind fun d13 =>
    (asI .i64 (d13.getD 0 .bad)).bind fun n14 =>
    (asI .i64 (d13.getD 1 .bad)).bind fun n15 =>
    ((callP Try.prog keepT n) Y 11 [(.slice s3.1 s3.2.1 s3.2.2), (.agg [(.int .i64 n14), (.int .i64 n15)])] h11 (r5.2.2 + 8)).bind fun r16 =>
    (asTup 2 r16.1).bind fun d17 =>
    (asSl (d17.getD 0 .bad)).bind fun s18 =>
    (asI .i64 (d17.getD 1 .bad)).bind fun n19 =>
    (ldR r16.2.1 (r1.2.2 + 3) 0 2).bind fun l20 =>
    (asAgg 2 (AV.agg l20)).bind fun d21 =>
    (asI .i64 (d21.getD 0 .bad)).bind fun n22 =>
    (asI .i64 (d21.getD 1 .bad)).bind fun n23 =>
    ((callP Try.prog keepT n) Y 12 [(.slice s3.1 s3.2.1 s3.2.2), (.agg [(.int .i64 n22), (.int .i64 n23)])] r16.2.1 (r16.2.2 + 8)).bind fun r24 =>
    (asTup 2 r24.1).bind fun d25 =>
    (asSl (d25.getD 0 .bad)).bind fun s26 =>
    (asI .i64 (d25.getD 1 .bad)).bind fun n27 =>
    (ldR r24.2.1 (r1.2.2 + 3) 0 2).bind fun l28 =>
    (asAgg 2 (AV.agg l28)).bind fun d29 =>
    (asI .i64 (d29.getD 0 .bad)).bind fun n30 =>
    (asI .i64 (d29.getD 1 .bad)).bind fun n31 =>
    let h32 := AHeap.put r24.2.1 (r24.2.2 + 2) (some ⟨[(.int .i64 n30), (.int .i64 n31)], 2, true⟩)
    ((callP Try.prog keepT n) Y 13 [(.slice s3.1 s3.2.1 s3.2.2), (.slice (some ((r24.2.2 + 2), 0)) 1 (some 1))] h32 (r24.2.2 + 9)).bind fun r33 =>
    (asTup 2 r33.1).bind fun d34 =>
    (asSl (d34.getD 0 .bad)).bind fun s35 =>
    (asI .i64 (d34.getD 1 .bad)).bind fun n36 =>
    (ldR r33.2.1 (r1.2.2 + 3) 0 2).bind fun l37 =>
    (asAgg 2 (AV.agg l37)).bind fun d38 =>
    (asI .i64 (d38.getD 0 .bad)).bind fun n39 =>
    (asI .i64 (d38.getD 1 .bad)).bind fun n40 =>
    ((callP Try.prog keepT n) Y 12 [(.slice s18.1 s18.2.1 s18.2.2), (.agg [(.int .i64 n39), (.int .i64 n40)])] r33.2.1 (r33.2.2 + 8)).bind fun r41 =>
    (asTup 2 r41.1).bind fun d42 =>
    (asSl (d42.getD 0 .bad)).bind fun s43 =>
    (asI .i64 (d42.getD 1 .bad)).bind fun n44 =>
    if (!t4) = true then
    (some ((.bool false), r41.2.1, (r41.2.2 + 19)))
    else
    (if ((n19 : Int) != 0) = true then
    (some ((.bool false), r41.2.1, (r41.2.2 + 19)))
    else
    (if ((n27 : Int) != 0) = true then
    (some ((.bool false), r41.2.1, (r41.2.2 + 19)))
    else
    (if ((n36 : Int) != 0) = true then
    (some ((.bool false), r41.2.1, (r41.2.2 + 19)))
    else
    (if ((n44 : Int) != 0) = true then
    (some ((.bool false), r41.2.1, (r41.2.2 + 19)))
    else
    (F4_J1' J J (callP Try.prog keepT n) Y n s3.1 s3.2.1 s3.2.2 (some ((r1.2.2 + 3), 0)) s18.1 s18.2.1 s18.2.2 s26.1 s26.2.1 s26.2.2 s35.1 s35.2.1 s35.2.2 s43.1 s43.2.1 s43.2.2 r41.2.1 (r41.2.2 + 18)))))) := by kernel_rfl

/-- quickset/quicksetkeep.SpanCounts -/
theorem F4_eq (n : Nat) (Y : YldF) (x0a : Option (Nat × Nat)) (x0n : Nat) (x0c : Option Nat) (x1 : Int) (x2 : Int) (h : AHeap) (nx : Nat) : callP Try.prog keepT (n + 1) Y 4 [(.slice x0a x0n x0c), (.int .i64 x1), (.int .i64 x2)] h nx =
    ((callP Try.prog keepT n) Y 8 [(.slice x0a x0n x0c), (.int .i64 12)] h (nx + 8)).bind fun r1 =>
    (asTup 2 r1.1).bind fun d2 =>
    (asSl (d2.getD 0 .bad)).bind fun s3 =>
    (asB (d2.getD 1 .bad)).bind fun t4 =>
    ((callP Try.prog keepT n) Y 10 [(.int .i64 x1), (.int .i64 x2)] r1.2.1 (r1.2.2 + 5)).bind fun r5 =>
    (asAgg 2 r5.1).bind fun d6 =>
    (asI .i64 (d6.getD 0 .bad)).bind fun n7 =>
    (asI .i64 (d6.getD 1 .bad)).bind fun n8 =>
    let h9 := AHeap.put r5.2.1 (r1.2.2 + 3) (some ⟨[(.int .i64 0), (.int .i64 0)], 2, true⟩)
    (stA h9 (r1.2.2 + 3) 0 (.agg [(.int .i64 n7), (.int .i64 n8)]) 2).bind fun b10 =>
    let h11 := AHeap.put h9 (r1.2.2 + 3) (some b10)
    (ldR h11 (r1.2.2 + 3) 0 2).bind fun l12 =>
    (asAgg 2 (AV.agg l12)).bind fun d13 =>
    (asI .i64 (d13.getD 0 .bad)).bind fun n14 =>
    (asI .i64 (d13.getD 1 .bad)).bind fun n15 =>
    ((callP Try.prog keepT n) Y 11 [(.slice s3.1 s3.2.1 s3.2.2), (.agg [(.int .i64 n14), (.int .i64 n15)])] h11 (r5.2.2 + 8)).bind fun r16 =>
    (asTup 2 r16.1).bind fun d17 =>
    (asSl (d17.getD 0 .bad)).bind fun s18 =>
    (asI .i64 (d17.getD 1 .bad)).bind fun n19 =>
    (ldR r16.2.1 (r1.2.2 + 3) 0 2).bind fun l20 =>
    (asAgg 2 (AV.agg l20)).bind fun d21 =>
    (asI .i64 (d21.getD 0 .bad)).bind fun n22 =>
    (asI .i64 (d21.getD 1 .bad)).bind fun n23 =>
    ((callP Try.prog keepT n) Y 12 [(.slice s3.1 s3.2.1 s3.2.2), (.agg [(.int .i64 n22), (.int .i64 n23)])] r16.2.1 (r16.2.2 + 8)).bind fun r24 =>
    (asTup 2 r24.1).bind fun d25 =>
    (asSl (d25.getD 0 .bad)).bind fun s26 =>
    (asI .i64 (d25.getD 1 .bad)).bind fun n27 =>
    (ldR r24.2.1 (r1.2.2 + 3) 0 2).bind fun l28 =>
    (asAgg 2 (AV.agg l28)).bind fun d29 =>
    (asI .i64 (d29.getD 0 .bad)).bind fun n30 =>
    (asI .i64 (d29.getD 1 .bad)).bind fun n31 =>
    let h32 := AHeap.put r24.2.1 (r24.2.2 + 2) (some ⟨[(.int .i64 n30), (.int .i64 n31)], 2, true⟩)
    ((callP Try.prog keepT n) Y 13 [(.slice s3.1 s3.2.1 s3.2.2), (.slice (some ((r24.2.2 + 2), 0)) 1 (some 1))] h32 (r24.2.2 + 9)).bind fun r33 =>
    (asTup 2 r33.1).bind fun d34 =>
    (asSl (d34.getD 0 .bad)).bind fun s35 =>
    (asI .i64 (d34.getD 1 .bad)).bind fun n36 =>
    (ldR r33.2.1 (r1.2.2 + 3) 0 2).bind fun l37 =>
    (asAgg 2 (AV.agg l37)).bind fun d38 =>
    (asI .i64 (d38.getD 0 .bad)).bind fun n39 =>
    (asI .i64 (d38.getD 1 .bad)).bind fun n40 =>
    ((callP Try.prog keepT n) Y 12 [(.slice s18.1 s18.2.1 s18.2.2), (.agg [(.int .i64 n39), (.int .i64 n40)])] r33.2.1 (r33.2.2 + 8)).bind fun r41 =>
    (asTup 2 r41.1).bind fun d42 =>
    (asSl (d42.getD 0 .bad)).bind fun s43 =>
    (asI .i64 (d42.getD 1 .bad)).bind fun n44 =>
    if (!t4) = true then
    (some ((.bool false), r41.2.1, (r41.2.2 + 19)))
    else
    (if ((n19 : Int) != 0) = true then
    (some ((.bool false), r41.2.1, (r41.2.2 + 19)))
    else
    (if ((n27 : Int) != 0) = true then
    (some ((.bool false), r41.2.1, (r41.2.2 + 19)))
    else
    (if ((n36 : Int) != 0) = true then
    (some ((.bool false), r41.2.1, (r41.2.2 + 19)))
    else
    (if ((n44 : Int) != 0) = true then
    (some ((.bool false), r41.2.1, (r41.2.2 + 19)))
    else
    (F4_J1 (callP Try.prog keepT n) Y n s3.1 s3.2.1 s3.2.2 (some ((r1.2.2 + 3), 0)) s18.1 s18.2.1 s18.2.2 s26.1 s26.2.1 s26.2.2 s35.1 s35.2.1 s35.2.2 s43.1 s43.2.1 s43.2.2 r41.2.1 (r41.2.2 + 18)))))) := F4_eq' go1 n Y x0a x0n x0c x1 x2 h nx

noncomputable def c5 : Code := (Try.f5.body).getD .skip

noncomputable def r5 : List ResultVar := Try.f5.results.toList

noncomputable def F5_J1' (W J : StepF (AV × AHeap × Nat) → StepF (AV × AHeap × Nat)) (call : YldF → CallF) (Y : YldF) (lf : Nat) (x2 : Int) (x3 : Int) (x4 : Int) (x11a : Option (Nat × Nat)) (x11n : Nat) (x11c : Option Nat) (x13a : Option (Nat × Nat)) (x13n : Nat) (x13c : Option Nat) (h : AHeap) (nx : Nat) : Option (AV × AHeap × Nat) :=
  goK W J drawK (machOf Try.prog) call Y (keepT 5) lf c5 [1, 1, 1, 1] [] (retK (machOf Try.prog) ⟨c5, 133, r5, keepT 5⟩) ⟨133, mkL [(2, (.int .i64 x2)), (3, (.int .i64 x3)), (4, (.int .i64 x4)), (11, (.slice x11a x11n x11c)), (13, (.slice x13a x13n x13c))]⟩ h nx

noncomputable def F5_J1 (call : YldF → CallF) (Y : YldF) (lf : Nat) (x2 : Int) (x3 : Int) (x4 : Int) (x11a : Option (Nat × Nat)) (x11n : Nat) (x11c : Option Nat) (x13a : Option (Nat × Nat)) (x13n : Nat) (x13c : Option Nat) (h : AHeap) (nx : Nat) : Option (AV × AHeap × Nat) := F5_J1' go1 go1 call Y lf x2 x3 x4 x11a x11n x11c x13a x13n x13c h nx

noncomputable def F5_J2' (W J : StepF (AV × AHeap × Nat) → StepF (AV × AHeap × Nat)) (call : YldF → CallF) (Y : YldF) (lf : Nat) (x11a : Option (Nat × Nat)) (x11n : Nat) (x11c : Option Nat) (x13a : Option (Nat × Nat)) (x13n : Nat) (x13c : Option Nat) (x15 : Option (Nat × Nat)) (x16 : Int) (x17 : Bool) (h : AHeap) (nx : Nat) : Option (AV × AHeap × Nat) :=
  goK W J drawK (machOf Try.prog) call Y (keepT 5) lf c5 [1, 1, 1, 1, 1, 1, 1] [] (retK (machOf Try.prog) ⟨c5, 133, r5, keepT 5⟩) ⟨133, mkL [(11, (.slice x11a x11n x11c)), (13, (.slice x13a x13n x13c)), (15, (.ptr x15)), (16, (.int .i64 x16)), (17, (.bool x17))]⟩ h nx

noncomputable def F5_J2 (call : YldF → CallF) (Y : YldF) (lf : Nat) (x11a : Option (Nat × Nat)) (x11n : Nat) (x11c : Option Nat) (x13a : Option (Nat × Nat)) (x13n : Nat) (x13c : Option Nat) (x15 : Option (Nat × Nat)) (x16 : Int) (x17 : Bool) (h : AHeap) (nx : Nat) : Option (AV × AHeap × Nat) := F5_J2' go1 go1 call Y lf x11a x11n x11c x13a x13n x13c x15 x16 x17 h nx

noncomputable def F5_J3' (W J : StepF (AV × AHeap × Nat) → StepF (AV × AHeap × Nat)) (call : YldF → CallF) (Y : YldF) (lf : Nat) (x11a : Option (Nat × Nat)) (x11n : Nat) (x11c : Option Nat) (x13a : Option (Nat × Nat)) (x13n : Nat) (x13c : Option Nat) (x16 : Int) (x17 : Bool) (x18a : Option (Nat × Nat)) (x18n : Nat) (x18c : Option Nat) (x20a : Option (Nat × Nat)) (x20n : Nat) (x20c : Option Nat) (x22a : Option (Nat × Nat)) (x22n : Nat) (x22c : Option Nat) (h : AHeap) (nx : Nat) : Option (AV × AHeap × Nat) :=
  goK W J drawK (machOf Try.prog) call Y (keepT 5) lf c5 [1, 1, 1, 1, 1, 1, 1, 1, 1, 1, 1] [] (retK (machOf Try.prog) ⟨c5, 133, r5, keepT 5⟩) ⟨133, mkL [(11, (.slice x11a x11n x11c)), (13, (.slice x13a x13n x13c)), (16, (.int .i64 x16)), (17, (.bool x17)), (18, (.slice x18a x18n x18c)), (20, (.slice x20a x20n x20c)), (22, (.slice x22a x22n x22c))]⟩ h nx

noncomputable def F5_J3 (call : YldF → CallF) (Y : YldF) (lf : Nat) (x11a : Option (Nat × Nat)) (x11n : Nat) (x11c : Option Nat) (x13a : Option (Nat × Nat)) (x13n : Nat) (x13c : Option Nat) (x16 : Int) (x17 : Bool) (x18a : Option (Nat × Nat)) (x18n : Nat) (x18c : Option Nat) (x20a : Option (Nat × Nat)) (x20n : Nat) (x20c : Option Nat) (x22a : Option (Nat × Nat)) (x22n : Nat) (x22c : Option Nat) (h : AHeap) (nx : Nat) : Option (AV × AHeap × Nat) := F5_J3' go1 go1 call Y lf x11a x11n x11c x13a x13n x13c x16 x17 x18a x18n x18c x20a x20n x20c x22a x22n x22c h nx

theorem F5_J1_eq' (J : StepF (AV × AHeap × Nat) → StepF (AV × AHeap × Nat)) (call : YldF → CallF) (Y : YldF) (lf : Nat) (x2 : Int) (x3 : Int) (x4 : Int) (x11a : Option (Nat × Nat)) (x11n : Nat) (x11c : Option Nat) (x13a : Option (Nat × Nat)) (x13n : Nat) (x13c : Option Nat) (h : AHeap) (nx : Nat) : F5_J1' go1 J call Y lf x2 x3 x4 x11a x11n x11c x13a x13n x13c h nx =
    (call Y 10 [(.int .i64 x2), (.int .i64 x3)] h (nx + 5)).bind fun r1 =>
    (asAgg 2 r1.1).bind fun d2 =>
    (asI .i64 (d2.getD 0 .bad)).bind fun n3 =>
    (asI .i64 (d2.getD 1 .bad)).bind fun n4 =>
    let h5 := AHeap.put r1.2.1 (nx + 3) (some ⟨[(.int .i64 0), (.int .i64 0)], 2, true⟩)
    (stA h5 (nx + 3) 0 (.agg [(.int .i64 n3), (.int .i64 n4)]) 2).bind fun b6 =>
    let h7 := AHeap.put h5 (nx + 3) (some b6)
    (call Y 7 [(.int .i64 x4), (.int .i64 400)] h7 (r1.2.2 + 3)).bind fun r8 =>
    (asI .i64 r8.1).bind fun n9 =>
    (ldA r8.2.1 (nx + 3) 0).bind fun v10 =>
    (asI .i64 v10).bind fun n11 =>
    if (decide ((n9 : Int) ≥ n11)) = true then
    ((ldA r8.2.1 (nx + 3) 1).bind fun v12 =>
    (asI .i64 v12).bind fun n13 =>
    F5_J2' J J call Y lf x11a x11n x11c x13a x13n x13c (some ((nx + 3), 0)) n9 (decide ((n9 : Int) < n13)) r8.2.1 (r8.2.2 + 11))
    else
    (F5_J2' J J call Y lf x11a x11n x11c x13a x13n x13c (some ((nx + 3), 0)) n9 false r8.2.1 (r8.2.2 + 11)) := by kernel_rfl

theorem F5_J1_eq (call : YldF → CallF) (Y : YldF) (lf : Nat) (x2 : Int) (x3 : Int) (x4 : Int) (x11a : Option (Nat × Nat)) (x11n : Nat) (x11c : Option Nat) (x13a : Option (Nat × Nat)) (x13n : Nat) (x13c : Option Nat) (h : AHeap) (nx : Nat) : F5_J1 call Y lf x2 x3 x4 x11a x11n x11c x13a x13n x13c h nx =
    (call Y 10 [(.int .i64 x2), (.int .i64 x3)] h (nx + 5)).bind fun r1 =>
    (asAgg 2 r1.1).bind fun d2 =>
    (asI .i64 (d2.getD 0 .bad)).bind fun n3 =>
    (asI .i64 (d2.getD 1 .bad)).bind fun n4 =>
    let h5 := AHeap.put r1.2.1 (nx + 3) (some ⟨[(.int .i64 0), (.int .i64 0)], 2, true⟩)
    (stA h5 (nx + 3) 0 (.agg [(.int .i64 n3), (.int .i64 n4)]) 2).bind fun b6 =>
    let h7 := AHeap.put h5 (nx + 3) (some b6)
    (call Y 7 [(.int .i64 x4), (.int .i64 400)] h7 (r1.2.2 + 3)).bind fun r8 =>
    (asI .i64 r8.1).bind fun n9 =>
    (ldA r8.2.1 (nx + 3) 0).bind fun v10 =>
    (asI .i64 v10).bind fun n11 =>
    if (decide ((n9 : Int) ≥ n11)) = true then
    ((ldA r8.2.1 (nx + 3) 1).bind fun v12 =>
    (asI .i64 v12).bind fun n13 =>
    F5_J2 call Y lf x11a x11n x11c x13a x13n x13c (some ((nx + 3), 0)) n9 (decide ((n9 : Int) < n13)) r8.2.1 (r8.2.2 + 11))
    else
    (F5_J2 call Y lf x11a x11n x11c x13a x13n x13c (some ((nx + 3), 0)) n9 false r8.2.1 (r8.2.2 + 11)) := F5_J1_eq' go1 call Y lf x2 x3 x4 x11a x11n x11c x13a x13n x13c h nx

theorem F5_J2_eq' (J : StepF (AV × AHeap × Nat) → StepF (AV × AHeap × Nat)) (call : YldF → CallF) (Y : YldF) (lf : Nat) (x11a : Option (Nat × Nat)) (x11n : Nat) (x11c : Option Nat) (x13a : Option (Nat × Nat)) (x13n : Nat) (x13c : Option Nat) (x15 : Option (Nat × Nat)) (x16 : Int) (x17 : Bool) (h : AHeap) (nx : Nat) : F5_J2' go1 J call Y lf x11a x11n x11c x13a x13n x13c x15 x16 x17 h nx =
    (x15).bind fun p1 =>
    (ldR h p1.1 p1.2 2).bind fun l2 =>
    (asAgg 2 (AV.agg l2)).bind fun d3 =>
    (asI .i64 (d3.getD 0 .bad)).bind fun n4 =>
    (asI .i64 (d3.getD 1 .bad)).bind fun n5 =>
    (call Y 11 [(.slice x11a x11n x11c), (.agg [(.int .i64 n4), (.int .i64 n5)])] h (nx + 8)).bind fun r6 =>
    (asTup 2 r6.1).bind fun d7 =>
    (asSl (d7.getD 0 .bad)).bind fun s8 =>
    (asI .i64 (d7.getD 1 .bad)).bind fun n9 =>
    (x15).bind fun p10 =>
    (ldR r6.2.1 p10.1 p10.2 2).bind fun l11 =>
    (asAgg 2 (AV.agg l11)).bind fun d12 =>
    (asI .i64 (d12.getD 0 .bad)).bind fun n13 =>
    (asI .i64 (d12.getD 1 .bad)).bind fun n14 =>
    (call Y 12 [(.slice x11a x11n x11c), (.agg [(.int .i64 n13), (.int .i64 n14)])] r6.2.1 (r6.2.2 + 8)).bind fun r15 =>
    (asTup 2 r15.1).bind fun d16 =>
    (asSl (d16.getD 0 .bad)).bind fun s17 =>
    (asI .i64 (d16.getD 1 .bad)).bind fun n18 =>
    (call Y 13 [(.slice x11a x11n x11c), (.slice x13a x13n x13c)] r15.2.1 (r15.2.2 + 8)).bind fun r19 =>
    (asTup 2 r19.1).bind fun d20 =>
    (asSl (d20.getD 0 .bad)).bind fun s21 =>
    (asI .i64 (d20.getD 1 .bad)).bind fun n22 =>
    if ((n9 : Int) != 0) = true then
    (some ((.bool false), r19.2.1, (r19.2.2 + 26)))
    else
    (if ((n18 : Int) != 0) = true then
    (some ((.bool false), r19.2.1, (r19.2.2 + 26)))
    else
    (if ((n22 : Int) != 0) = true then
    (some ((.bool false), r19.2.1, (r19.2.2 + 26)))
    else
    ((call Y 15 [(.slice s8.1 s8.2.1 s8.2.2)] r19.2.1 (r19.2.2 + 25)).bind fun r23 =>
    (asB r23.1).bind fun t24 =>
    if (!t24) = true then
    (some ((.bool false), r23.2.1, (r23.2.2 + 1)))
    else
    ((call Y 15 [(.slice s17.1 s17.2.1 s17.2.2)] r23.2.1 r23.2.2).bind fun r25 =>
    (asB r25.1).bind fun t26 =>
    if (!t26) = true then
    (some ((.bool false), r25.2.1, (r25.2.2 + 1)))
    else
    ((call Y 15 [(.slice s21.1 s21.2.1 s21.2.2)] r25.2.1 r25.2.2).bind fun r27 =>
    (asB r27.1).bind fun t28 =>
    if (!t28) = true then
    (some ((.bool false), r27.2.1, (r27.2.2 + 1)))
    else
    (F5_J3' J J call Y lf x11a x11n x11c x13a x13n x13c x16 x17 s8.1 s8.2.1 s8.2.2 s17.1 s17.2.1 s17.2.2 s21.1 s21.2.1 s21.2.2 r27.2.1 r27.2.2)))))) := by kernel_rfl

theorem F5_J2_eq (call : YldF → CallF) (Y : YldF) (lf : Nat) (x11a : Option (Nat × Nat)) (x11n : Nat) (x11c : Option Nat) (x13a : Option (Nat × Nat)) (x13n : Nat) (x13c : Option Nat) (x15 : Option (Nat × Nat)) (x16 : Int) (x17 : Bool) (h : AHeap) (nx : Nat) : F5_J2 call Y lf x11a x11n x11c x13a x13n x13c x15 x16 x17 h nx =
    (x15).bind fun p1 =>
    (ldR h p1.1 p1.2 2).bind fun l2 =>
    (asAgg 2 (AV.agg l2)).bind fun d3 =>
    (asI .i64 (d3.getD 0 .bad)).bind fun n4 =>
    (asI .i64 (d3.getD 1 .bad)).bind fun n5 =>
    (call Y 11 [(.slice x11a x11n x11c), (.agg [(.int .i64 n4), (.int .i64 n5)])] h (nx + 8)).bind fun r6 =>
    (asTup 2 r6.1).bind fun d7 =>
    (asSl (d7.getD 0 .bad)).bind fun s8 =>
    (asI .i64 (d7.getD 1 .bad)).bind fun n9 =>
    (x15).bind fun p10 =>
    (ldR r6.2.1 p10.1 p10.2 2).bind fun l11 =>
    (asAgg 2 (AV.agg l11)).bind fun d12 =>
    (asI .i64 (d12.getD 0 .bad)).bind fun n13 =>
    (asI .i64 (d12.getD 1 .bad)).bind fun n14 =>
    (call Y 12 [(.slice x11a x11n x11c), (.agg [(.int .i64 n13), (.int .i64 n14)])] r6.2.1 (r6.2.2 + 8)).bind fun r15 =>
    (asTup 2 r15.1).bind fun d16 =>
    (asSl (d16.getD 0 .bad)).bind fun s17 =>
    (asI .i64 (d16.getD 1 .bad)).bind fun n18 =>
    (call Y 13 [(.slice x11a x11n x11c), (.slice x13a x13n x13c)] r15.2.1 (r15.2.2 + 8)).bind fun r19 =>
    (asTup 2 r19.1).bind fun d20 =>
    (asSl (d20.getD 0 .bad)).bind fun s21 =>
    (asI .i64 (d20.getD 1 .bad)).bind fun n22 =>
    if ((n9 : Int) != 0) = true then
    (some ((.bool false), r19.2.1, (r19.2.2 + 26)))
    else
    (if ((n18 : Int) != 0) = true then
    (some ((.bool false), r19.2.1, (r19.2.2 + 26)))
    else
    (if ((n22 : Int) != 0) = true then
    (some ((.bool false), r19.2.1, (r19.2.2 + 26)))
    else
    ((call Y 15 [(.slice s8.1 s8.2.1 s8.2.2)] r19.2.1 (r19.2.2 + 25)).bind fun r23 =>
    (asB r23.1).bind fun t24 =>
    if (!t24) = true then
    (some ((.bool false), r23.2.1, (r23.2.2 + 1)))
    else
    ((call Y 15 [(.slice s17.1 s17.2.1 s17.2.2)] r23.2.1 r23.2.2).bind fun r25 =>
    (asB r25.1).bind fun t26 =>
    if (!t26) = true then
    (some ((.bool false), r25.2.1, (r25.2.2 + 1)))
    else
    ((call Y 15 [(.slice s21.1 s21.2.1 s21.2.2)] r25.2.1 r25.2.2).bind fun r27 =>
    (asB r27.1).bind fun t28 =>
    if (!t28) = true then
    (some ((.bool false), r27.2.1, (r27.2.2 + 1)))
    else
    (F5_J3 call Y lf x11a x11n x11c x13a x13n x13c x16 x17 s8.1 s8.2.1 s8.2.2 s17.1 s17.2.1 s17.2.2 s21.1 s21.2.1 s21.2.2 r27.2.1 r27.2.2)))))) := F5_J2_eq' go1 call Y lf x11a x11n x11c x13a x13n x13c x15 x16 x17 h nx

theorem F5_J3_eq' (J : StepF (AV × AHeap × Nat) → StepF (AV × AHeap × Nat)) (call : YldF → CallF) (Y : YldF) (lf : Nat) (x11a : Option (Nat × Nat)) (x11n : Nat) (x11c : Option Nat) (x13a : Option (Nat × Nat)) (x13n : Nat) (x13c : Option Nat) (x16 : Int) (x17 : Bool) (x18a : Option (Nat × Nat)) (x18n : Nat) (x18c : Option Nat) (x20a : Option (Nat × Nat)) (x20n : Nat) (x20c : Option Nat) (x22a : Option (Nat × Nat)) (x22n : Nat) (x22c : Option Nat) (h : AHeap) (nx : Nat) : F5_J3' go1 J call Y lf x11a x11n x11c x13a x13n x13c x16 x17 x18a x18n x18c x20a x20n x20c x22a x22n x22c h nx =
    (call Y 16 [(.slice x11a x11n x11c), (.int .i64 x16)] h (nx + 4)).bind fun r1 =>
    (asB r1.1).bind fun t2 =>
    (call Y 16 [(.slice x18a x18n x18c), (.int .i64 x16)] r1.2.1 (r1.2.2 + 32)).bind fun r3 =>
    (asB r3.1).bind fun t4 =>
    if t2 = true then
    (if (t4 == true) = true then
    ((call Y 16 [(.slice x20a x20n x20c), (.int .i64 x16)] r3.2.1 r3.2.2).bind fun r5 =>
    (asB r5.1).bind fun t6 =>
    if t2 = true then
    (if (t6 == (!x17)) = true then
    ((call Y 16 [(.slice x22a x22n x22c), (.int .i64 x16)] r5.2.1 r5.2.2).bind fun r7 =>
    (asB r7.1).bind fun t8 =>
    if t2 = true then
    ((call Y 16 [(.slice x13a x13n x13c), (.int .i64 x16)] r7.2.1 r7.2.2).bind fun r9 =>
    (asB r9.1).bind fun t10 =>
    some ((.bool (t8 == t10)), r9.2.1, r9.2.2))
    else
    (some ((.bool (t8 == false)), r7.2.1, r7.2.2)))
    else
    (some ((.bool false), r5.2.1, r5.2.2)))
    else
    (if (t6 == false) = true then
    ((call Y 16 [(.slice x22a x22n x22c), (.int .i64 x16)] r5.2.1 r5.2.2).bind fun r11 =>
    (asB r11.1).bind fun t12 =>
    if t2 = true then
    ((call Y 16 [(.slice x13a x13n x13c), (.int .i64 x16)] r11.2.1 r11.2.2).bind fun r13 =>
    (asB r13.1).bind fun t14 =>
    some ((.bool (t12 == t14)), r13.2.1, r13.2.2))
    else
    (some ((.bool (t12 == false)), r11.2.1, r11.2.2)))
    else
    (some ((.bool false), r5.2.1, r5.2.2))))
    else
    (some ((.bool false), r3.2.1, r3.2.2)))
    else
    (if (t4 == x17) = true then
    ((call Y 16 [(.slice x20a x20n x20c), (.int .i64 x16)] r3.2.1 r3.2.2).bind fun r15 =>
    (asB r15.1).bind fun t16 =>
    if t2 = true then
    (if (t16 == (!x17)) = true then
    ((call Y 16 [(.slice x22a x22n x22c), (.int .i64 x16)] r15.2.1 r15.2.2).bind fun r17 =>
    (asB r17.1).bind fun t18 =>
    if t2 = true then
    ((call Y 16 [(.slice x13a x13n x13c), (.int .i64 x16)] r17.2.1 r17.2.2).bind fun r19 =>
    (asB r19.1).bind fun t20 =>
    some ((.bool (t18 == t20)), r19.2.1, r19.2.2))
    else
    (some ((.bool (t18 == false)), r17.2.1, r17.2.2)))
    else
    (some ((.bool false), r15.2.1, r15.2.2)))
    else
    (if (t16 == false) = true then
    ((call Y 16 [(.slice x22a x22n x22c), (.int .i64 x16)] r15.2.1 r15.2.2).bind fun r21 =>
    (asB r21.1).bind fun t22 =>
    if t2 = true then
    ((call Y 16 [(.slice x13a x13n x13c), (.int .i64 x16)] r21.2.1 r21.2.2).bind fun r23 =>
    (asB r23.1).bind fun t24 =>
    some ((.bool (t22 == t24)), r23.2.1, r23.2.2))
    else
    (some ((.bool (t22 == false)), r21.2.1, r21.2.2)))
    else
    (some ((.bool false), r15.2.1, r15.2.2))))
    else
    (some ((.bool false), r3.2.1, r3.2.2))) := by kernel_rfl

theorem F5_J3_eq (call : YldF → CallF) (Y : YldF) (lf : Nat) (x11a : Option (Nat × Nat)) (x11n : Nat) (x11c : Option Nat) (x13a : Option (Nat × Nat)) (x13n : Nat) (x13c : Option Nat) (x16 : Int) (x17 : Bool) (x18a : Option (Nat × Nat)) (x18n : Nat) (x18c : Option Nat) (x20a : Option (Nat × Nat)) (x20n : Nat) (x20c : Option Nat) (x22a : Option (Nat × Nat)) (x22n : Nat) (x22c : Option Nat) (h : AHeap) (nx : Nat) : F5_J3 call Y lf x11a x11n x11c x13a x13n x13c x16 x17 x18a x18n x18c x20a x20n x20c x22a x22n x22c h nx =
    (call Y 16 [(.slice x11a x11n x11c), (.int .i64 x16)] h (nx + 4)).bind fun r1 =>
    (asB r1.1).bind fun t2 =>
    (call Y 16 [(.slice x18a x18n x18c), (.int .i64 x16)] r1.2.1 (r1.2.2 + 32)).bind fun r3 =>
    (asB r3.1).bind fun t4 =>
    if t2 = true then
    (if (t4 == true) = true then
    ((call Y 16 [(.slice x20a x20n x20c), (.int .i64 x16)] r3.2.1 r3.2.2).bind fun r5 =>
    (asB r5.1).bind fun t6 =>
    if t2 = true then
    (if (t6 == (!x17)) = true then
    ((call Y 16 [(.slice x22a x22n x22c), (.int .i64 x16)] r5.2.1 r5.2.2).bind fun r7 =>
    (asB r7.1).bind fun t8 =>
    if t2 = true then
    ((call Y 16 [(.slice x13a x13n x13c), (.int .i64 x16)] r7.2.1 r7.2.2).bind fun r9 =>
    (asB r9.1).bind fun t10 =>
    some ((.bool (t8 == t10)), r9.2.1, r9.2.2))
    else
    (some ((.bool (t8 == false)), r7.2.1, r7.2.2)))
    else
    (some ((.bool false), r5.2.1, r5.2.2)))
    else
    (if (t6 == false) = true then
    ((call Y 16 [(.slice x22a x22n x22c), (.int .i64 x16)] r5.2.1 r5.2.2).bind fun r11 =>
    (asB r11.1).bind fun t12 =>
    if t2 = true then
    ((call Y 16 [(.slice x13a x13n x13c), (.int .i64 x16)] r11.2.1 r11.2.2).bind fun r13 =>
    (asB r13.1).bind fun t14 =>
    some ((.bool (t12 == t14)), r13.2.1, r13.2.2))
    else
    (some ((.bool (t12 == false)), r11.2.1, r11.2.2)))
    else
    (some ((.bool false), r5.2.1, r5.2.2))))
    else
    (some ((.bool false), r3.2.1, r3.2.2)))
    else
    (if (t4 == x17) = true then
    ((call Y 16 [(.slice x20a x20n x20c), (.int .i64 x16)] r3.2.1 r3.2.2).bind fun r15 =>
    (asB r15.1).bind fun t16 =>
    if t2 = true then
    (if (t16 == (!x17)) = true then
    ((call Y 16 [(.slice x22a x22n x22c), (.int .i64 x16)] r15.2.1 r15.2.2).bind fun r17 =>
    (asB r17.1).bind fun t18 =>
    if t2 = true then
    ((call Y 16 [(.slice x13a x13n x13c), (.int .i64 x16)] r17.2.1 r17.2.2).bind fun r19 =>
    (asB r19.1).bind fun t20 =>
    some ((.bool (t18 == t20)), r19.2.1, r19.2.2))
    else
    (some ((.bool (t18 == false)), r17.2.1, r17.2.2)))
    else
    (some ((.bool false), r15.2.1, r15.2.2)))
    else
    (if (t16 == false) = true then
    ((call Y 16 [(.slice x22a x22n x22c), (.int .i64 x16)] r15.2.1 r15.2.2).bind fun r21 =>
    (asB r21.1).bind fun t22 =>
    if t2 = true then
    ((call Y 16 [(.slice x13a x13n x13c), (.int .i64 x16)] r21.2.1 r21.2.2).bind fun r23 =>
    (asB r23.1).bind fun t24 =>
    some ((.bool (t22 == t24)), r23.2.1, r23.2.2))
    else
    (some ((.bool (t22 == false)), r21.2.1, r21.2.2)))
    else
    (some ((.bool false), r15.2.1, r15.2.2))))
    else
    (some ((.bool false), r3.2.1, r3.2.2))) := F5_J3_eq' go1 call Y lf x11a x11n x11c x13a x13n x13c x16 x17 x18a x18n x18c x20a x20n x20c x22a x22n x22c h nx

theorem F5_eq' (J : StepF (AV × AHeap × Nat) → StepF (AV × AHeap × Nat)) (n : Nat) (Y : YldF) (x0a : Option (Nat × Nat)) (x0n : Nat) (x0c : Option Nat) (x1a : Option (Nat × Nat)) (x1n : Nat) (x1c : Option Nat) (x2 : Int) (x3 : Int) (x4 : Int) (h : AHeap) (nx : Nat) : rootJ J Try.prog keepT (callP Try.prog keepT n) Y n 5 [(.slice x0a x0n x0c), (.slice x1a x1n x1c), (.int .i64 x2), (.int .i64 x3), (.int .i64 x4)] h nx =
    ((callP Try.prog keepT n) Y 8 [(.slice x0a x0n x0c), (.int .i64 12)] h (nx + 8)).bind fun r1 =>
    (asTup 2 r1.1).bind fun d2 =>
    (asSl (d2.getD 0 .bad)).bind fun s3 =>
    (asB (d2.getD 1 .bad)).bind fun t4 =>
    ((callP Try.prog keepT n) Y 8 [(.slice x1a x1n x1c), (.int .i64 12)] r1.2.1 (r1.2.2 + 7)).bind fun r5 =>
    (asTup 2 r5.1).bind fun d6 =>
    (asSl (d6.getD 0 .bad)).bind fun s7 =>
    (asB (d6.getD 1 .bad)).bind fun t8 =>
    if (!t4) = true then
    (some ((.bool false), r5.2.1, (r5.2.2 + 7)))
    else
    (if (!t8) = true then
    (some ((.bool false), r5.2.1, (r5.2.2 + 7)))
    else
    (F5_J1' J J (callP Try.prog keepT n) Y n x2 x3 x4 s3.1 s3.2.1 s3.2.2 s7.1 s7.2.1 s7.2.2 r5.2.1 (r5.2.2 + 6))) := by kernel_rfl

/-- quickset/quicksetkeep.SpanTells -/
theorem F5_eq (n : Nat) (Y : YldF) (x0a : Option (Nat × Nat)) (x0n : Nat) (x0c : Option Nat) (x1a : Option (Nat × Nat)) (x1n : Nat) (x1c : Option Nat) (x2 : Int) (x3 : Int) (x4 : Int) (h : AHeap) (nx : Nat) : callP Try.prog keepT (n + 1) Y 5 [(.slice x0a x0n x0c), (.slice x1a x1n x1c), (.int .i64 x2), (.int .i64 x3), (.int .i64 x4)] h nx =
    ((callP Try.prog keepT n) Y 8 [(.slice x0a x0n x0c), (.int .i64 12)] h (nx + 8)).bind fun r1 =>
    (asTup 2 r1.1).bind fun d2 =>
    (asSl (d2.getD 0 .bad)).bind fun s3 =>
    (asB (d2.getD 1 .bad)).bind fun t4 =>
    ((callP Try.prog keepT n) Y 8 [(.slice x1a x1n x1c), (.int .i64 12)] r1.2.1 (r1.2.2 + 7)).bind fun r5 =>
    (asTup 2 r5.1).bind fun d6 =>
    (asSl (d6.getD 0 .bad)).bind fun s7 =>
    (asB (d6.getD 1 .bad)).bind fun t8 =>
    if (!t4) = true then
    (some ((.bool false), r5.2.1, (r5.2.2 + 7)))
    else
    (if (!t8) = true then
    (some ((.bool false), r5.2.1, (r5.2.2 + 7)))
    else
    (F5_J1 (callP Try.prog keepT n) Y n x2 x3 x4 s3.1 s3.2.1 s3.2.2 s7.1 s7.2.1 s7.2.2 r5.2.1 (r5.2.2 + 6))) := F5_eq' go1 n Y x0a x0n x0c x1a x1n x1c x2 x3 x4 h nx

noncomputable def c6 : Code := (Try.f6.body).getD .skip

noncomputable def r6 : List ResultVar := Try.f6.results.toList

noncomputable def F6_L1' (W J : StepF (AV × AHeap × Nat) → StepF (AV × AHeap × Nat)) (call : YldF → CallF) (Y : YldF) (lf : Nat) (n0 : Nat) (x5a : Option (Nat × Nat)) (x5n : Nat) (x5c : Option Nat) (x7 : Int) (x8 : Int) (x9 : Int) (x10 : Int) (x11 : Int) (h : AHeap) (nx : Nat) : Option (AV × AHeap × Nat) :=
  goK W J drawK (machOf Try.prog) call Y (keepT 6) lf c6 [1, 1, 1, 1, 1, 1, 0, 1, 0, 9] [n0] (retK (machOf Try.prog) ⟨c6, 56, r6, keepT 6⟩) ⟨56, mkL [(5, (.slice x5a x5n x5c)), (7, (.int .i64 x7)), (8, (.int .i64 x8)), (9, (.int .i64 x9)), (10, (.int .i64 x10)), (11, (.int .i64 x11))]⟩ h nx

noncomputable def F6_L1 (call : YldF → CallF) (Y : YldF) (lf : Nat) (n0 : Nat) (x5a : Option (Nat × Nat)) (x5n : Nat) (x5c : Option Nat) (x7 : Int) (x8 : Int) (x9 : Int) (x10 : Int) (x11 : Int) (h : AHeap) (nx : Nat) : Option (AV × AHeap × Nat) := F6_L1' go1 go1 call Y lf n0 x5a x5n x5c x7 x8 x9 x10 x11 h nx

noncomputable def F6_J2' (W J : StepF (AV × AHeap × Nat) → StepF (AV × AHeap × Nat)) (call : YldF → CallF) (Y : YldF) (lf : Nat) (n0 : Nat) (x5a : Option (Nat × Nat)) (x5n : Nat) (x5c : Option Nat) (x7 : Int) (x8 : Int) (x9 : Int) (x10 : Int) (x11 : Int) (h : AHeap) (nx : Nat) : Option (AV × AHeap × Nat) :=
  goK W J drawK (machOf Try.prog) call Y (keepT 6) lf c6 [1, 1, 1, 1, 1, 1, 0, 1, 0, 0, 1, 0, 0, 1] [n0] (retK (machOf Try.prog) ⟨c6, 56, r6, keepT 6⟩) ⟨56, mkL [(5, (.slice x5a x5n x5c)), (7, (.int .i64 x7)), (8, (.int .i64 x8)), (9, (.int .i64 x9)), (10, (.int .i64 x10)), (11, (.int .i64 x11))]⟩ h nx

noncomputable def F6_J2 (call : YldF → CallF) (Y : YldF) (lf : Nat) (n0 : Nat) (x5a : Option (Nat × Nat)) (x5n : Nat) (x5c : Option Nat) (x7 : Int) (x8 : Int) (x9 : Int) (x10 : Int) (x11 : Int) (h : AHeap) (nx : Nat) : Option (AV × AHeap × Nat) := F6_J2' go1 go1 call Y lf n0 x5a x5n x5c x7 x8 x9 x10 x11 h nx

theorem F6_L1_eq' (J : StepF (AV × AHeap × Nat) → StepF (AV × AHeap × Nat)) (call : YldF → CallF) (Y : YldF) (lf : Nat) (n0 : Nat) (x5a : Option (Nat × Nat)) (x5n : Nat) (x5c : Option Nat) (x7 : Int) (x8 : Int) (x9 : Int) (x10 : Int) (x11 : Int) (h : AHeap) (nx : Nat) : F6_L1' go1 J call Y lf (n0 + 1) x5a x5n x5c x7 x8 x9 x10 x11 h nx =
    if (decide ((x11 : Int) < 400)) = true then
    ((call Y 16 [(.slice x5a x5n x5c), (.int .i64 x11)] h (nx + 5)).bind fun r1 =>
    (asB r1.1).bind fun t2 =>
    if t2 = true then
    (F6_J2' J J call Y lf n0 x5a x5n x5c x7 x8 x9 (wrapA .i64 (x10 + 1)) x11 r1.2.1 (r1.2.2 + 3))
    else
    (F6_J2' J J call Y lf n0 x5a x5n x5c x7 x8 x9 0 x11 r1.2.1 (r1.2.2 + 1)))
    else
    (if ((x9 : Int) == 6) = true then
    (some ((.bool ((x8 : Int) == 0)), h, (nx + 9)))
    else
    (some ((.bool false), h, (nx + 9)))) := by kernel_rfl

theorem F6_L1_eq (call : YldF → CallF) (Y : YldF) (lf : Nat) (n0 : Nat) (x5a : Option (Nat × Nat)) (x5n : Nat) (x5c : Option Nat) (x7 : Int) (x8 : Int) (x9 : Int) (x10 : Int) (x11 : Int) (h : AHeap) (nx : Nat) : F6_L1 call Y lf (n0 + 1) x5a x5n x5c x7 x8 x9 x10 x11 h nx =
    if (decide ((x11 : Int) < 400)) = true then
    ((call Y 16 [(.slice x5a x5n x5c), (.int .i64 x11)] h (nx + 5)).bind fun r1 =>
    (asB r1.1).bind fun t2 =>
    if t2 = true then
    (F6_J2 call Y lf n0 x5a x5n x5c x7 x8 x9 (wrapA .i64 (x10 + 1)) x11 r1.2.1 (r1.2.2 + 3))
    else
    (F6_J2 call Y lf n0 x5a x5n x5c x7 x8 x9 0 x11 r1.2.1 (r1.2.2 + 1)))
    else
    (if ((x9 : Int) == 6) = true then
    (some ((.bool ((x8 : Int) == 0)), h, (nx + 9)))
    else
    (some ((.bool false), h, (nx + 9)))) := F6_L1_eq' go1 call Y lf n0 x5a x5n x5c x7 x8 x9 x10 x11 h nx

theorem F6_L1_zero (call : YldF → CallF) (Y : YldF) (lf : Nat) (x5a : Option (Nat × Nat)) (x5n : Nat) (x5c : Option Nat) (x7 : Int) (x8 : Int) (x9 : Int) (x10 : Int) (x11 : Int) (h : AHeap) (nx : Nat) : F6_L1 call Y lf 0 x5a x5n x5c x7 x8 x9 x10 x11 h nx = none := by kernel_rfl

theorem F6_J2_eq' (J : StepF (AV × AHeap × Nat) → StepF (AV × AHeap × Nat)) (call : YldF → CallF) (Y : YldF) (lf : Nat) (n0 : Nat) (x5a : Option (Nat × Nat)) (x5n : Nat) (x5c : Option Nat) (x7 : Int) (x8 : Int) (x9 : Int) (x10 : Int) (x11 : Int) (h : AHeap) (nx : Nat) : F6_J2' go1 J call Y lf n0 x5a x5n x5c x7 x8 x9 x10 x11 h nx =
    if ((x10 : Int) == x7) = true then
    (if ((x9 : Int) == 0) = true then
    (some ((.bool ((x8 : Int) == (wrapA .i64 ((wrapA .i64 (x11 - x7)) + 1)))), h, (nx + 14)))
    else
    (some ((.bool false), h, (nx + 14))))
    else
    (F6_L1' J J call Y lf n0 x5a x5n x5c x7 x8 x9 x10 (wrapA .i64 (x11 + 1)) h (nx + 6)) := by kernel_rfl

theorem F6_J2_eq (call : YldF → CallF) (Y : YldF) (lf : Nat) (n0 : Nat) (x5a : Option (Nat × Nat)) (x5n : Nat) (x5c : Option Nat) (x7 : Int) (x8 : Int) (x9 : Int) (x10 : Int) (x11 : Int) (h : AHeap) (nx : Nat) : F6_J2 call Y lf n0 x5a x5n x5c x7 x8 x9 x10 x11 h nx =
    if ((x10 : Int) == x7) = true then
    (if ((x9 : Int) == 0) = true then
    (some ((.bool ((x8 : Int) == (wrapA .i64 ((wrapA .i64 (x11 - x7)) + 1)))), h, (nx + 14)))
    else
    (some ((.bool false), h, (nx + 14))))
    else
    (F6_L1 call Y lf n0 x5a x5n x5c x7 x8 x9 x10 (wrapA .i64 (x11 + 1)) h (nx + 6)) := F6_J2_eq' go1 call Y lf n0 x5a x5n x5c x7 x8 x9 x10 x11 h nx

theorem F6_eq' (J : StepF (AV × AHeap × Nat) → StepF (AV × AHeap × Nat)) (n : Nat) (Y : YldF) (x0a : Option (Nat × Nat)) (x0n : Nat) (x0c : Option Nat) (x1 : Int) (h : AHeap) (nx : Nat) : rootJ J Try.prog keepT (callP Try.prog keepT n) Y n 6 [(.slice x0a x0n x0c), (.int .i64 x1)] h nx =
    ((callP Try.prog keepT n) Y 8 [(.slice x0a x0n x0c), (.int .i64 12)] h (nx + 8)).bind fun r1 =>
    (asTup 2 r1.1).bind fun d2 =>
    (asSl (d2.getD 0 .bad)).bind fun s3 =>
    (asB (d2.getD 1 .bad)).bind fun t4 =>
    ((callP Try.prog keepT n) Y 7 [(.int .i64 x1), (.int .i64 80)] r1.2.1 (r1.2.2 + 4)).bind fun r5 =>
    (asI .i64 r5.1).bind fun n6 =>
    ((callP Try.prog keepT n) Y 17 [(.slice s3.1 s3.2.1 s3.2.2), (.int .i64 (wrapA .i64 (1 + n6)))] r5.2.1 (r5.2.2 + 8)).bind fun r7 =>
    (asTup 2 r7.1).bind fun d8 =>
    (asI .i64 (d8.getD 0 .bad)).bind fun n9 =>
    (asI .i64 (d8.getD 1 .bad)).bind fun n10 =>
    if (!t4) = true then
    (some ((.bool false), r7.2.1, (r7.2.2 + 3)))
    else
    (F6_L1' J J (callP Try.prog keepT n) Y n n s3.1 s3.2.1 s3.2.2 (wrapA .i64 (1 + n6)) n9 n10 0 0 r7.2.1 (r7.2.2 + 4)) := by kernel_rfl

/-- quickset/quicksetkeep.SpanFirstFits -/
theorem F6_eq (n : Nat) (Y : YldF) (x0a : Option (Nat × Nat)) (x0n : Nat) (x0c : Option Nat) (x1 : Int) (h : AHeap) (nx : Nat) : callP Try.prog keepT (n + 1) Y 6 [(.slice x0a x0n x0c), (.int .i64 x1)] h nx =
    ((callP Try.prog keepT n) Y 8 [(.slice x0a x0n x0c), (.int .i64 12)] h (nx + 8)).bind fun r1 =>
    (asTup 2 r1.1).bind fun d2 =>
    (asSl (d2.getD 0 .bad)).bind fun s3 =>
    (asB (d2.getD 1 .bad)).bind fun t4 =>
    ((callP Try.prog keepT n) Y 7 [(.int .i64 x1), (.int .i64 80)] r1.2.1 (r1.2.2 + 4)).bind fun r5 =>
    (asI .i64 r5.1).bind fun n6 =>
    ((callP Try.prog keepT n) Y 17 [(.slice s3.1 s3.2.1 s3.2.2), (.int .i64 (wrapA .i64 (1 + n6)))] r5.2.1 (r5.2.2 + 8)).bind fun r7 =>
    (asTup 2 r7.1).bind fun d8 =>
    (asI .i64 (d8.getD 0 .bad)).bind fun n9 =>
    (asI .i64 (d8.getD 1 .bad)).bind fun n10 =>
    if (!t4) = true then
    (some ((.bool false), r7.2.1, (r7.2.2 + 3)))
    else
    (F6_L1 (callP Try.prog keepT n) Y n n s3.1 s3.2.1 s3.2.2 (wrapA .i64 (1 + n6)) n9 n10 0 0 r7.2.1 (r7.2.2 + 4)) := F6_eq' go1 n Y x0a x0n x0c x1 h nx

noncomputable def c7 : Code := (Try.f7.body).getD .skip

noncomputable def r7 : List ResultVar := Try.f7.results.toList

theorem F7_eq' (J : StepF (AV × AHeap × Nat) → StepF (AV × AHeap × Nat)) (n : Nat) (Y : YldF) (x0 : Int) (x1 : Int) (h : AHeap) (nx : Nat) : rootJ J Try.prog keepT (callP Try.prog keepT n) Y n 7 [(.int .i64 x0), (.int .i64 x1)] h nx =
    if (x1 : Int) = 0 then none else
    (if (decide (((Int.tmod x0 x1) : Int) < 0)) = true then
    (some ((.int .i64 (wrapA .i64 ((Int.tmod x0 x1) + x1))), h, (nx + 11)))
    else
    (some ((.int .i64 (Int.tmod x0 x1)), h, (nx + 9)))) := by kernel_rfl

/-- quickset/quicksetkeep.Picked -/
theorem F7_eq (n : Nat) (Y : YldF) (x0 : Int) (x1 : Int) (h : AHeap) (nx : Nat) : callP Try.prog keepT (n + 1) Y 7 [(.int .i64 x0), (.int .i64 x1)] h nx =
    if (x1 : Int) = 0 then none else
    (if (decide (((Int.tmod x0 x1) : Int) < 0)) = true then
    (some ((.int .i64 (wrapA .i64 ((Int.tmod x0 x1) + x1))), h, (nx + 11)))
    else
    (some ((.int .i64 (Int.tmod x0 x1)), h, (nx + 9)))) := F7_eq' go1 n Y x0 x1 h nx

noncomputable def c8 : Code := (Try.f8.body).getD .skip

noncomputable def r8 : List ResultVar := Try.f8.results.toList

noncomputable def F8_L1' (W J : StepF (AV × AHeap × Nat) → StepF (AV × AHeap × Nat)) (call : YldF → CallF) (Y : YldF) (lf : Nat) (n0 : Nat) (x0a : Option (Nat × Nat)) (x0n : Nat) (x0c : Option Nat) (x1 : Int) (x6a : Option (Nat × Nat)) (x6n : Nat) (x6c : Option Nat) (x7 : Int) (h : AHeap) (nx : Nat) : Option (AV × AHeap × Nat) :=
  goK W J drawK (machOf Try.prog) call Y (keepT 8) lf c8 [1, 1, 0, 1, 0, 9] [n0] (retK (machOf Try.prog) ⟨c8, 44, r8, keepT 8⟩) ⟨44, mkL [(0, (.slice x0a x0n x0c)), (1, (.int .i64 x1)), (6, (.slice x6a x6n x6c)), (7, (.int .i64 x7))]⟩ h nx

noncomputable def F8_L1 (call : YldF → CallF) (Y : YldF) (lf : Nat) (n0 : Nat) (x0a : Option (Nat × Nat)) (x0n : Nat) (x0c : Option Nat) (x1 : Int) (x6a : Option (Nat × Nat)) (x6n : Nat) (x6c : Option Nat) (x7 : Int) (h : AHeap) (nx : Nat) : Option (AV × AHeap × Nat) := F8_L1' go1 go1 call Y lf n0 x0a x0n x0c x1 x6a x6n x6c x7 h nx

noncomputable def F8_J2' (W J : StepF (AV × AHeap × Nat) → StepF (AV × AHeap × Nat)) (call : YldF → CallF) (Y : YldF) (lf : Nat) (n0 : Nat) (x0a : Option (Nat × Nat)) (x0n : Nat) (x0c : Option Nat) (x1 : Int) (x6a : Option (Nat × Nat)) (x6n : Nat) (x6c : Option Nat) (x7 : Int) (h : AHeap) (nx : Nat) : Option (AV × AHeap × Nat) :=
  goK W J drawK (machOf Try.prog) call Y (keepT 8) lf c8 [1, 1, 0, 1, 0, 0, 1] [n0] (retK (machOf Try.prog) ⟨c8, 44, r8, keepT 8⟩) ⟨44, mkL [(0, (.slice x0a x0n x0c)), (1, (.int .i64 x1)), (6, (.slice x6a x6n x6c)), (7, (.int .i64 x7))]⟩ h nx

noncomputable def F8_J2 (call : YldF → CallF) (Y : YldF) (lf : Nat) (n0 : Nat) (x0a : Option (Nat × Nat)) (x0n : Nat) (x0c : Option Nat) (x1 : Int) (x6a : Option (Nat × Nat)) (x6n : Nat) (x6c : Option Nat) (x7 : Int) (h : AHeap) (nx : Nat) : Option (AV × AHeap × Nat) := F8_J2' go1 go1 call Y lf n0 x0a x0n x0c x1 x6a x6n x6c x7 h nx

noncomputable def F8_J3' (W J : StepF (AV × AHeap × Nat) → StepF (AV × AHeap × Nat)) (call : YldF → CallF) (Y : YldF) (lf : Nat) (x6a : Option (Nat × Nat)) (x6n : Nat) (x6c : Option Nat) (h : AHeap) (nx : Nat) : Option (AV × AHeap × Nat) :=
  goK W J drawK (machOf Try.prog) call Y (keepT 8) lf c8 [1, 1, 1] [] (retK (machOf Try.prog) ⟨c8, 44, r8, keepT 8⟩) ⟨44, mkL [(6, (.slice x6a x6n x6c))]⟩ h nx

noncomputable def F8_J3 (call : YldF → CallF) (Y : YldF) (lf : Nat) (x6a : Option (Nat × Nat)) (x6n : Nat) (x6c : Option Nat) (h : AHeap) (nx : Nat) : Option (AV × AHeap × Nat) := F8_J3' go1 go1 call Y lf x6a x6n x6c h nx

theorem F8_L1_eq' (J : StepF (AV × AHeap × Nat) → StepF (AV × AHeap × Nat)) (call : YldF → CallF) (Y : YldF) (lf : Nat) (n0 : Nat) (x0a : Option (Nat × Nat)) (x0n : Nat) (x0c : Option Nat) (x1 : Int) (x6a : Option (Nat × Nat)) (x6n : Nat) (x6c : Option Nat) (x7 : Int) (h : AHeap) (nx : Nat) : F8_L1' go1 J call Y lf (n0 + 1) x0a x0n x0c x1 x6a x6n x6c x7 h nx =
    if (decide (((wrapA .i64 (x7 + 1)) : Int) < ((x0n : Nat) : Int))) = true then
    (if (decide ((x7 : Int) < (wrapA .i64 (2 * x1)))) = true then
    (F8_J2' J J call Y lf n0 x0a x0n x0c x1 x6a x6n x6c x7 h (nx + 11))
    else
    (F8_J3' J J call Y lf x6a x6n x6c h (nx + 11)))
    else
    (F8_J3' J J call Y lf x6a x6n x6c h (nx + 11)) := by kernel_rfl

theorem F8_L1_eq (call : YldF → CallF) (Y : YldF) (lf : Nat) (n0 : Nat) (x0a : Option (Nat × Nat)) (x0n : Nat) (x0c : Option Nat) (x1 : Int) (x6a : Option (Nat × Nat)) (x6n : Nat) (x6c : Option Nat) (x7 : Int) (h : AHeap) (nx : Nat) : F8_L1 call Y lf (n0 + 1) x0a x0n x0c x1 x6a x6n x6c x7 h nx =
    if (decide (((wrapA .i64 (x7 + 1)) : Int) < ((x0n : Nat) : Int))) = true then
    (if (decide ((x7 : Int) < (wrapA .i64 (2 * x1)))) = true then
    (F8_J2 call Y lf n0 x0a x0n x0c x1 x6a x6n x6c x7 h (nx + 11))
    else
    (F8_J3 call Y lf x6a x6n x6c h (nx + 11)))
    else
    (F8_J3 call Y lf x6a x6n x6c h (nx + 11)) := F8_L1_eq' go1 call Y lf n0 x0a x0n x0c x1 x6a x6n x6c x7 h nx

theorem F8_L1_zero (call : YldF → CallF) (Y : YldF) (lf : Nat) (x0a : Option (Nat × Nat)) (x0n : Nat) (x0c : Option Nat) (x1 : Int) (x6a : Option (Nat × Nat)) (x6n : Nat) (x6c : Option Nat) (x7 : Int) (h : AHeap) (nx : Nat) : F8_L1 call Y lf 0 x0a x0n x0c x1 x6a x6n x6c x7 h nx = none := by kernel_rfl

theorem F8_J2_eq' (J : StepF (AV × AHeap × Nat) → StepF (AV × AHeap × Nat)) (call : YldF → CallF) (Y : YldF) (lf : Nat) (n0 : Nat) (x0a : Option (Nat × Nat)) (x0n : Nat) (x0c : Option Nat) (x1 : Int) (x6a : Option (Nat × Nat)) (x6n : Nat) (x6c : Option Nat) (x7 : Int) (h : AHeap) (nx : Nat) : F8_J2' go1 J call Y lf n0 x0a x0n x0c x1 x6a x6n x6c x7 h nx =
    (x0a).bind fun p1 =>
    if 0 ≤ (x7 : Int) ∧ x7 < ((x0n : Nat) : Int) then
    ((ldA h p1.1 (p1.2 + Int.toNat x7 * 1)).bind fun v2 =>
    (asI .i64 v2).bind fun n3 =>
    (x0a).bind fun p4 =>
    if 0 ≤ ((wrapA .i64 (x7 + 1)) : Int) ∧ (wrapA .i64 (x7 + 1)) < ((x0n : Nat) : Int) then
    ((ldA h p4.1 (p4.2 + Int.toNat (wrapA .i64 (x7 + 1)) * 1)).bind fun v5 =>
    (asI .i64 v5).bind fun n6 =>
    (call Y 10 [(.int .i64 n3), (.int .i64 n6)] h (nx + 17)).bind fun r7 =>
    (asAgg 2 r7.1).bind fun d8 =>
    (asI .i64 (d8.getD 0 .bad)).bind fun n9 =>
    (asI .i64 (d8.getD 1 .bad)).bind fun n10 =>
    (call Y 11 [(.slice x6a x6n x6c), (.agg [(.int .i64 n9), (.int .i64 n10)])] r7.2.1 r7.2.2).bind fun r11 =>
    (asTup 2 r11.1).bind fun d12 =>
    (asSl (d12.getD 0 .bad)).bind fun s13 =>
    (asI .i64 (d12.getD 1 .bad)).bind fun n14 =>
    if ((n14 : Int) != 0) = true then
    (some ((.tuple [(.slice none 0 none), (.bool false)]), r11.2.1, (r11.2.2 + 4)))
    else
    (F8_L1' J J call Y lf n0 x0a x0n x0c x1 s13.1 s13.2.1 s13.2.2 (wrapA .i64 (x7 + 2)) r11.2.1 (r11.2.2 + 7)))
    else none)
    else none := by kernel_rfl

theorem F8_J2_eq (call : YldF → CallF) (Y : YldF) (lf : Nat) (n0 : Nat) (x0a : Option (Nat × Nat)) (x0n : Nat) (x0c : Option Nat) (x1 : Int) (x6a : Option (Nat × Nat)) (x6n : Nat) (x6c : Option Nat) (x7 : Int) (h : AHeap) (nx : Nat) : F8_J2 call Y lf n0 x0a x0n x0c x1 x6a x6n x6c x7 h nx =
    (x0a).bind fun p1 =>
    if 0 ≤ (x7 : Int) ∧ x7 < ((x0n : Nat) : Int) then
    ((ldA h p1.1 (p1.2 + Int.toNat x7 * 1)).bind fun v2 =>
    (asI .i64 v2).bind fun n3 =>
    (x0a).bind fun p4 =>
    if 0 ≤ ((wrapA .i64 (x7 + 1)) : Int) ∧ (wrapA .i64 (x7 + 1)) < ((x0n : Nat) : Int) then
    ((ldA h p4.1 (p4.2 + Int.toNat (wrapA .i64 (x7 + 1)) * 1)).bind fun v5 =>
    (asI .i64 v5).bind fun n6 =>
    (call Y 10 [(.int .i64 n3), (.int .i64 n6)] h (nx + 17)).bind fun r7 =>
    (asAgg 2 r7.1).bind fun d8 =>
    (asI .i64 (d8.getD 0 .bad)).bind fun n9 =>
    (asI .i64 (d8.getD 1 .bad)).bind fun n10 =>
    (call Y 11 [(.slice x6a x6n x6c), (.agg [(.int .i64 n9), (.int .i64 n10)])] r7.2.1 r7.2.2).bind fun r11 =>
    (asTup 2 r11.1).bind fun d12 =>
    (asSl (d12.getD 0 .bad)).bind fun s13 =>
    (asI .i64 (d12.getD 1 .bad)).bind fun n14 =>
    if ((n14 : Int) != 0) = true then
    (some ((.tuple [(.slice none 0 none), (.bool false)]), r11.2.1, (r11.2.2 + 4)))
    else
    (F8_L1 call Y lf n0 x0a x0n x0c x1 s13.1 s13.2.1 s13.2.2 (wrapA .i64 (x7 + 2)) r11.2.1 (r11.2.2 + 7)))
    else none)
    else none := F8_J2_eq' go1 call Y lf n0 x0a x0n x0c x1 x6a x6n x6c x7 h nx

theorem F8_J3_eq' (J : StepF (AV × AHeap × Nat) → StepF (AV × AHeap × Nat)) (call : YldF → CallF) (Y : YldF) (lf : Nat) (x6a : Option (Nat × Nat)) (x6n : Nat) (x6c : Option Nat) (h : AHeap) (nx : Nat) : F8_J3' go1 J call Y lf x6a x6n x6c h nx =
    (call Y 15 [(.slice x6a x6n x6c)] h (nx + 5)).bind fun r1 =>
    (asB r1.1).bind fun t2 =>
    some ((.tuple [(.slice x6a x6n x6c), (.bool t2)]), r1.2.1, r1.2.2) := by kernel_rfl

theorem F8_J3_eq (call : YldF → CallF) (Y : YldF) (lf : Nat) (x6a : Option (Nat × Nat)) (x6n : Nat) (x6c : Option Nat) (h : AHeap) (nx : Nat) : F8_J3 call Y lf x6a x6n x6c h nx =
    (call Y 15 [(.slice x6a x6n x6c)] h (nx + 5)).bind fun r1 =>
    (asB r1.1).bind fun t2 =>
    some ((.tuple [(.slice x6a x6n x6c), (.bool t2)]), r1.2.1, r1.2.2) := F8_J3_eq' go1 call Y lf x6a x6n x6c h nx

theorem F8_eq' (J : StepF (AV × AHeap × Nat) → StepF (AV × AHeap × Nat)) (n : Nat) (Y : YldF) (x0a : Option (Nat × Nat)) (x0n : Nat) (x0c : Option Nat) (x1 : Int) (h : AHeap) (nx : Nat) : rootJ J Try.prog keepT (callP Try.prog keepT n) Y n 8 [(.slice x0a x0n x0c), (.int .i64 x1)] h nx =
    F8_L1' J J (callP Try.prog keepT n) Y n n x0a x0n x0c x1 none 0 none 0 h (nx + 4) := by kernel_rfl

/-- quickset/quicksetkeep.SetOf -/
theorem F8_eq (n : Nat) (Y : YldF) (x0a : Option (Nat × Nat)) (x0n : Nat) (x0c : Option Nat) (x1 : Int) (h : AHeap) (nx : Nat) : callP Try.prog keepT (n + 1) Y 8 [(.slice x0a x0n x0c), (.int .i64 x1)] h nx =
    F8_L1 (callP Try.prog keepT n) Y n n x0a x0n x0c x1 none 0 none 0 h (nx + 4) := F8_eq' go1 n Y x0a x0n x0c x1 h nx

noncomputable def c9 : Code := (Try.f9.body).getD .skip

noncomputable def r9 : List ResultVar := Try.f9.results.toList

noncomputable def F9_L1' (W J : StepF (AV × AHeap × Nat) → StepF (AV × AHeap × Nat)) (call : YldF → CallF) (Y : YldF) (lf : Nat) (n0 : Nat) (x0a : Option (Nat × Nat)) (x0n : Nat) (x0c : Option Nat) (x1a : Option (Nat × Nat)) (x1n : Nat) (x1c : Option Nat) (x5 : Int) (h : AHeap) (nx : Nat) : Option (AV × AHeap × Nat) :=
  goK W J drawK (machOf Try.prog) call Y (keepT 9) lf c9 [1, 1, 0, 1, 0, 9] [n0] (retK (machOf Try.prog) ⟨c9, 26, r9, keepT 9⟩) ⟨26, mkL [(0, (.slice x0a x0n x0c)), (1, (.slice x1a x1n x1c)), (5, (.int .i64 x5))]⟩ h nx

noncomputable def F9_L1 (call : YldF → CallF) (Y : YldF) (lf : Nat) (n0 : Nat) (x0a : Option (Nat × Nat)) (x0n : Nat) (x0c : Option Nat) (x1a : Option (Nat × Nat)) (x1n : Nat) (x1c : Option Nat) (x5 : Int) (h : AHeap) (nx : Nat) : Option (AV × AHeap × Nat) := F9_L1' go1 go1 call Y lf n0 x0a x0n x0c x1a x1n x1c x5 h nx

theorem F9_L1_eq' (J : StepF (AV × AHeap × Nat) → StepF (AV × AHeap × Nat)) (call : YldF → CallF) (Y : YldF) (lf : Nat) (n0 : Nat) (x0a : Option (Nat × Nat)) (x0n : Nat) (x0c : Option Nat) (x1a : Option (Nat × Nat)) (x1n : Nat) (x1c : Option Nat) (x5 : Int) (h : AHeap) (nx : Nat) : F9_L1' go1 J call Y lf (n0 + 1) x0a x0n x0c x1a x1n x1c x5 h nx =
    if (decide ((x5 : Int) < ((x0n : Nat) : Int))) = true then
    ((x0a).bind fun p1 =>
    if 0 ≤ (x5 : Int) ∧ x5 < ((x0n : Nat) : Int) then
    ((ldR h p1.1 (p1.2 + Int.toNat x5 * 2) 2).bind fun l2 =>
    (asAgg 2 (AV.agg l2)).bind fun d3 =>
    (asI .i64 (d3.getD 0 .bad)).bind fun n4 =>
    (asI .i64 (d3.getD 1 .bad)).bind fun n5 =>
    (x1a).bind fun p6 =>
    if 0 ≤ (x5 : Int) ∧ x5 < ((x1n : Nat) : Int) then
    ((ldR h p6.1 (p6.2 + Int.toNat x5 * 2) 2).bind fun l7 =>
    (asAgg 2 (AV.agg l7)).bind fun d8 =>
    (asI .i64 (d8.getD 0 .bad)).bind fun n9 =>
    (asI .i64 (d8.getD 1 .bad)).bind fun n10 =>
    if (!eqCells [(.int .i64 n4), (.int .i64 n5)] [(.int .i64 n9), (.int .i64 n10)]) = true then
    (some ((.bool false), h, (nx + 14)))
    else
    (F9_L1' J J call Y lf n0 x0a x0n x0c x1a x1n x1c (wrapA .i64 (x5 + 1)) h (nx + 16)))
    else none)
    else none)
    else
    (some ((.bool true), h, (nx + 5))) := by kernel_rfl

theorem F9_L1_eq (call : YldF → CallF) (Y : YldF) (lf : Nat) (n0 : Nat) (x0a : Option (Nat × Nat)) (x0n : Nat) (x0c : Option Nat) (x1a : Option (Nat × Nat)) (x1n : Nat) (x1c : Option Nat) (x5 : Int) (h : AHeap) (nx : Nat) : F9_L1 call Y lf (n0 + 1) x0a x0n x0c x1a x1n x1c x5 h nx =
    if (decide ((x5 : Int) < ((x0n : Nat) : Int))) = true then
    ((x0a).bind fun p1 =>
    if 0 ≤ (x5 : Int) ∧ x5 < ((x0n : Nat) : Int) then
    ((ldR h p1.1 (p1.2 + Int.toNat x5 * 2) 2).bind fun l2 =>
    (asAgg 2 (AV.agg l2)).bind fun d3 =>
    (asI .i64 (d3.getD 0 .bad)).bind fun n4 =>
    (asI .i64 (d3.getD 1 .bad)).bind fun n5 =>
    (x1a).bind fun p6 =>
    if 0 ≤ (x5 : Int) ∧ x5 < ((x1n : Nat) : Int) then
    ((ldR h p6.1 (p6.2 + Int.toNat x5 * 2) 2).bind fun l7 =>
    (asAgg 2 (AV.agg l7)).bind fun d8 =>
    (asI .i64 (d8.getD 0 .bad)).bind fun n9 =>
    (asI .i64 (d8.getD 1 .bad)).bind fun n10 =>
    if (!eqCells [(.int .i64 n4), (.int .i64 n5)] [(.int .i64 n9), (.int .i64 n10)]) = true then
    (some ((.bool false), h, (nx + 14)))
    else
    (F9_L1 call Y lf n0 x0a x0n x0c x1a x1n x1c (wrapA .i64 (x5 + 1)) h (nx + 16)))
    else none)
    else none)
    else
    (some ((.bool true), h, (nx + 5))) := F9_L1_eq' go1 call Y lf n0 x0a x0n x0c x1a x1n x1c x5 h nx

theorem F9_L1_zero (call : YldF → CallF) (Y : YldF) (lf : Nat) (x0a : Option (Nat × Nat)) (x0n : Nat) (x0c : Option Nat) (x1a : Option (Nat × Nat)) (x1n : Nat) (x1c : Option Nat) (x5 : Int) (h : AHeap) (nx : Nat) : F9_L1 call Y lf 0 x0a x0n x0c x1a x1n x1c x5 h nx = none := by kernel_rfl

theorem F9_eq' (J : StepF (AV × AHeap × Nat) → StepF (AV × AHeap × Nat)) (n : Nat) (Y : YldF) (x0a : Option (Nat × Nat)) (x0n : Nat) (x0c : Option Nat) (x1a : Option (Nat × Nat)) (x1n : Nat) (x1c : Option Nat) (h : AHeap) (nx : Nat) : rootJ J Try.prog keepT (callP Try.prog keepT n) Y n 9 [(.slice x0a x0n x0c), (.slice x1a x1n x1c)] h nx =
    if ((((x0n : Nat) : Int) : Int) != ((x1n : Nat) : Int)) = true then
    (some ((.bool false), h, (nx + 7)))
    else
    (F9_L1' J J (callP Try.prog keepT n) Y n n x0a x0n x0c x1a x1n x1c 0 h (nx + 7)) := by kernel_rfl

/-- quickset/quicksetkeep.sameRanges -/
theorem F9_eq (n : Nat) (Y : YldF) (x0a : Option (Nat × Nat)) (x0n : Nat) (x0c : Option Nat) (x1a : Option (Nat × Nat)) (x1n : Nat) (x1c : Option Nat) (h : AHeap) (nx : Nat) : callP Try.prog keepT (n + 1) Y 9 [(.slice x0a x0n x0c), (.slice x1a x1n x1c)] h nx =
    if ((((x0n : Nat) : Int) : Int) != ((x1n : Nat) : Int)) = true then
    (some ((.bool false), h, (nx + 7)))
    else
    (F9_L1 (callP Try.prog keepT n) Y n n x0a x0n x0c x1a x1n x1c 0 h (nx + 7)) := F9_eq' go1 n Y x0a x0n x0c x1a x1n x1c h nx

noncomputable def c10 : Code := (Try.f10.body).getD .skip

noncomputable def r10 : List ResultVar := Try.f10.results.toList

theorem F10_eq' (J : StepF (AV × AHeap × Nat) → StepF (AV × AHeap × Nat)) (n : Nat) (Y : YldF) (x0 : Int) (x1 : Int) (h : AHeap) (nx : Nat) : rootJ J Try.prog keepT (callP Try.prog keepT n) Y n 10 [(.int .i64 x0), (.int .i64 x1)] h nx =
    let h1 := AHeap.put h nx (some ⟨[(.int .i64 0), (.int .i64 0)], 2, true⟩)
    ((callP Try.prog keepT n) Y 7 [(.int .i64 x0), (.int .i64 300)] h1 (nx + 4)).bind fun r2 =>
    (asI .i64 r2.1).bind fun n3 =>
    ((callP Try.prog keepT n) Y 7 [(.int .i64 x1), (.int .i64 60)] r2.2.1 (r2.2.2 + 8)).bind fun r4 =>
    (asI .i64 r4.1).bind fun n5 =>
    (stA r4.2.1 nx 0 (.agg [(.int .i64 n3), (.int .i64 (wrapA .i64 ((wrapA .i64 (n3 + 1)) + n5)))]) 2).bind fun b6 =>
    let h7 := AHeap.put r4.2.1 nx (some b6)
    (ldR h7 nx 0 2).bind fun l8 =>
    (asAgg 2 (AV.agg l8)).bind fun d9 =>
    (asI .i64 (d9.getD 0 .bad)).bind fun n10 =>
    (asI .i64 (d9.getD 1 .bad)).bind fun n11 =>
    some ((.agg [(.int .i64 n10), (.int .i64 n11)]), h7, r4.2.2) := by kernel_rfl

/-- quickset/quicksetkeep.RangeOf -/
theorem F10_eq (n : Nat) (Y : YldF) (x0 : Int) (x1 : Int) (h : AHeap) (nx : Nat) : callP Try.prog keepT (n + 1) Y 10 [(.int .i64 x0), (.int .i64 x1)] h nx =
    let h1 := AHeap.put h nx (some ⟨[(.int .i64 0), (.int .i64 0)], 2, true⟩)
    ((callP Try.prog keepT n) Y 7 [(.int .i64 x0), (.int .i64 300)] h1 (nx + 4)).bind fun r2 =>
    (asI .i64 r2.1).bind fun n3 =>
    ((callP Try.prog keepT n) Y 7 [(.int .i64 x1), (.int .i64 60)] r2.2.1 (r2.2.2 + 8)).bind fun r4 =>
    (asI .i64 r4.1).bind fun n5 =>
    (stA r4.2.1 nx 0 (.agg [(.int .i64 n3), (.int .i64 (wrapA .i64 ((wrapA .i64 (n3 + 1)) + n5)))]) 2).bind fun b6 =>
    let h7 := AHeap.put r4.2.1 nx (some b6)
    (ldR h7 nx 0 2).bind fun l8 =>
    (asAgg 2 (AV.agg l8)).bind fun d9 =>
    (asI .i64 (d9.getD 0 .bad)).bind fun n10 =>
    (asI .i64 (d9.getD 1 .bad)).bind fun n11 =>
    some ((.agg [(.int .i64 n10), (.int .i64 n11)]), h7, r4.2.2) := F10_eq' go1 n Y x0 x1 h nx

noncomputable def c11 : Code := (Try.f11.body).getD .skip

noncomputable def r11 : List ResultVar := Try.f11.results.toList

noncomputable def F11_J1' (W J : StepF (AV × AHeap × Nat) → StepF (AV × AHeap × Nat)) (call : YldF → CallF) (Y : YldF) (lf : Nat) (x0a : Option (Nat × Nat)) (x0n : Nat) (x0c : Option Nat) (x3 : Option (Nat × Nat)) (h : AHeap) (nx : Nat) : Option (AV × AHeap × Nat) :=
  goK W J drawK (machOf Try.prog) call Y (keepT 11) lf c11 [1, 1] [] (retK (machOf Try.prog) ⟨c11, 24, r11, keepT 11⟩) ⟨24, mkL [(0, (.slice x0a x0n x0c)), (3, (.ptr x3))]⟩ h nx

noncomputable def F11_J1 (call : YldF → CallF) (Y : YldF) (lf : Nat) (x0a : Option (Nat × Nat)) (x0n : Nat) (x0c : Option Nat) (x3 : Option (Nat × Nat)) (h : AHeap) (nx : Nat) : Option (AV × AHeap × Nat) := F11_J1' go1 go1 call Y lf x0a x0n x0c x3 h nx

theorem F11_J1_eq' (J : StepF (AV × AHeap × Nat) → StepF (AV × AHeap × Nat)) (call : YldF → CallF) (Y : YldF) (lf : Nat) (x0a : Option (Nat × Nat)) (x0n : Nat) (x0c : Option Nat) (x3 : Option (Nat × Nat)) (h : AHeap) (nx : Nat) : F11_J1' go1 J call Y lf x0a x0n x0c x3 h nx =
    (call Y 21 [(.slice x0a x0n x0c), (.int .i64 1)] h (nx + 12)).bind fun r1 =>
    (asSl r1.1).bind fun s2 =>
    (x3).bind fun p3 =>
    (ldR r1.2.1 p3.1 p3.2 2).bind fun l4 =>
    (asAgg 2 (AV.agg l4)).bind fun d5 =>
    (asI .i64 (d5.getD 0 .bad)).bind fun n6 =>
    (asI .i64 (d5.getD 1 .bad)).bind fun n7 =>
    let h8 := AHeap.put r1.2.1 (nx + 3) (some ⟨[(.int .i64 n6), (.int .i64 n7)], 2, true⟩)
    (call Y 21 [(.slice (some ((nx + 3), 0)) 1 (some 1)), (.int .i64 1)] h8 r1.2.2).bind fun r9 =>
    (asSl r9.1).bind fun s10 =>
    (srcS r9.2.1 s10.1 s10.2.1 2).bind fun q11 =>
    (appD r9.2.1 s2.1 s2.2.1 s2.2.2 2 16 (nx + 5) q11).bind fun e12 =>
    let h13 := AHeap.puts r9.2.1 e12.sets
    (call Y 20 [(.slice e12.a e12.n e12.c), (.fn 22 [] [])] h13 r9.2.2).bind fun r14 =>
    (asSl r14.1).bind fun s15 =>
    (call Y 19 [(.slice s15.1 s15.2.1 s15.2.2)] r14.2.1 r14.2.2).bind fun r16 =>
    (asTup 2 r16.1).bind fun d17 =>
    (asSl (d17.getD 0 .bad)).bind fun s18 =>
    (asI .i64 (d17.getD 1 .bad)).bind fun n19 =>
    ifKept [(h, r1.2.1, [p3.1])]
    (ifRob (callC (call Y) Y) [⟨(.fn 21), [(.slice x0a x0n x0c), (.int .i64 1)], (.slice s2.1 s2.2.1 s2.2.2), h, r1.2.1, (nx + 12), r1.2.2, [(nx + 3)]⟩]
    (some ((.tuple [(.slice s18.1 s18.2.1 s18.2.2), (.int .i64 n19)]), r16.2.1, r16.2.2))) := by kernel_rfl

theorem F11_J1_eq (call : YldF → CallF) (Y : YldF) (lf : Nat) (x0a : Option (Nat × Nat)) (x0n : Nat) (x0c : Option Nat) (x3 : Option (Nat × Nat)) (h : AHeap) (nx : Nat) : F11_J1 call Y lf x0a x0n x0c x3 h nx =
    (call Y 21 [(.slice x0a x0n x0c), (.int .i64 1)] h (nx + 12)).bind fun r1 =>
    (asSl r1.1).bind fun s2 =>
    (x3).bind fun p3 =>
    (ldR r1.2.1 p3.1 p3.2 2).bind fun l4 =>
    (asAgg 2 (AV.agg l4)).bind fun d5 =>
    (asI .i64 (d5.getD 0 .bad)).bind fun n6 =>
    (asI .i64 (d5.getD 1 .bad)).bind fun n7 =>
    let h8 := AHeap.put r1.2.1 (nx + 3) (some ⟨[(.int .i64 n6), (.int .i64 n7)], 2, true⟩)
    (call Y 21 [(.slice (some ((nx + 3), 0)) 1 (some 1)), (.int .i64 1)] h8 r1.2.2).bind fun r9 =>
    (asSl r9.1).bind fun s10 =>
    (srcS r9.2.1 s10.1 s10.2.1 2).bind fun q11 =>
    (appD r9.2.1 s2.1 s2.2.1 s2.2.2 2 16 (nx + 5) q11).bind fun e12 =>
    let h13 := AHeap.puts r9.2.1 e12.sets
    (call Y 20 [(.slice e12.a e12.n e12.c), (.fn 22 [] [])] h13 r9.2.2).bind fun r14 =>
    (asSl r14.1).bind fun s15 =>
    (call Y 19 [(.slice s15.1 s15.2.1 s15.2.2)] r14.2.1 r14.2.2).bind fun r16 =>
    (asTup 2 r16.1).bind fun d17 =>
    (asSl (d17.getD 0 .bad)).bind fun s18 =>
    (asI .i64 (d17.getD 1 .bad)).bind fun n19 =>
    ifKept [(h, r1.2.1, [p3.1])]
    (ifRob (callC (call Y) Y) [⟨(.fn 21), [(.slice x0a x0n x0c), (.int .i64 1)], (.slice s2.1 s2.2.1 s2.2.2), h, r1.2.1, (nx + 12), r1.2.2, [(nx + 3)]⟩]
    (some ((.tuple [(.slice s18.1 s18.2.1 s18.2.2), (.int .i64 n19)]), r16.2.1, r16.2.2))) := F11_J1_eq' go1 call Y lf x0a x0n x0c x3 h nx

theorem F11_eq' (J : StepF (AV × AHeap × Nat) → StepF (AV × AHeap × Nat)) (n : Nat) (Y : YldF) (x0a : Option (Nat × Nat)) (x0n : Nat) (x0c : Option Nat) (x1_0 : Int) (x1_1 : Int) (h : AHeap) (nx : Nat) : rootJ J Try.prog keepT (callP Try.prog keepT n) Y n 11 [(.slice x0a x0n x0c), (.agg [(.int .i64 x1_0), (.int .i64 x1_1)])] h nx =
    let h1 := AHeap.put h nx (some ⟨[(.int .i64 x1_0), (.int .i64 x1_1)], 2, true⟩)
    ((callP Try.prog keepT n) Y 15 [(.slice x0a x0n x0c)] h1 (nx + 11)).bind fun r2 =>
    (asB r2.1).bind fun t3 =>
    if (!t3) = true then
    (some ((.tuple [(.slice none 0 none), (.int .i64 4)]), r2.2.1, (r2.2.2 + 2)))
    else
    ((ldR r2.2.1 nx 0 2).bind fun l4 =>
    (asAgg 2 (AV.agg l4)).bind fun d5 =>
    (asI .i64 (d5.getD 0 .bad)).bind fun n6 =>
    (asI .i64 (d5.getD 1 .bad)).bind fun n7 =>
    ((callP Try.prog keepT n) Y 18 [(.agg [(.int .i64 n6), (.int .i64 n7)])] r2.2.1 r2.2.2).bind fun r8 =>
    (asB r8.1).bind fun t9 =>
    if (!t9) = true then
    (some ((.tuple [(.slice none 0 none), (.int .i64 4)]), r8.2.1, (r8.2.2 + 2)))
    else
    (F11_J1' J J (callP Try.prog keepT n) Y n x0a x0n x0c (some (nx, 0)) r8.2.1 r8.2.2)) := by kernel_rfl

/-- quickset/span.Add -/
theorem F11_eq (n : Nat) (Y : YldF) (x0a : Option (Nat × Nat)) (x0n : Nat) (x0c : Option Nat) (x1_0 : Int) (x1_1 : Int) (h : AHeap) (nx : Nat) : callP Try.prog keepT (n + 1) Y 11 [(.slice x0a x0n x0c), (.agg [(.int .i64 x1_0), (.int .i64 x1_1)])] h nx =
    let h1 := AHeap.put h nx (some ⟨[(.int .i64 x1_0), (.int .i64 x1_1)], 2, true⟩)
    ((callP Try.prog keepT n) Y 15 [(.slice x0a x0n x0c)] h1 (nx + 11)).bind fun r2 =>
    (asB r2.1).bind fun t3 =>
    if (!t3) = true then
    (some ((.tuple [(.slice none 0 none), (.int .i64 4)]), r2.2.1, (r2.2.2 + 2)))
    else
    ((ldR r2.2.1 nx 0 2).bind fun l4 =>
    (asAgg 2 (AV.agg l4)).bind fun d5 =>
    (asI .i64 (d5.getD 0 .bad)).bind fun n6 =>
    (asI .i64 (d5.getD 1 .bad)).bind fun n7 =>
    ((callP Try.prog keepT n) Y 18 [(.agg [(.int .i64 n6), (.int .i64 n7)])] r2.2.1 r2.2.2).bind fun r8 =>
    (asB r8.1).bind fun t9 =>
    if (!t9) = true then
    (some ((.tuple [(.slice none 0 none), (.int .i64 4)]), r8.2.1, (r8.2.2 + 2)))
    else
    (F11_J1 (callP Try.prog keepT n) Y n x0a x0n x0c (some (nx, 0)) r8.2.1 r8.2.2)) := F11_eq' go1 n Y x0a x0n x0c x1_0 x1_1 h nx

noncomputable def c12 : Code := (Try.f12.body).getD .skip

noncomputable def r12 : List ResultVar := Try.f12.results.toList

noncomputable def F12_J1' (W J : StepF (AV × AHeap × Nat) → StepF (AV × AHeap × Nat)) (call : YldF → CallF) (Y : YldF) (lf : Nat) (x0a : Option (Nat × Nat)) (x0n : Nat) (x0c : Option Nat) (x3 : Option (Nat × Nat)) (h : AHeap) (nx : Nat) : Option (AV × AHeap × Nat) :=
  goK W J drawK (machOf Try.prog) call Y (keepT 12) lf c12 [1, 1] [] (retK (machOf Try.prog) ⟨c12, 24, r12, keepT 12⟩) ⟨24, mkL [(0, (.slice x0a x0n x0c)), (3, (.ptr x3))]⟩ h nx

noncomputable def F12_J1 (call : YldF → CallF) (Y : YldF) (lf : Nat) (x0a : Option (Nat × Nat)) (x0n : Nat) (x0c : Option Nat) (x3 : Option (Nat × Nat)) (h : AHeap) (nx : Nat) : Option (AV × AHeap × Nat) := F12_J1' go1 go1 call Y lf x0a x0n x0c x3 h nx

theorem F12_J1_eq' (J : StepF (AV × AHeap × Nat) → StepF (AV × AHeap × Nat)) (call : YldF → CallF) (Y : YldF) (lf : Nat) (x0a : Option (Nat × Nat)) (x0n : Nat) (x0c : Option Nat) (x3 : Option (Nat × Nat)) (h : AHeap) (nx : Nat) : F12_J1' go1 J call Y lf x0a x0n x0c x3 h nx =
    (call Y 21 [(.slice x0a x0n x0c), (.int .i64 1)] h (nx + 12)).bind fun r1 =>
    (asSl r1.1).bind fun s2 =>
    (x3).bind fun p3 =>
    (ldR r1.2.1 p3.1 p3.2 2).bind fun l4 =>
    (asAgg 2 (AV.agg l4)).bind fun d5 =>
    (asI .i64 (d5.getD 0 .bad)).bind fun n6 =>
    (asI .i64 (d5.getD 1 .bad)).bind fun n7 =>
    let h8 := AHeap.put r1.2.1 (nx + 3) (some ⟨[(.int .i64 n6), (.int .i64 n7)], 2, true⟩)
    (call Y 21 [(.slice (some ((nx + 3), 0)) 1 (some 1)), (.int .i64 (-1))] h8 r1.2.2).bind fun r9 =>
    (asSl r9.1).bind fun s10 =>
    (srcS r9.2.1 s10.1 s10.2.1 2).bind fun q11 =>
    (appD r9.2.1 s2.1 s2.2.1 s2.2.2 2 16 (nx + 5) q11).bind fun e12 =>
    let h13 := AHeap.puts r9.2.1 e12.sets
    (call Y 20 [(.slice e12.a e12.n e12.c), (.fn 23 [] [])] h13 r9.2.2).bind fun r14 =>
    (asSl r14.1).bind fun s15 =>
    (call Y 19 [(.slice s15.1 s15.2.1 s15.2.2)] r14.2.1 r14.2.2).bind fun r16 =>
    (asTup 2 r16.1).bind fun d17 =>
    (asSl (d17.getD 0 .bad)).bind fun s18 =>
    (asI .i64 (d17.getD 1 .bad)).bind fun n19 =>
    ifKept [(h, r1.2.1, [p3.1])]
    (ifRob (callC (call Y) Y) [⟨(.fn 21), [(.slice x0a x0n x0c), (.int .i64 1)], (.slice s2.1 s2.2.1 s2.2.2), h, r1.2.1, (nx + 12), r1.2.2, [(nx + 3)]⟩]
    (some ((.tuple [(.slice s18.1 s18.2.1 s18.2.2), (.int .i64 n19)]), r16.2.1, r16.2.2))) := by kernel_rfl

theorem F12_J1_eq (call : YldF → CallF) (Y : YldF) (lf : Nat) (x0a : Option (Nat × Nat)) (x0n : Nat) (x0c : Option Nat) (x3 : Option (Nat × Nat)) (h : AHeap) (nx : Nat) : F12_J1 call Y lf x0a x0n x0c x3 h nx =
    (call Y 21 [(.slice x0a x0n x0c), (.int .i64 1)] h (nx + 12)).bind fun r1 =>
    (asSl r1.1).bind fun s2 =>
    (x3).bind fun p3 =>
    (ldR r1.2.1 p3.1 p3.2 2).bind fun l4 =>
    (asAgg 2 (AV.agg l4)).bind fun d5 =>
    (asI .i64 (d5.getD 0 .bad)).bind fun n6 =>
    (asI .i64 (d5.getD 1 .bad)).bind fun n7 =>
    let h8 := AHeap.put r1.2.1 (nx + 3) (some ⟨[(.int .i64 n6), (.int .i64 n7)], 2, true⟩)
    (call Y 21 [(.slice (some ((nx + 3), 0)) 1 (some 1)), (.int .i64 (-1))] h8 r1.2.2).bind fun r9 =>
    (asSl r9.1).bind fun s10 =>
    (srcS r9.2.1 s10.1 s10.2.1 2).bind fun q11 =>
    (appD r9.2.1 s2.1 s2.2.1 s2.2.2 2 16 (nx + 5) q11).bind fun e12 =>
    let h13 := AHeap.puts r9.2.1 e12.sets
    (call Y 20 [(.slice e12.a e12.n e12.c), (.fn 23 [] [])] h13 r9.2.2).bind fun r14 =>
    (asSl r14.1).bind fun s15 =>
    (call Y 19 [(.slice s15.1 s15.2.1 s15.2.2)] r14.2.1 r14.2.2).bind fun r16 =>
    (asTup 2 r16.1).bind fun d17 =>
    (asSl (d17.getD 0 .bad)).bind fun s18 =>
    (asI .i64 (d17.getD 1 .bad)).bind fun n19 =>
    ifKept [(h, r1.2.1, [p3.1])]
    (ifRob (callC (call Y) Y) [⟨(.fn 21), [(.slice x0a x0n x0c), (.int .i64 1)], (.slice s2.1 s2.2.1 s2.2.2), h, r1.2.1, (nx + 12), r1.2.2, [(nx + 3)]⟩]
    (some ((.tuple [(.slice s18.1 s18.2.1 s18.2.2), (.int .i64 n19)]), r16.2.1, r16.2.2))) := F12_J1_eq' go1 call Y lf x0a x0n x0c x3 h nx

theorem F12_eq' (J : StepF (AV × AHeap × Nat) → StepF (AV × AHeap × Nat)) (n : Nat) (Y : YldF) (x0a : Option (Nat × Nat)) (x0n : Nat) (x0c : Option Nat) (x1_0 : Int) (x1_1 : Int) (h : AHeap) (nx : Nat) : rootJ J Try.prog keepT (callP Try.prog keepT n) Y n 12 [(.slice x0a x0n x0c), (.agg [(.int .i64 x1_0), (.int .i64 x1_1)])] h nx =
    let h1 := AHeap.put h nx (some ⟨[(.int .i64 x1_0), (.int .i64 x1_1)], 2, true⟩)
    ((callP Try.prog keepT n) Y 15 [(.slice x0a x0n x0c)] h1 (nx + 11)).bind fun r2 =>
    (asB r2.1).bind fun t3 =>
    if (!t3) = true then
    (some ((.tuple [(.slice none 0 none), (.int .i64 4)]), r2.2.1, (r2.2.2 + 2)))
    else
    ((ldR r2.2.1 nx 0 2).bind fun l4 =>
    (asAgg 2 (AV.agg l4)).bind fun d5 =>
    (asI .i64 (d5.getD 0 .bad)).bind fun n6 =>
    (asI .i64 (d5.getD 1 .bad)).bind fun n7 =>
    ((callP Try.prog keepT n) Y 18 [(.agg [(.int .i64 n6), (.int .i64 n7)])] r2.2.1 r2.2.2).bind fun r8 =>
    (asB r8.1).bind fun t9 =>
    if (!t9) = true then
    (some ((.tuple [(.slice none 0 none), (.int .i64 4)]), r8.2.1, (r8.2.2 + 2)))
    else
    (F12_J1' J J (callP Try.prog keepT n) Y n x0a x0n x0c (some (nx, 0)) r8.2.1 r8.2.2)) := by kernel_rfl

/-- quickset/span.Cut -/
theorem F12_eq (n : Nat) (Y : YldF) (x0a : Option (Nat × Nat)) (x0n : Nat) (x0c : Option Nat) (x1_0 : Int) (x1_1 : Int) (h : AHeap) (nx : Nat) : callP Try.prog keepT (n + 1) Y 12 [(.slice x0a x0n x0c), (.agg [(.int .i64 x1_0), (.int .i64 x1_1)])] h nx =
    let h1 := AHeap.put h nx (some ⟨[(.int .i64 x1_0), (.int .i64 x1_1)], 2, true⟩)
    ((callP Try.prog keepT n) Y 15 [(.slice x0a x0n x0c)] h1 (nx + 11)).bind fun r2 =>
    (asB r2.1).bind fun t3 =>
    if (!t3) = true then
    (some ((.tuple [(.slice none 0 none), (.int .i64 4)]), r2.2.1, (r2.2.2 + 2)))
    else
    ((ldR r2.2.1 nx 0 2).bind fun l4 =>
    (asAgg 2 (AV.agg l4)).bind fun d5 =>
    (asI .i64 (d5.getD 0 .bad)).bind fun n6 =>
    (asI .i64 (d5.getD 1 .bad)).bind fun n7 =>
    ((callP Try.prog keepT n) Y 18 [(.agg [(.int .i64 n6), (.int .i64 n7)])] r2.2.1 r2.2.2).bind fun r8 =>
    (asB r8.1).bind fun t9 =>
    if (!t9) = true then
    (some ((.tuple [(.slice none 0 none), (.int .i64 4)]), r8.2.1, (r8.2.2 + 2)))
    else
    (F12_J1 (callP Try.prog keepT n) Y n x0a x0n x0c (some (nx, 0)) r8.2.1 r8.2.2)) := F12_eq' go1 n Y x0a x0n x0c x1_0 x1_1 h nx

noncomputable def c13 : Code := (Try.f13.body).getD .skip

noncomputable def r13 : List ResultVar := Try.f13.results.toList

noncomputable def F13_J1' (W J : StepF (AV × AHeap × Nat) → StepF (AV × AHeap × Nat)) (call : YldF → CallF) (Y : YldF) (lf : Nat) (x0a : Option (Nat × Nat)) (x0n : Nat) (x0c : Option Nat) (x1a : Option (Nat × Nat)) (x1n : Nat) (x1c : Option Nat) (h : AHeap) (nx : Nat) : Option (AV × AHeap × Nat) :=
  goK W J drawK (machOf Try.prog) call Y (keepT 13) lf c13 [1, 1] [] (retK (machOf Try.prog) ⟨c13, 23, r13, keepT 13⟩) ⟨23, mkL [(0, (.slice x0a x0n x0c)), (1, (.slice x1a x1n x1c))]⟩ h nx

noncomputable def F13_J1 (call : YldF → CallF) (Y : YldF) (lf : Nat) (x0a : Option (Nat × Nat)) (x0n : Nat) (x0c : Option Nat) (x1a : Option (Nat × Nat)) (x1n : Nat) (x1c : Option Nat) (h : AHeap) (nx : Nat) : Option (AV × AHeap × Nat) := F13_J1' go1 go1 call Y lf x0a x0n x0c x1a x1n x1c h nx

theorem F13_J1_eq' (J : StepF (AV × AHeap × Nat) → StepF (AV × AHeap × Nat)) (call : YldF → CallF) (Y : YldF) (lf : Nat) (x0a : Option (Nat × Nat)) (x0n : Nat) (x0c : Option Nat) (x1a : Option (Nat × Nat)) (x1n : Nat) (x1c : Option Nat) (h : AHeap) (nx : Nat) : F13_J1' go1 J call Y lf x0a x0n x0c x1a x1n x1c h nx =
    (call Y 21 [(.slice x0a x0n x0c), (.int .i64 1)] h (nx + 11)).bind fun r1 =>
    (asSl r1.1).bind fun s2 =>
    (call Y 21 [(.slice x1a x1n x1c), (.int .i64 1)] r1.2.1 r1.2.2).bind fun r3 =>
    (asSl r3.1).bind fun s4 =>
    (srcS r3.2.1 s4.1 s4.2.1 2).bind fun q5 =>
    (appD r3.2.1 s2.1 s2.2.1 s2.2.2 2 16 (nx + 4) q5).bind fun e6 =>
    let h7 := AHeap.puts r3.2.1 e6.sets
    (call Y 20 [(.slice e6.a e6.n e6.c), (.fn 24 [] [])] h7 r3.2.2).bind fun r8 =>
    (asSl r8.1).bind fun s9 =>
    (call Y 19 [(.slice s9.1 s9.2.1 s9.2.2)] r8.2.1 r8.2.2).bind fun r10 =>
    (asTup 2 r10.1).bind fun d11 =>
    (asSl (d11.getD 0 .bad)).bind fun s12 =>
    (asI .i64 (d11.getD 1 .bad)).bind fun n13 =>
    some ((.tuple [(.slice s12.1 s12.2.1 s12.2.2), (.int .i64 n13)]), r10.2.1, r10.2.2) := by kernel_rfl

theorem F13_J1_eq (call : YldF → CallF) (Y : YldF) (lf : Nat) (x0a : Option (Nat × Nat)) (x0n : Nat) (x0c : Option Nat) (x1a : Option (Nat × Nat)) (x1n : Nat) (x1c : Option Nat) (h : AHeap) (nx : Nat) : F13_J1 call Y lf x0a x0n x0c x1a x1n x1c h nx =
    (call Y 21 [(.slice x0a x0n x0c), (.int .i64 1)] h (nx + 11)).bind fun r1 =>
    (asSl r1.1).bind fun s2 =>
    (call Y 21 [(.slice x1a x1n x1c), (.int .i64 1)] r1.2.1 r1.2.2).bind fun r3 =>
    (asSl r3.1).bind fun s4 =>
    (srcS r3.2.1 s4.1 s4.2.1 2).bind fun q5 =>
    (appD r3.2.1 s2.1 s2.2.1 s2.2.2 2 16 (nx + 4) q5).bind fun e6 =>
    let h7 := AHeap.puts r3.2.1 e6.sets
    (call Y 20 [(.slice e6.a e6.n e6.c), (.fn 24 [] [])] h7 r3.2.2).bind fun r8 =>
    (asSl r8.1).bind fun s9 =>
    (call Y 19 [(.slice s9.1 s9.2.1 s9.2.2)] r8.2.1 r8.2.2).bind fun r10 =>
    (asTup 2 r10.1).bind fun d11 =>
    (asSl (d11.getD 0 .bad)).bind fun s12 =>
    (asI .i64 (d11.getD 1 .bad)).bind fun n13 =>
    some ((.tuple [(.slice s12.1 s12.2.1 s12.2.2), (.int .i64 n13)]), r10.2.1, r10.2.2) := F13_J1_eq' go1 call Y lf x0a x0n x0c x1a x1n x1c h nx

theorem F13_eq' (J : StepF (AV × AHeap × Nat) → StepF (AV × AHeap × Nat)) (n : Nat) (Y : YldF) (x0a : Option (Nat × Nat)) (x0n : Nat) (x0c : Option Nat) (x1a : Option (Nat × Nat)) (x1n : Nat) (x1c : Option Nat) (h : AHeap) (nx : Nat) : rootJ J Try.prog keepT (callP Try.prog keepT n) Y n 13 [(.slice x0a x0n x0c), (.slice x1a x1n x1c)] h nx =
    ((callP Try.prog keepT n) Y 15 [(.slice x0a x0n x0c)] h (nx + 10)).bind fun r1 =>
    (asB r1.1).bind fun t2 =>
    if (!t2) = true then
    (some ((.tuple [(.slice none 0 none), (.int .i64 4)]), r1.2.1, (r1.2.2 + 2)))
    else
    (((callP Try.prog keepT n) Y 15 [(.slice x1a x1n x1c)] r1.2.1 r1.2.2).bind fun r3 =>
    (asB r3.1).bind fun t4 =>
    if (!t4) = true then
    (some ((.tuple [(.slice none 0 none), (.int .i64 4)]), r3.2.1, (r3.2.2 + 2)))
    else
    (F13_J1' J J (callP Try.prog keepT n) Y n x0a x0n x0c x1a x1n x1c r3.2.1 r3.2.2)) := by kernel_rfl

/-- quickset/span.Both -/
theorem F13_eq (n : Nat) (Y : YldF) (x0a : Option (Nat × Nat)) (x0n : Nat) (x0c : Option Nat) (x1a : Option (Nat × Nat)) (x1n : Nat) (x1c : Option Nat) (h : AHeap) (nx : Nat) : callP Try.prog keepT (n + 1) Y 13 [(.slice x0a x0n x0c), (.slice x1a x1n x1c)] h nx =
    ((callP Try.prog keepT n) Y 15 [(.slice x0a x0n x0c)] h (nx + 10)).bind fun r1 =>
    (asB r1.1).bind fun t2 =>
    if (!t2) = true then
    (some ((.tuple [(.slice none 0 none), (.int .i64 4)]), r1.2.1, (r1.2.2 + 2)))
    else
    (((callP Try.prog keepT n) Y 15 [(.slice x1a x1n x1c)] r1.2.1 r1.2.2).bind fun r3 =>
    (asB r3.1).bind fun t4 =>
    if (!t4) = true then
    (some ((.tuple [(.slice none 0 none), (.int .i64 4)]), r3.2.1, (r3.2.2 + 2)))
    else
    (F13_J1 (callP Try.prog keepT n) Y n x0a x0n x0c x1a x1n x1c r3.2.1 r3.2.2)) := F13_eq' go1 n Y x0a x0n x0c x1a x1n x1c h nx

noncomputable def c14 : Code := (Try.f14.body).getD .skip

noncomputable def r14 : List ResultVar := Try.f14.results.toList

noncomputable def F14_L1' (W J : StepF (AV × AHeap × Nat) → StepF (AV × AHeap × Nat)) (call : YldF → CallF) (Y : YldF) (lf : Nat) (n0 : Nat) (x3 : Int) (x8a : Option (Nat × Nat)) (x8n : Nat) (x8c : Option Nat) (x9 : Int) (x10 : Int) (h : AHeap) (nx : Nat) : Option (AV × AHeap × Nat) :=
  goK W J drawK (machOf Try.prog) call Y (keepT 14) lf c14 [1, 1, 0, 1, 0, 1, 0, 9] [n0] (retK (machOf Try.prog) ⟨c14, 23, r14, keepT 14⟩) ⟨23, mkL [(3, (.int .i64 x3)), (8, (.slice x8a x8n x8c)), (9, (.int .i64 x9)), (10, (.int .i64 x10))]⟩ h nx

noncomputable def F14_L1 (call : YldF → CallF) (Y : YldF) (lf : Nat) (n0 : Nat) (x3 : Int) (x8a : Option (Nat × Nat)) (x8n : Nat) (x8c : Option Nat) (x9 : Int) (x10 : Int) (h : AHeap) (nx : Nat) : Option (AV × AHeap × Nat) := F14_L1' go1 go1 call Y lf n0 x3 x8a x8n x8c x9 x10 h nx

theorem F14_L1_eq' (J : StepF (AV × AHeap × Nat) → StepF (AV × AHeap × Nat)) (call : YldF → CallF) (Y : YldF) (lf : Nat) (n0 : Nat) (x3 : Int) (x8a : Option (Nat × Nat)) (x8n : Nat) (x8c : Option Nat) (x9 : Int) (x10 : Int) (h : AHeap) (nx : Nat) : F14_L1' go1 J call Y lf (n0 + 1) x3 x8a x8n x8c x9 x10 h nx =
    if (decide ((x10 : Int) < x9)) = true then
    ((x8a).bind fun p1 =>
    if 0 ≤ (x10 : Int) ∧ x10 < ((x8n : Nat) : Int) then
    ((ldR h p1.1 (p1.2 + Int.toNat x10 * 2) 2).bind fun l2 =>
    (asAgg 2 (AV.agg l2)).bind fun d3 =>
    (asI .i64 (d3.getD 0 .bad)).bind fun n4 =>
    (asI .i64 (d3.getD 1 .bad)).bind fun n5 =>
    let h6 := AHeap.put h (nx + 3) (some ⟨[(.int .i64 0), (.int .i64 0)], 2, true⟩)
    (stA h6 (nx + 3) 0 (.agg [(.int .i64 n4), (.int .i64 n5)]) 2).bind fun b7 =>
    let h8 := AHeap.put h6 (nx + 3) (some b7)
    (ldA h8 (nx + 3) 1).bind fun v9 =>
    (asI .i64 v9).bind fun n10 =>
    (ldA h8 (nx + 3) 0).bind fun v11 =>
    (asI .i64 v11).bind fun n12 =>
    F14_L1' J J call Y lf n0 (wrapA .i64 (x3 + (wrapA .i64 (n10 - n12)))) x8a x8n x8c x9 (wrapA .i64 (x10 + 1)) h8 (nx + 15))
    else none)
    else
    (some ((.int .i64 x3), h, (nx + 3))) := by kernel_rfl

theorem F14_L1_eq (call : YldF → CallF) (Y : YldF) (lf : Nat) (n0 : Nat) (x3 : Int) (x8a : Option (Nat × Nat)) (x8n : Nat) (x8c : Option Nat) (x9 : Int) (x10 : Int) (h : AHeap) (nx : Nat) : F14_L1 call Y lf (n0 + 1) x3 x8a x8n x8c x9 x10 h nx =
    if (decide ((x10 : Int) < x9)) = true then
    ((x8a).bind fun p1 =>
    if 0 ≤ (x10 : Int) ∧ x10 < ((x8n : Nat) : Int) then
    ((ldR h p1.1 (p1.2 + Int.toNat x10 * 2) 2).bind fun l2 =>
    (asAgg 2 (AV.agg l2)).bind fun d3 =>
    (asI .i64 (d3.getD 0 .bad)).bind fun n4 =>
    (asI .i64 (d3.getD 1 .bad)).bind fun n5 =>
    let h6 := AHeap.put h (nx + 3) (some ⟨[(.int .i64 0), (.int .i64 0)], 2, true⟩)
    (stA h6 (nx + 3) 0 (.agg [(.int .i64 n4), (.int .i64 n5)]) 2).bind fun b7 =>
    let h8 := AHeap.put h6 (nx + 3) (some b7)
    (ldA h8 (nx + 3) 1).bind fun v9 =>
    (asI .i64 v9).bind fun n10 =>
    (ldA h8 (nx + 3) 0).bind fun v11 =>
    (asI .i64 v11).bind fun n12 =>
    F14_L1 call Y lf n0 (wrapA .i64 (x3 + (wrapA .i64 (n10 - n12)))) x8a x8n x8c x9 (wrapA .i64 (x10 + 1)) h8 (nx + 15))
    else none)
    else
    (some ((.int .i64 x3), h, (nx + 3))) := F14_L1_eq' go1 call Y lf n0 x3 x8a x8n x8c x9 x10 h nx

theorem F14_L1_zero (call : YldF → CallF) (Y : YldF) (lf : Nat) (x3 : Int) (x8a : Option (Nat × Nat)) (x8n : Nat) (x8c : Option Nat) (x9 : Int) (x10 : Int) (h : AHeap) (nx : Nat) : F14_L1 call Y lf 0 x3 x8a x8n x8c x9 x10 h nx = none := by kernel_rfl

theorem F14_eq' (J : StepF (AV × AHeap × Nat) → StepF (AV × AHeap × Nat)) (n : Nat) (Y : YldF) (x0a : Option (Nat × Nat)) (x0n : Nat) (x0c : Option Nat) (h : AHeap) (nx : Nat) : rootJ J Try.prog keepT (callP Try.prog keepT n) Y n 14 [(.slice x0a x0n x0c)] h nx =
    ((callP Try.prog keepT n) Y 15 [(.slice x0a x0n x0c)] h (nx + 4)).bind fun r1 =>
    (asB r1.1).bind fun t2 =>
    if t2 = true then
    (F14_L1' J J (callP Try.prog keepT n) Y n n 0 x0a x0n x0c ((x0n : Nat) : Int) 0 r1.2.1 (r1.2.2 + 3))
    else
    (some ((.int .i64 0), r1.2.1, (r1.2.2 + 2))) := by kernel_rfl

/-- quickset/span.Size -/
theorem F14_eq (n : Nat) (Y : YldF) (x0a : Option (Nat × Nat)) (x0n : Nat) (x0c : Option Nat) (h : AHeap) (nx : Nat) : callP Try.prog keepT (n + 1) Y 14 [(.slice x0a x0n x0c)] h nx =
    ((callP Try.prog keepT n) Y 15 [(.slice x0a x0n x0c)] h (nx + 4)).bind fun r1 =>
    (asB r1.1).bind fun t2 =>
    if t2 = true then
    (F14_L1 (callP Try.prog keepT n) Y n n 0 x0a x0n x0c ((x0n : Nat) : Int) 0 r1.2.1 (r1.2.2 + 3))
    else
    (some ((.int .i64 0), r1.2.1, (r1.2.2 + 2))) := F14_eq' go1 n Y x0a x0n x0c h nx

noncomputable def c15 : Code := (Try.f15.body).getD .skip

noncomputable def r15 : List ResultVar := Try.f15.results.toList

noncomputable def F15_L1' (W J : StepF (AV × AHeap × Nat) → StepF (AV × AHeap × Nat)) (call : YldF → CallF) (Y : YldF) (lf : Nat) (n0 : Nat) (x0a : Option (Nat × Nat)) (x0n : Nat) (x0c : Option Nat) (x5a : Option (Nat × Nat)) (x5n : Nat) (x5c : Option Nat) (x6 : Int) (x7 : Int) (h : AHeap) (nx : Nat) : Option (AV × AHeap × Nat) :=
  goK W J drawK (machOf Try.prog) call Y (keepT 15) lf c15 [1, 0, 1, 0, 9] [n0] (retK (machOf Try.prog) ⟨c15, 34, r15, keepT 15⟩) ⟨34, mkL [(0, (.slice x0a x0n x0c)), (5, (.slice x5a x5n x5c)), (6, (.int .i64 x6)), (7, (.int .i64 x7))]⟩ h nx

noncomputable def F15_L1 (call : YldF → CallF) (Y : YldF) (lf : Nat) (n0 : Nat) (x0a : Option (Nat × Nat)) (x0n : Nat) (x0c : Option Nat) (x5a : Option (Nat × Nat)) (x5n : Nat) (x5c : Option Nat) (x6 : Int) (x7 : Int) (h : AHeap) (nx : Nat) : Option (AV × AHeap × Nat) := F15_L1' go1 go1 call Y lf n0 x0a x0n x0c x5a x5n x5c x6 x7 h nx

theorem F15_L1_eq' (J : StepF (AV × AHeap × Nat) → StepF (AV × AHeap × Nat)) (call : YldF → CallF) (Y : YldF) (lf : Nat) (n0 : Nat) (x0a : Option (Nat × Nat)) (x0n : Nat) (x0c : Option Nat) (x5a : Option (Nat × Nat)) (x5n : Nat) (x5c : Option Nat) (x6 : Int) (x7 : Int) (h : AHeap) (nx : Nat) : F15_L1' go1 J call Y lf (n0 + 1) x0a x0n x0c x5a x5n x5c x6 x7 h nx =
    if (decide ((x7 : Int) < x6)) = true then
    ((x5a).bind fun p1 =>
    if 0 ≤ (x7 : Int) ∧ x7 < ((x5n : Nat) : Int) then
    ((ldR h p1.1 (p1.2 + Int.toNat x7 * 2) 2).bind fun l2 =>
    (asAgg 2 (AV.agg l2)).bind fun d3 =>
    (asI .i64 (d3.getD 0 .bad)).bind fun n4 =>
    (asI .i64 (d3.getD 1 .bad)).bind fun n5 =>
    let h6 := AHeap.put h (nx + 4) (some ⟨[(.int .i64 0), (.int .i64 0)], 2, true⟩)
    (stA h6 (nx + 4) 0 (.agg [(.int .i64 n4), (.int .i64 n5)]) 2).bind fun b7 =>
    let h8 := AHeap.put h6 (nx + 4) (some b7)
    (ldR h8 (nx + 4) 0 2).bind fun l9 =>
    (asAgg 2 (AV.agg l9)).bind fun d10 =>
    (asI .i64 (d10.getD 0 .bad)).bind fun n11 =>
    (asI .i64 (d10.getD 1 .bad)).bind fun n12 =>
    (call Y 18 [(.agg [(.int .i64 n11), (.int .i64 n12)])] h8 (nx + 25)).bind fun r13 =>
    (asB r13.1).bind fun t14 =>
    if (!t14) = true then
    (some ((.bool false), r13.2.1, (r13.2.2 + 1)))
    else
    (if (decide ((x7 : Int) > 0)) = true then
    ((x0a).bind fun p15 =>
    if 0 ≤ ((wrapA .i64 (x7 - 1)) : Int) ∧ (wrapA .i64 (x7 - 1)) < ((x0n : Nat) : Int) then
    ((ldA r13.2.1 p15.1 ((p15.2 + Int.toNat (wrapA .i64 (x7 - 1)) * 2) + 1)).bind fun v16 =>
    (asI .i64 v16).bind fun n17 =>
    (ldA r13.2.1 (nx + 4) 0).bind fun v18 =>
    (asI .i64 v18).bind fun n19 =>
    if (decide ((n17 : Int) ≥ n19)) = true then
    (some ((.bool false), r13.2.1, (r13.2.2 + 1)))
    else
    (F15_L1' J J call Y lf n0 x0a x0n x0c x5a x5n x5c x6 (wrapA .i64 (x7 + 1)) r13.2.1 (r13.2.2 + 2)))
    else none)
    else
    (F15_L1' J J call Y lf n0 x0a x0n x0c x5a x5n x5c x6 (wrapA .i64 (x7 + 1)) r13.2.1 (r13.2.2 + 2))))
    else none)
    else
    (some ((.bool (decide ((((x0n : Nat) : Int) : Int) ≤ 200))), h, (nx + 5))) := by kernel_rfl

theorem F15_L1_eq (call : YldF → CallF) (Y : YldF) (lf : Nat) (n0 : Nat) (x0a : Option (Nat × Nat)) (x0n : Nat) (x0c : Option Nat) (x5a : Option (Nat × Nat)) (x5n : Nat) (x5c : Option Nat) (x6 : Int) (x7 : Int) (h : AHeap) (nx : Nat) : F15_L1 call Y lf (n0 + 1) x0a x0n x0c x5a x5n x5c x6 x7 h nx =
    if (decide ((x7 : Int) < x6)) = true then
    ((x5a).bind fun p1 =>
    if 0 ≤ (x7 : Int) ∧ x7 < ((x5n : Nat) : Int) then
    ((ldR h p1.1 (p1.2 + Int.toNat x7 * 2) 2).bind fun l2 =>
    (asAgg 2 (AV.agg l2)).bind fun d3 =>
    (asI .i64 (d3.getD 0 .bad)).bind fun n4 =>
    (asI .i64 (d3.getD 1 .bad)).bind fun n5 =>
    let h6 := AHeap.put h (nx + 4) (some ⟨[(.int .i64 0), (.int .i64 0)], 2, true⟩)
    (stA h6 (nx + 4) 0 (.agg [(.int .i64 n4), (.int .i64 n5)]) 2).bind fun b7 =>
    let h8 := AHeap.put h6 (nx + 4) (some b7)
    (ldR h8 (nx + 4) 0 2).bind fun l9 =>
    (asAgg 2 (AV.agg l9)).bind fun d10 =>
    (asI .i64 (d10.getD 0 .bad)).bind fun n11 =>
    (asI .i64 (d10.getD 1 .bad)).bind fun n12 =>
    (call Y 18 [(.agg [(.int .i64 n11), (.int .i64 n12)])] h8 (nx + 25)).bind fun r13 =>
    (asB r13.1).bind fun t14 =>
    if (!t14) = true then
    (some ((.bool false), r13.2.1, (r13.2.2 + 1)))
    else
    (if (decide ((x7 : Int) > 0)) = true then
    ((x0a).bind fun p15 =>
    if 0 ≤ ((wrapA .i64 (x7 - 1)) : Int) ∧ (wrapA .i64 (x7 - 1)) < ((x0n : Nat) : Int) then
    ((ldA r13.2.1 p15.1 ((p15.2 + Int.toNat (wrapA .i64 (x7 - 1)) * 2) + 1)).bind fun v16 =>
    (asI .i64 v16).bind fun n17 =>
    (ldA r13.2.1 (nx + 4) 0).bind fun v18 =>
    (asI .i64 v18).bind fun n19 =>
    if (decide ((n17 : Int) ≥ n19)) = true then
    (some ((.bool false), r13.2.1, (r13.2.2 + 1)))
    else
    (F15_L1 call Y lf n0 x0a x0n x0c x5a x5n x5c x6 (wrapA .i64 (x7 + 1)) r13.2.1 (r13.2.2 + 2)))
    else none)
    else
    (F15_L1 call Y lf n0 x0a x0n x0c x5a x5n x5c x6 (wrapA .i64 (x7 + 1)) r13.2.1 (r13.2.2 + 2))))
    else none)
    else
    (some ((.bool (decide ((((x0n : Nat) : Int) : Int) ≤ 200))), h, (nx + 5))) := F15_L1_eq' go1 call Y lf n0 x0a x0n x0c x5a x5n x5c x6 x7 h nx

theorem F15_L1_zero (call : YldF → CallF) (Y : YldF) (lf : Nat) (x0a : Option (Nat × Nat)) (x0n : Nat) (x0c : Option Nat) (x5a : Option (Nat × Nat)) (x5n : Nat) (x5c : Option Nat) (x6 : Int) (x7 : Int) (h : AHeap) (nx : Nat) : F15_L1 call Y lf 0 x0a x0n x0c x5a x5n x5c x6 x7 h nx = none := by kernel_rfl

theorem F15_eq' (J : StepF (AV × AHeap × Nat) → StepF (AV × AHeap × Nat)) (n : Nat) (Y : YldF) (x0a : Option (Nat × Nat)) (x0n : Nat) (x0c : Option Nat) (h : AHeap) (nx : Nat) : rootJ J Try.prog keepT (callP Try.prog keepT n) Y n 15 [(.slice x0a x0n x0c)] h nx =
    F15_L1' J J (callP Try.prog keepT n) Y n n x0a x0n x0c x0a x0n x0c ((x0n : Nat) : Int) 0 h (nx + 4) := by kernel_rfl

/-- quickset/span.May -/
theorem F15_eq (n : Nat) (Y : YldF) (x0a : Option (Nat × Nat)) (x0n : Nat) (x0c : Option Nat) (h : AHeap) (nx : Nat) : callP Try.prog keepT (n + 1) Y 15 [(.slice x0a x0n x0c)] h nx =
    F15_L1 (callP Try.prog keepT n) Y n n x0a x0n x0c x0a x0n x0c ((x0n : Nat) : Int) 0 h (nx + 4) := F15_eq' go1 n Y x0a x0n x0c h nx

noncomputable def c16 : Code := (Try.f16.body).getD .skip

noncomputable def r16 : List ResultVar := Try.f16.results.toList

theorem F16_eq' (J : StepF (AV × AHeap × Nat) → StepF (AV × AHeap × Nat)) (n : Nat) (Y : YldF) (x0a : Option (Nat × Nat)) (x0n : Nat) (x0c : Option Nat) (x1 : Int) (h : AHeap) (nx : Nat) : rootJ J Try.prog keepT (callP Try.prog keepT n) Y n 16 [(.slice x0a x0n x0c), (.int .i64 x1)] h nx =
    let h1 := AHeap.put h nx (some ⟨[(.slice x0a x0n x0c)], 1, true⟩)
    let h2 := AHeap.put h1 (nx + 1) (some ⟨[(.int .i64 x1)], 1, true⟩)
    (ldA h2 nx 0).bind fun v3 =>
    (asSl v3).bind fun s4 =>
    ((callP Try.prog keepT n) Y 15 [(.slice s4.1 s4.2.1 s4.2.2)] h2 (nx + 6)).bind fun r5 =>
    (asB r5.1).bind fun t6 =>
    if (!t6) = true then
    (some ((.bool false), r5.2.1, (r5.2.2 + 1)))
    else
    ((ldA r5.2.1 nx 0).bind fun v7 =>
    (asSl v7).bind fun s8 =>
    ((callP Try.prog keepT n) Y 25 [(.int .i64 ((s8.2.1 : Nat) : Int)), (.fn 26 [] [(.ptr (some (nx, 0))), (.ptr (some ((nx + 1), 0)))])] r5.2.1 (r5.2.2 + 5)).bind fun r9 =>
    (asI .i64 r9.1).bind fun n10 =>
    (ldA r9.2.1 nx 0).bind fun v11 =>
    (asSl v11).bind fun s12 =>
    if (decide ((n10 : Int) < ((s12.2.1 : Nat) : Int))) = true then
    ((ldA r9.2.1 nx 0).bind fun v13 =>
    (asSl v13).bind fun s14 =>
    (s14.1).bind fun p15 =>
    if 0 ≤ (n10 : Int) ∧ n10 < ((s14.2.1 : Nat) : Int) then
    ((ldA r9.2.1 p15.1 (p15.2 + Int.toNat n10 * 2)).bind fun v16 =>
    (asI .i64 v16).bind fun n17 =>
    (ldA r9.2.1 (nx + 1) 0).bind fun v18 =>
    (asI .i64 v18).bind fun n19 =>
    some ((.bool (decide ((n17 : Int) ≤ n19))), r9.2.1, (r9.2.2 + 14)))
    else none)
    else
    (some ((.bool false), r9.2.1, (r9.2.2 + 14)))) := by kernel_rfl

/-- quickset/span.Has -/
theorem F16_eq (n : Nat) (Y : YldF) (x0a : Option (Nat × Nat)) (x0n : Nat) (x0c : Option Nat) (x1 : Int) (h : AHeap) (nx : Nat) : callP Try.prog keepT (n + 1) Y 16 [(.slice x0a x0n x0c), (.int .i64 x1)] h nx =
    let h1 := AHeap.put h nx (some ⟨[(.slice x0a x0n x0c)], 1, true⟩)
    let h2 := AHeap.put h1 (nx + 1) (some ⟨[(.int .i64 x1)], 1, true⟩)
    (ldA h2 nx 0).bind fun v3 =>
    (asSl v3).bind fun s4 =>
    ((callP Try.prog keepT n) Y 15 [(.slice s4.1 s4.2.1 s4.2.2)] h2 (nx + 6)).bind fun r5 =>
    (asB r5.1).bind fun t6 =>
    if (!t6) = true then
    (some ((.bool false), r5.2.1, (r5.2.2 + 1)))
    else
    ((ldA r5.2.1 nx 0).bind fun v7 =>
    (asSl v7).bind fun s8 =>
    ((callP Try.prog keepT n) Y 25 [(.int .i64 ((s8.2.1 : Nat) : Int)), (.fn 26 [] [(.ptr (some (nx, 0))), (.ptr (some ((nx + 1), 0)))])] r5.2.1 (r5.2.2 + 5)).bind fun r9 =>
    (asI .i64 r9.1).bind fun n10 =>
    (ldA r9.2.1 nx 0).bind fun v11 =>
    (asSl v11).bind fun s12 =>
    if (decide ((n10 : Int) < ((s12.2.1 : Nat) : Int))) = true then
    ((ldA r9.2.1 nx 0).bind fun v13 =>
    (asSl v13).bind fun s14 =>
    (s14.1).bind fun p15 =>
    if 0 ≤ (n10 : Int) ∧ n10 < ((s14.2.1 : Nat) : Int) then
    ((ldA r9.2.1 p15.1 (p15.2 + Int.toNat n10 * 2)).bind fun v16 =>
    (asI .i64 v16).bind fun n17 =>
    (ldA r9.2.1 (nx + 1) 0).bind fun v18 =>
    (asI .i64 v18).bind fun n19 =>
    some ((.bool (decide ((n17 : Int) ≤ n19))), r9.2.1, (r9.2.2 + 14)))
    else none)
    else
    (some ((.bool false), r9.2.1, (r9.2.2 + 14)))) := F16_eq' go1 n Y x0a x0n x0c x1 h nx

noncomputable def c17 : Code := (Try.f17.body).getD .skip

noncomputable def r17 : List ResultVar := Try.f17.results.toList

noncomputable def F17_L1' (W J : StepF (AV × AHeap × Nat) → StepF (AV × AHeap × Nat)) (call : YldF → CallF) (Y : YldF) (lf : Nat) (n0 : Nat) (x1 : Int) (x13a : Option (Nat × Nat)) (x13n : Nat) (x13c : Option Nat) (x14 : Int) (x15 : Int) (h : AHeap) (nx : Nat) : Option (AV × AHeap × Nat) :=
  goK W J drawK (machOf Try.prog) call Y (keepT 17) lf c17 [1, 1, 1, 0, 1, 0, 9] [n0] (retK (machOf Try.prog) ⟨c17, 29, r17, keepT 17⟩) ⟨29, mkL [(1, (.int .i64 x1)), (13, (.slice x13a x13n x13c)), (14, (.int .i64 x14)), (15, (.int .i64 x15))]⟩ h nx

noncomputable def F17_L1 (call : YldF → CallF) (Y : YldF) (lf : Nat) (n0 : Nat) (x1 : Int) (x13a : Option (Nat × Nat)) (x13n : Nat) (x13c : Option Nat) (x14 : Int) (x15 : Int) (h : AHeap) (nx : Nat) : Option (AV × AHeap × Nat) := F17_L1' go1 go1 call Y lf n0 x1 x13a x13n x13c x14 x15 h nx

theorem F17_L1_eq' (J : StepF (AV × AHeap × Nat) → StepF (AV × AHeap × Nat)) (call : YldF → CallF) (Y : YldF) (lf : Nat) (n0 : Nat) (x1 : Int) (x13a : Option (Nat × Nat)) (x13n : Nat) (x13c : Option Nat) (x14 : Int) (x15 : Int) (h : AHeap) (nx : Nat) : F17_L1' go1 J call Y lf (n0 + 1) x1 x13a x13n x13c x14 x15 h nx =
    if (decide ((x15 : Int) < x14)) = true then
    ((x13a).bind fun p1 =>
    if 0 ≤ (x15 : Int) ∧ x15 < ((x13n : Nat) : Int) then
    ((ldR h p1.1 (p1.2 + Int.toNat x15 * 2) 2).bind fun l2 =>
    (asAgg 2 (AV.agg l2)).bind fun d3 =>
    (asI .i64 (d3.getD 0 .bad)).bind fun n4 =>
    (asI .i64 (d3.getD 1 .bad)).bind fun n5 =>
    let h6 := AHeap.put h (nx + 3) (some ⟨[(.int .i64 0), (.int .i64 0)], 2, true⟩)
    (stA h6 (nx + 3) 0 (.agg [(.int .i64 n4), (.int .i64 n5)]) 2).bind fun b7 =>
    let h8 := AHeap.put h6 (nx + 3) (some b7)
    (ldA h8 (nx + 3) 1).bind fun v9 =>
    (asI .i64 v9).bind fun n10 =>
    (ldA h8 (nx + 3) 0).bind fun v11 =>
    (asI .i64 v11).bind fun n12 =>
    if (decide (((wrapA .i64 (n10 - n12)) : Int) ≥ x1)) = true then
    ((ldA h8 (nx + 3) 0).bind fun v13 =>
    (asI .i64 v13).bind fun n14 =>
    some ((.tuple [(.int .i64 n14), (.int .i64 0)]), h8, (nx + 16)))
    else
    (F17_L1' J J call Y lf n0 x1 x13a x13n x13c x14 (wrapA .i64 (x15 + 1)) h8 (nx + 14)))
    else none)
    else
    (some ((.tuple [(.int .i64 0), (.int .i64 6)]), h, (nx + 3))) := by kernel_rfl

theorem F17_L1_eq (call : YldF → CallF) (Y : YldF) (lf : Nat) (n0 : Nat) (x1 : Int) (x13a : Option (Nat × Nat)) (x13n : Nat) (x13c : Option Nat) (x14 : Int) (x15 : Int) (h : AHeap) (nx : Nat) : F17_L1 call Y lf (n0 + 1) x1 x13a x13n x13c x14 x15 h nx =
    if (decide ((x15 : Int) < x14)) = true then
    ((x13a).bind fun p1 =>
    if 0 ≤ (x15 : Int) ∧ x15 < ((x13n : Nat) : Int) then
    ((ldR h p1.1 (p1.2 + Int.toNat x15 * 2) 2).bind fun l2 =>
    (asAgg 2 (AV.agg l2)).bind fun d3 =>
    (asI .i64 (d3.getD 0 .bad)).bind fun n4 =>
    (asI .i64 (d3.getD 1 .bad)).bind fun n5 =>
    let h6 := AHeap.put h (nx + 3) (some ⟨[(.int .i64 0), (.int .i64 0)], 2, true⟩)
    (stA h6 (nx + 3) 0 (.agg [(.int .i64 n4), (.int .i64 n5)]) 2).bind fun b7 =>
    let h8 := AHeap.put h6 (nx + 3) (some b7)
    (ldA h8 (nx + 3) 1).bind fun v9 =>
    (asI .i64 v9).bind fun n10 =>
    (ldA h8 (nx + 3) 0).bind fun v11 =>
    (asI .i64 v11).bind fun n12 =>
    if (decide (((wrapA .i64 (n10 - n12)) : Int) ≥ x1)) = true then
    ((ldA h8 (nx + 3) 0).bind fun v13 =>
    (asI .i64 v13).bind fun n14 =>
    some ((.tuple [(.int .i64 n14), (.int .i64 0)]), h8, (nx + 16)))
    else
    (F17_L1 call Y lf n0 x1 x13a x13n x13c x14 (wrapA .i64 (x15 + 1)) h8 (nx + 14)))
    else none)
    else
    (some ((.tuple [(.int .i64 0), (.int .i64 6)]), h, (nx + 3))) := F17_L1_eq' go1 call Y lf n0 x1 x13a x13n x13c x14 x15 h nx

theorem F17_L1_zero (call : YldF → CallF) (Y : YldF) (lf : Nat) (x1 : Int) (x13a : Option (Nat × Nat)) (x13n : Nat) (x13c : Option Nat) (x14 : Int) (x15 : Int) (h : AHeap) (nx : Nat) : F17_L1 call Y lf 0 x1 x13a x13n x13c x14 x15 h nx = none := by kernel_rfl

theorem F17_eq' (J : StepF (AV × AHeap × Nat) → StepF (AV × AHeap × Nat)) (n : Nat) (Y : YldF) (x0a : Option (Nat × Nat)) (x0n : Nat) (x0c : Option Nat) (x1 : Int) (h : AHeap) (nx : Nat) : rootJ J Try.prog keepT (callP Try.prog keepT n) Y n 17 [(.slice x0a x0n x0c), (.int .i64 x1)] h nx =
    ((callP Try.prog keepT n) Y 15 [(.slice x0a x0n x0c)] h (nx + 5)).bind fun r1 =>
    (asB r1.1).bind fun t2 =>
    if (!t2) = true then
    (some ((.tuple [(.int .i64 0), (.int .i64 4)]), r1.2.1, (r1.2.2 + 2)))
    else
    (if (decide ((x1 : Int) < 1)) = true then
    (some ((.tuple [(.int .i64 0), (.int .i64 2)]), r1.2.1, (r1.2.2 + 4)))
    else
    (F17_L1' J J (callP Try.prog keepT n) Y n n x1 x0a x0n x0c ((x0n : Nat) : Int) 0 r1.2.1 (r1.2.2 + 5))) := by kernel_rfl

/-- quickset/span.First -/
theorem F17_eq (n : Nat) (Y : YldF) (x0a : Option (Nat × Nat)) (x0n : Nat) (x0c : Option Nat) (x1 : Int) (h : AHeap) (nx : Nat) : callP Try.prog keepT (n + 1) Y 17 [(.slice x0a x0n x0c), (.int .i64 x1)] h nx =
    ((callP Try.prog keepT n) Y 15 [(.slice x0a x0n x0c)] h (nx + 5)).bind fun r1 =>
    (asB r1.1).bind fun t2 =>
    if (!t2) = true then
    (some ((.tuple [(.int .i64 0), (.int .i64 4)]), r1.2.1, (r1.2.2 + 2)))
    else
    (if (decide ((x1 : Int) < 1)) = true then
    (some ((.tuple [(.int .i64 0), (.int .i64 2)]), r1.2.1, (r1.2.2 + 4)))
    else
    (F17_L1 (callP Try.prog keepT n) Y n n x1 x0a x0n x0c ((x0n : Nat) : Int) 0 r1.2.1 (r1.2.2 + 5))) := F17_eq' go1 n Y x0a x0n x0c x1 h nx

noncomputable def c18 : Code := (Try.f18.body).getD .skip

noncomputable def r18 : List ResultVar := Try.f18.results.toList

theorem F18_eq' (J : StepF (AV × AHeap × Nat) → StepF (AV × AHeap × Nat)) (n : Nat) (Y : YldF) (x0_0 : Int) (x0_1 : Int) (h : AHeap) (nx : Nat) : rootJ J Try.prog keepT (callP Try.prog keepT n) Y n 18 [(.agg [(.int .i64 x0_0), (.int .i64 x0_1)])] h nx =
    let h1 := AHeap.put h nx (some ⟨[(.int .i64 x0_0), (.int .i64 x0_1)], 2, true⟩)
    (ldA h1 nx 0).bind fun v2 =>
    (asI .i64 v2).bind fun n3 =>
    if (decide ((n3 : Int) ≥ 0)) = true then
    ((ldA h1 nx 0).bind fun v4 =>
    (asI .i64 v4).bind fun n5 =>
    (ldA h1 nx 1).bind fun v6 =>
    (asI .i64 v6).bind fun n7 =>
    if (decide ((n5 : Int) < n7)) = true then
    ((ldA h1 nx 1).bind fun v8 =>
    (asI .i64 v8).bind fun n9 =>
    some ((.bool (decide ((n9 : Int) ≤ 1048576))), h1, (nx + 18)))
    else
    (some ((.bool false), h1, (nx + 18))))
    else
    (some ((.bool false), h1, (nx + 18))) := by kernel_rfl

/-- quickset/span.one -/
theorem F18_eq (n : Nat) (Y : YldF) (x0_0 : Int) (x0_1 : Int) (h : AHeap) (nx : Nat) : callP Try.prog keepT (n + 1) Y 18 [(.agg [(.int .i64 x0_0), (.int .i64 x0_1)])] h nx =
    let h1 := AHeap.put h nx (some ⟨[(.int .i64 x0_0), (.int .i64 x0_1)], 2, true⟩)
    (ldA h1 nx 0).bind fun v2 =>
    (asI .i64 v2).bind fun n3 =>
    if (decide ((n3 : Int) ≥ 0)) = true then
    ((ldA h1 nx 0).bind fun v4 =>
    (asI .i64 v4).bind fun n5 =>
    (ldA h1 nx 1).bind fun v6 =>
    (asI .i64 v6).bind fun n7 =>
    if (decide ((n5 : Int) < n7)) = true then
    ((ldA h1 nx 1).bind fun v8 =>
    (asI .i64 v8).bind fun n9 =>
    some ((.bool (decide ((n9 : Int) ≤ 1048576))), h1, (nx + 18)))
    else
    (some ((.bool false), h1, (nx + 18))))
    else
    (some ((.bool false), h1, (nx + 18))) := F18_eq' go1 n Y x0_0 x0_1 h nx

noncomputable def c19 : Code := (Try.f19.body).getD .skip

noncomputable def r19 : List ResultVar := Try.f19.results.toList

theorem F19_eq' (J : StepF (AV × AHeap × Nat) → StepF (AV × AHeap × Nat)) (n : Nat) (Y : YldF) (x0a : Option (Nat × Nat)) (x0n : Nat) (x0c : Option Nat) (h : AHeap) (nx : Nat) : rootJ J Try.prog keepT (callP Try.prog keepT n) Y n 19 [(.slice x0a x0n x0c)] h nx =
    if (decide ((((x0n : Nat) : Int) : Int) > 200)) = true then
    (some ((.tuple [(.slice none 0 none), (.int .i64 8)]), h, (nx + 7)))
    else
    (some ((.tuple [(.slice x0a x0n x0c), (.int .i64 0)]), h, (nx + 8))) := by kernel_rfl

/-- quickset/span.told -/
theorem F19_eq (n : Nat) (Y : YldF) (x0a : Option (Nat × Nat)) (x0n : Nat) (x0c : Option Nat) (h : AHeap) (nx : Nat) : callP Try.prog keepT (n + 1) Y 19 [(.slice x0a x0n x0c)] h nx =
    if (decide ((((x0n : Nat) : Int) : Int) > 200)) = true then
    (some ((.tuple [(.slice none 0 none), (.int .i64 8)]), h, (nx + 7)))
    else
    (some ((.tuple [(.slice x0a x0n x0c), (.int .i64 0)]), h, (nx + 8))) := F19_eq' go1 n Y x0a x0n x0c h nx

noncomputable def c20 : Code := (Try.f20.body).getD .skip

noncomputable def r20 : List ResultVar := Try.f20.results.toList

noncomputable def F20_L1' (W J : StepF (AV × AHeap × Nat) → StepF (AV × AHeap × Nat)) (call : YldF → CallF) (Y : YldF) (lf : Nat) (n0 : Nat) (x1 : AV) (x2 : Option (Nat × Nat)) (x5a : Option (Nat × Nat)) (x5n : Nat) (x5c : Option Nat) (x6 : Int) (x7 : Int) (x8 : Int) (h : AHeap) (nx : Nat) : Option (AV × AHeap × Nat) :=
  goK W J drawK (machOf Try.prog) call Y (keepT 20) lf c20 [1, 1, 1, 1, 0, 1, 0, 9] [n0] (retK (machOf Try.prog) ⟨c20, 70, r20, keepT 20⟩) ⟨70, mkL [(1, x1), (2, (.ptr x2)), (5, (.slice x5a x5n x5c)), (6, (.int .i64 x6)), (7, (.int .i64 x7)), (8, (.int .i64 x8))]⟩ h nx

noncomputable def F20_L1 (call : YldF → CallF) (Y : YldF) (lf : Nat) (n0 : Nat) (x1 : AV) (x2 : Option (Nat × Nat)) (x5a : Option (Nat × Nat)) (x5n : Nat) (x5c : Option Nat) (x6 : Int) (x7 : Int) (x8 : Int) (h : AHeap) (nx : Nat) : Option (AV × AHeap × Nat) := F20_L1' go1 go1 call Y lf n0 x1 x2 x5a x5n x5c x6 x7 x8 h nx

noncomputable def F20_L2' (W J : StepF (AV × AHeap × Nat) → StepF (AV × AHeap × Nat)) (call : YldF → CallF) (Y : YldF) (lf : Nat) (n0 : Nat) (n1 : Nat) (x1 : AV) (x2 : Option (Nat × Nat)) (x5a : Option (Nat × Nat)) (x5n : Nat) (x5c : Option Nat) (x6 : Int) (x7 : Int) (x8 : Int) (x9 : Int) (h : AHeap) (nx : Nat) : Option (AV × AHeap × Nat) :=
  goK W J drawK (machOf Try.prog) call Y (keepT 20) lf c20 [1, 1, 1, 1, 0, 1, 0, 0, 1, 0, 1, 0, 0, 9] [n0, n1] (retK (machOf Try.prog) ⟨c20, 70, r20, keepT 20⟩) ⟨70, mkL [(1, x1), (2, (.ptr x2)), (5, (.slice x5a x5n x5c)), (6, (.int .i64 x6)), (7, (.int .i64 x7)), (8, (.int .i64 x8)), (9, (.int .i64 x9))]⟩ h nx

noncomputable def F20_L2 (call : YldF → CallF) (Y : YldF) (lf : Nat) (n0 : Nat) (n1 : Nat) (x1 : AV) (x2 : Option (Nat × Nat)) (x5a : Option (Nat × Nat)) (x5n : Nat) (x5c : Option Nat) (x6 : Int) (x7 : Int) (x8 : Int) (x9 : Int) (h : AHeap) (nx : Nat) : Option (AV × AHeap × Nat) := F20_L2' go1 go1 call Y lf n0 n1 x1 x2 x5a x5n x5c x6 x7 x8 x9 h nx

noncomputable def F20_J3' (W J : StepF (AV × AHeap × Nat) → StepF (AV × AHeap × Nat)) (call : YldF → CallF) (Y : YldF) (lf : Nat) (n0 : Nat) (n1 : Nat) (x1 : AV) (x2 : Option (Nat × Nat)) (x5a : Option (Nat × Nat)) (x5n : Nat) (x5c : Option Nat) (x6 : Int) (x7 : Int) (x8 : Int) (x9 : Int) (h : AHeap) (nx : Nat) : Option (AV × AHeap × Nat) :=
  goK W J drawK (machOf Try.prog) call Y (keepT 20) lf c20 [1, 1, 1, 1, 0, 1, 0, 0, 1, 0, 1, 0, 0, 0, 1] [n0, n1] (retK (machOf Try.prog) ⟨c20, 70, r20, keepT 20⟩) ⟨70, mkL [(1, x1), (2, (.ptr x2)), (5, (.slice x5a x5n x5c)), (6, (.int .i64 x6)), (7, (.int .i64 x7)), (8, (.int .i64 x8)), (9, (.int .i64 x9))]⟩ h nx

noncomputable def F20_J3 (call : YldF → CallF) (Y : YldF) (lf : Nat) (n0 : Nat) (n1 : Nat) (x1 : AV) (x2 : Option (Nat × Nat)) (x5a : Option (Nat × Nat)) (x5n : Nat) (x5c : Option Nat) (x6 : Int) (x7 : Int) (x8 : Int) (x9 : Int) (h : AHeap) (nx : Nat) : Option (AV × AHeap × Nat) := F20_J3' go1 go1 call Y lf n0 n1 x1 x2 x5a x5n x5c x6 x7 x8 x9 h nx

noncomputable def F20_J4' (W J : StepF (AV × AHeap × Nat) → StepF (AV × AHeap × Nat)) (call : YldF → CallF) (Y : YldF) (lf : Nat) (n0 : Nat) (x1 : AV) (x2 : Option (Nat × Nat)) (x5a : Option (Nat × Nat)) (x5n : Nat) (x5c : Option Nat) (x6 : Int) (x7 : Int) (x8 : Int) (x9 : Int) (h : AHeap) (nx : Nat) : Option (AV × AHeap × Nat) :=
  goK W J drawK (machOf Try.prog) call Y (keepT 20) lf c20 [1, 1, 1, 1, 0, 1, 0, 0, 1, 0, 1, 1] [n0] (retK (machOf Try.prog) ⟨c20, 70, r20, keepT 20⟩) ⟨70, mkL [(1, x1), (2, (.ptr x2)), (5, (.slice x5a x5n x5c)), (6, (.int .i64 x6)), (7, (.int .i64 x7)), (8, (.int .i64 x8)), (9, (.int .i64 x9))]⟩ h nx

noncomputable def F20_J4 (call : YldF → CallF) (Y : YldF) (lf : Nat) (n0 : Nat) (x1 : AV) (x2 : Option (Nat × Nat)) (x5a : Option (Nat × Nat)) (x5n : Nat) (x5c : Option Nat) (x6 : Int) (x7 : Int) (x8 : Int) (x9 : Int) (h : AHeap) (nx : Nat) : Option (AV × AHeap × Nat) := F20_J4' go1 go1 call Y lf n0 x1 x2 x5a x5n x5c x6 x7 x8 x9 h nx

theorem F20_L1_eq' (J : StepF (AV × AHeap × Nat) → StepF (AV × AHeap × Nat)) (call : YldF → CallF) (Y : YldF) (lf : Nat) (n0 : Nat) (x1 : AV) (x2 : Option (Nat × Nat)) (x5a : Option (Nat × Nat)) (x5n : Nat) (x5c : Option Nat) (x6 : Int) (x7 : Int) (x8 : Int) (h : AHeap) (nx : Nat) : F20_L1' go1 J call Y lf (n0 + 1) x1 x2 x5a x5n x5c x6 x7 x8 h nx =
    (x2).bind fun p1 =>
    (ldA h p1.1 p1.2).bind fun v2 =>
    (asSl v2).bind fun s3 =>
    if (decide ((x8 : Int) < ((s3.2.1 : Nat) : Int))) = true then
    ((x2).bind fun p4 =>
    (ldA h p4.1 p4.2).bind fun v5 =>
    (asSl v5).bind fun s6 =>
    (s6.1).bind fun p7 =>
    if 0 ≤ (x8 : Int) ∧ x8 < ((s6.2.1 : Nat) : Int) then
    ((ldA h p7.1 (p7.2 + Int.toNat x8 * 2)).bind fun v8 =>
    (asI .i64 v8).bind fun n9 =>
    F20_L2' J J call Y lf n0 lf (x1) x2 x5a x5n x5c x6 x7 x8 n9 h (nx + 10))
    else none)
    else
    (some ((.slice x5a x5n x5c), h, (nx + 6))) := by kernel_rfl

theorem F20_L1_eq (call : YldF → CallF) (Y : YldF) (lf : Nat) (n0 : Nat) (x1 : AV) (x2 : Option (Nat × Nat)) (x5a : Option (Nat × Nat)) (x5n : Nat) (x5c : Option Nat) (x6 : Int) (x7 : Int) (x8 : Int) (h : AHeap) (nx : Nat) : F20_L1 call Y lf (n0 + 1) x1 x2 x5a x5n x5c x6 x7 x8 h nx =
    (x2).bind fun p1 =>
    (ldA h p1.1 p1.2).bind fun v2 =>
    (asSl v2).bind fun s3 =>
    if (decide ((x8 : Int) < ((s3.2.1 : Nat) : Int))) = true then
    ((x2).bind fun p4 =>
    (ldA h p4.1 p4.2).bind fun v5 =>
    (asSl v5).bind fun s6 =>
    (s6.1).bind fun p7 =>
    if 0 ≤ (x8 : Int) ∧ x8 < ((s6.2.1 : Nat) : Int) then
    ((ldA h p7.1 (p7.2 + Int.toNat x8 * 2)).bind fun v8 =>
    (asI .i64 v8).bind fun n9 =>
    F20_L2 call Y lf n0 lf (x1) x2 x5a x5n x5c x6 x7 x8 n9 h (nx + 10))
    else none)
    else
    (some ((.slice x5a x5n x5c), h, (nx + 6))) := F20_L1_eq' go1 call Y lf n0 x1 x2 x5a x5n x5c x6 x7 x8 h nx

theorem F20_L1_zero (call : YldF → CallF) (Y : YldF) (lf : Nat) (x1 : AV) (x2 : Option (Nat × Nat)) (x5a : Option (Nat × Nat)) (x5n : Nat) (x5c : Option Nat) (x6 : Int) (x7 : Int) (x8 : Int) (h : AHeap) (nx : Nat) : F20_L1 call Y lf 0 x1 x2 x5a x5n x5c x6 x7 x8 h nx = none := by kernel_rfl

theorem F20_L2_eq' (J : StepF (AV × AHeap × Nat) → StepF (AV × AHeap × Nat)) (call : YldF → CallF) (Y : YldF) (lf : Nat) (n0 : Nat) (n1 : Nat) (x1 : AV) (x2 : Option (Nat × Nat)) (x5a : Option (Nat × Nat)) (x5n : Nat) (x5c : Option Nat) (x6 : Int) (x7 : Int) (x8 : Int) (x9 : Int) (h : AHeap) (nx : Nat) : F20_L2' go1 J call Y lf n0 (n1 + 1) x1 x2 x5a x5n x5c x6 x7 x8 x9 h nx =
    (x2).bind fun p1 =>
    (ldA h p1.1 p1.2).bind fun v2 =>
    (asSl v2).bind fun s3 =>
    if (decide ((x8 : Int) < ((s3.2.1 : Nat) : Int))) = true then
    ((x2).bind fun p4 =>
    (ldA h p4.1 p4.2).bind fun v5 =>
    (asSl v5).bind fun s6 =>
    (s6.1).bind fun p7 =>
    if 0 ≤ (x8 : Int) ∧ x8 < ((s6.2.1 : Nat) : Int) then
    ((ldA h p7.1 (p7.2 + Int.toNat x8 * 2)).bind fun v8 =>
    (asI .i64 v8).bind fun n9 =>
    if ((n9 : Int) == x9) = true then
    (F20_J3' J J call Y lf n0 n1 (x1) x2 x5a x5n x5c x6 x7 x8 x9 h (nx + 13))
    else
    (F20_J4' J J call Y lf n0 (x1) x2 x5a x5n x5c x6 x7 x8 x9 h (nx + 13)))
    else none)
    else
    (F20_J4' J J call Y lf n0 (x1) x2 x5a x5n x5c x6 x7 x8 x9 h (nx + 13)) := by kernel_rfl

theorem F20_L2_eq (call : YldF → CallF) (Y : YldF) (lf : Nat) (n0 : Nat) (n1 : Nat) (x1 : AV) (x2 : Option (Nat × Nat)) (x5a : Option (Nat × Nat)) (x5n : Nat) (x5c : Option Nat) (x6 : Int) (x7 : Int) (x8 : Int) (x9 : Int) (h : AHeap) (nx : Nat) : F20_L2 call Y lf n0 (n1 + 1) x1 x2 x5a x5n x5c x6 x7 x8 x9 h nx =
    (x2).bind fun p1 =>
    (ldA h p1.1 p1.2).bind fun v2 =>
    (asSl v2).bind fun s3 =>
    if (decide ((x8 : Int) < ((s3.2.1 : Nat) : Int))) = true then
    ((x2).bind fun p4 =>
    (ldA h p4.1 p4.2).bind fun v5 =>
    (asSl v5).bind fun s6 =>
    (s6.1).bind fun p7 =>
    if 0 ≤ (x8 : Int) ∧ x8 < ((s6.2.1 : Nat) : Int) then
    ((ldA h p7.1 (p7.2 + Int.toNat x8 * 2)).bind fun v8 =>
    (asI .i64 v8).bind fun n9 =>
    if ((n9 : Int) == x9) = true then
    (F20_J3 call Y lf n0 n1 (x1) x2 x5a x5n x5c x6 x7 x8 x9 h (nx + 13))
    else
    (F20_J4 call Y lf n0 (x1) x2 x5a x5n x5c x6 x7 x8 x9 h (nx + 13)))
    else none)
    else
    (F20_J4 call Y lf n0 (x1) x2 x5a x5n x5c x6 x7 x8 x9 h (nx + 13)) := F20_L2_eq' go1 call Y lf n0 n1 x1 x2 x5a x5n x5c x6 x7 x8 x9 h nx

theorem F20_L2_zero (call : YldF → CallF) (Y : YldF) (lf : Nat) (n0 : Nat) (x1 : AV) (x2 : Option (Nat × Nat)) (x5a : Option (Nat × Nat)) (x5n : Nat) (x5c : Option Nat) (x6 : Int) (x7 : Int) (x8 : Int) (x9 : Int) (h : AHeap) (nx : Nat) : F20_L2 call Y lf n0 0 x1 x2 x5a x5n x5c x6 x7 x8 x9 h nx = none := by kernel_rfl

theorem F20_J3_eq' (J : StepF (AV × AHeap × Nat) → StepF (AV × AHeap × Nat)) (call : YldF → CallF) (Y : YldF) (lf : Nat) (n0 : Nat) (n1 : Nat) (x1 : AV) (x2 : Option (Nat × Nat)) (x5a : Option (Nat × Nat)) (x5n : Nat) (x5c : Option Nat) (x6 : Int) (x7 : Int) (x8 : Int) (x9 : Int) (h : AHeap) (nx : Nat) : F20_J3' go1 J call Y lf n0 n1 x1 x2 x5a x5n x5c x6 x7 x8 x9 h nx =
    (x2).bind fun p1 =>
    (ldA h p1.1 p1.2).bind fun v2 =>
    (asSl v2).bind fun s3 =>
    (s3.1).bind fun p4 =>
    if 0 ≤ (x8 : Int) ∧ x8 < ((s3.2.1 : Nat) : Int) then
    ((ldA h p4.1 ((p4.2 + Int.toNat x8 * 2) + 1)).bind fun v5 =>
    (asI .i64 v5).bind fun n6 =>
    F20_L2' J J call Y lf n0 n1 (x1) x2 x5a x5n x5c (wrapA .i64 (x6 + n6)) x7 (wrapA .i64 (x8 + 1)) x9 h (nx + 11))
    else none := by kernel_rfl

theorem F20_J3_eq (call : YldF → CallF) (Y : YldF) (lf : Nat) (n0 : Nat) (n1 : Nat) (x1 : AV) (x2 : Option (Nat × Nat)) (x5a : Option (Nat × Nat)) (x5n : Nat) (x5c : Option Nat) (x6 : Int) (x7 : Int) (x8 : Int) (x9 : Int) (h : AHeap) (nx : Nat) : F20_J3 call Y lf n0 n1 x1 x2 x5a x5n x5c x6 x7 x8 x9 h nx =
    (x2).bind fun p1 =>
    (ldA h p1.1 p1.2).bind fun v2 =>
    (asSl v2).bind fun s3 =>
    (s3.1).bind fun p4 =>
    if 0 ≤ (x8 : Int) ∧ x8 < ((s3.2.1 : Nat) : Int) then
    ((ldA h p4.1 ((p4.2 + Int.toNat x8 * 2) + 1)).bind fun v5 =>
    (asI .i64 v5).bind fun n6 =>
    F20_L2 call Y lf n0 n1 (x1) x2 x5a x5n x5c (wrapA .i64 (x6 + n6)) x7 (wrapA .i64 (x8 + 1)) x9 h (nx + 11))
    else none := F20_J3_eq' go1 call Y lf n0 n1 x1 x2 x5a x5n x5c x6 x7 x8 x9 h nx

theorem F20_J4_eq' (J : StepF (AV × AHeap × Nat) → StepF (AV × AHeap × Nat)) (call : YldF → CallF) (Y : YldF) (lf : Nat) (n0 : Nat) (x1 : AV) (x2 : Option (Nat × Nat)) (x5a : Option (Nat × Nat)) (x5n : Nat) (x5c : Option Nat) (x6 : Int) (x7 : Int) (x8 : Int) (x9 : Int) (h : AHeap) (nx : Nat) : F20_J4' go1 J call Y lf n0 x1 x2 x5a x5n x5c x6 x7 x8 x9 h nx =
    (asCal x1).bind fun q2 =>
    (callC (call Y) Y q2.1 (q2.2.1 ++ [(.int .i64 x6)] ++ q2.2.2) h (nx + 8)).bind fun r1 =>
    (asB r1.1).bind fun t3 =>
    if t3 = true then
    (if (decide ((x7 : Int) < 0)) = true then
    (F20_L1' J J call Y lf n0 (x1) x2 x5a x5n x5c x6 x9 x8 r1.2.1 (r1.2.2 + 2))
    else
    ((asCal x1).bind fun q5 =>
    (callC (call Y) Y q5.1 (q5.2.1 ++ [(.int .i64 x6)] ++ q5.2.2) r1.2.1 (r1.2.2 + 9)).bind fun r4 =>
    (asB r4.1).bind fun t6 =>
    if (!t6) = true then
    (if (decide ((x7 : Int) ≥ 0)) = true then
    (let h7 := AHeap.put r4.2.1 (r4.2.2 + 4) (some ⟨[(.int .i64 x7), (.int .i64 x9)], 2, true⟩)
    (srcS h7 (some ((r4.2.2 + 4), 0)) 1 2).bind fun q8 =>
    (appD h7 x5a x5n x5c 2 16 (r4.2.2 + 5) q8).bind fun e9 =>
    let h10 := AHeap.puts h7 e9.sets
    F20_L1' J J call Y lf n0 (x1) x2 e9.a e9.n e9.c x6 (-1) x8 h10 (r4.2.2 + 8))
    else
    (F20_L1' J J call Y lf n0 (x1) x2 x5a x5n x5c x6 x7 x8 r4.2.1 r4.2.2))
    else
    (F20_L1' J J call Y lf n0 (x1) x2 x5a x5n x5c x6 x7 x8 r4.2.1 r4.2.2)))
    else
    ((asCal x1).bind fun q12 =>
    (callC (call Y) Y q12.1 (q12.2.1 ++ [(.int .i64 x6)] ++ q12.2.2) r1.2.1 (r1.2.2 + 9)).bind fun r11 =>
    (asB r11.1).bind fun t13 =>
    if (!t13) = true then
    (if (decide ((x7 : Int) ≥ 0)) = true then
    (let h14 := AHeap.put r11.2.1 (r11.2.2 + 4) (some ⟨[(.int .i64 x7), (.int .i64 x9)], 2, true⟩)
    (srcS h14 (some ((r11.2.2 + 4), 0)) 1 2).bind fun q15 =>
    (appD h14 x5a x5n x5c 2 16 (r11.2.2 + 5) q15).bind fun e16 =>
    let h17 := AHeap.puts h14 e16.sets
    F20_L1' J J call Y lf n0 (x1) x2 e16.a e16.n e16.c x6 (-1) x8 h17 (r11.2.2 + 8))
    else
    (F20_L1' J J call Y lf n0 (x1) x2 x5a x5n x5c x6 x7 x8 r11.2.1 r11.2.2))
    else
    (F20_L1' J J call Y lf n0 (x1) x2 x5a x5n x5c x6 x7 x8 r11.2.1 r11.2.2)) := by kernel_rfl

theorem F20_J4_eq (call : YldF → CallF) (Y : YldF) (lf : Nat) (n0 : Nat) (x1 : AV) (x2 : Option (Nat × Nat)) (x5a : Option (Nat × Nat)) (x5n : Nat) (x5c : Option Nat) (x6 : Int) (x7 : Int) (x8 : Int) (x9 : Int) (h : AHeap) (nx : Nat) : F20_J4 call Y lf n0 x1 x2 x5a x5n x5c x6 x7 x8 x9 h nx =
    (asCal x1).bind fun q2 =>
    (callC (call Y) Y q2.1 (q2.2.1 ++ [(.int .i64 x6)] ++ q2.2.2) h (nx + 8)).bind fun r1 =>
    (asB r1.1).bind fun t3 =>
    if t3 = true then
    (if (decide ((x7 : Int) < 0)) = true then
    (F20_L1 call Y lf n0 (x1) x2 x5a x5n x5c x6 x9 x8 r1.2.1 (r1.2.2 + 2))
    else
    ((asCal x1).bind fun q5 =>
    (callC (call Y) Y q5.1 (q5.2.1 ++ [(.int .i64 x6)] ++ q5.2.2) r1.2.1 (r1.2.2 + 9)).bind fun r4 =>
    (asB r4.1).bind fun t6 =>
    if (!t6) = true then
    (if (decide ((x7 : Int) ≥ 0)) = true then
    (let h7 := AHeap.put r4.2.1 (r4.2.2 + 4) (some ⟨[(.int .i64 x7), (.int .i64 x9)], 2, true⟩)
    (srcS h7 (some ((r4.2.2 + 4), 0)) 1 2).bind fun q8 =>
    (appD h7 x5a x5n x5c 2 16 (r4.2.2 + 5) q8).bind fun e9 =>
    let h10 := AHeap.puts h7 e9.sets
    F20_L1 call Y lf n0 (x1) x2 e9.a e9.n e9.c x6 (-1) x8 h10 (r4.2.2 + 8))
    else
    (F20_L1 call Y lf n0 (x1) x2 x5a x5n x5c x6 x7 x8 r4.2.1 r4.2.2))
    else
    (F20_L1 call Y lf n0 (x1) x2 x5a x5n x5c x6 x7 x8 r4.2.1 r4.2.2)))
    else
    ((asCal x1).bind fun q12 =>
    (callC (call Y) Y q12.1 (q12.2.1 ++ [(.int .i64 x6)] ++ q12.2.2) r1.2.1 (r1.2.2 + 9)).bind fun r11 =>
    (asB r11.1).bind fun t13 =>
    if (!t13) = true then
    (if (decide ((x7 : Int) ≥ 0)) = true then
    (let h14 := AHeap.put r11.2.1 (r11.2.2 + 4) (some ⟨[(.int .i64 x7), (.int .i64 x9)], 2, true⟩)
    (srcS h14 (some ((r11.2.2 + 4), 0)) 1 2).bind fun q15 =>
    (appD h14 x5a x5n x5c 2 16 (r11.2.2 + 5) q15).bind fun e16 =>
    let h17 := AHeap.puts h14 e16.sets
    F20_L1 call Y lf n0 (x1) x2 e16.a e16.n e16.c x6 (-1) x8 h17 (r11.2.2 + 8))
    else
    (F20_L1 call Y lf n0 (x1) x2 x5a x5n x5c x6 x7 x8 r11.2.1 r11.2.2))
    else
    (F20_L1 call Y lf n0 (x1) x2 x5a x5n x5c x6 x7 x8 r11.2.1 r11.2.2)) := F20_J4_eq' go1 call Y lf n0 x1 x2 x5a x5n x5c x6 x7 x8 x9 h nx

theorem F20_eq' (J : StepF (AV × AHeap × Nat) → StepF (AV × AHeap × Nat)) (n : Nat) (Y : YldF) (x0a : Option (Nat × Nat)) (x0n : Nat) (x0c : Option Nat) (x1 : AV) (h : AHeap) (nx : Nat) : rootJ J Try.prog keepT (callP Try.prog keepT n) Y n 20 [(.slice x0a x0n x0c), x1] h nx =
    let h1 := AHeap.put h nx (some ⟨[(.slice x0a x0n x0c)], 1, true⟩)
    (ldA h1 nx 0).bind fun v2 =>
    (asSl v2).bind fun s3 =>
    ((callP Try.prog keepT n) Y 27 [(.iface 46 (.slice s3.1 s3.2.1 s3.2.2)), (.fn 28 [] [(.ptr (some (nx, 0)))])] h1 (nx + 6)).bind fun r4 =>
    (asTup 0 r4.1).bind fun d5 =>
    F20_L1' J J (callP Try.prog keepT n) Y n n (x1) (some (nx, 0)) none 0 none 0 (-1) 0 r4.2.1 (r4.2.2 + 4) := by kernel_rfl

/-- quickset/span.swept -/
theorem F20_eq (n : Nat) (Y : YldF) (x0a : Option (Nat × Nat)) (x0n : Nat) (x0c : Option Nat) (x1 : AV) (h : AHeap) (nx : Nat) : callP Try.prog keepT (n + 1) Y 20 [(.slice x0a x0n x0c), x1] h nx =
    let h1 := AHeap.put h nx (some ⟨[(.slice x0a x0n x0c)], 1, true⟩)
    (ldA h1 nx 0).bind fun v2 =>
    (asSl v2).bind fun s3 =>
    ((callP Try.prog keepT n) Y 27 [(.iface 46 (.slice s3.1 s3.2.1 s3.2.2)), (.fn 28 [] [(.ptr (some (nx, 0)))])] h1 (nx + 6)).bind fun r4 =>
    (asTup 0 r4.1).bind fun d5 =>
    F20_L1 (callP Try.prog keepT n) Y n n (x1) (some (nx, 0)) none 0 none 0 (-1) 0 r4.2.1 (r4.2.2 + 4) := F20_eq' go1 n Y x0a x0n x0c x1 h nx

noncomputable def c21 : Code := (Try.f21.body).getD .skip

noncomputable def r21 : List ResultVar := Try.f21.results.toList

noncomputable def F21_L1' (W J : StepF (AV × AHeap × Nat) → StepF (AV × AHeap × Nat)) (call : YldF → CallF) (Y : YldF) (lf : Nat) (n0 : Nat) (x1 : Int) (x5a : Option (Nat × Nat)) (x5n : Nat) (x5c : Option Nat) (x8a : Option (Nat × Nat)) (x8n : Nat) (x8c : Option Nat) (x9 : Int) (x10 : Int) (h : AHeap) (nx : Nat) : Option (AV × AHeap × Nat) :=
  goK W J drawK (machOf Try.prog) call Y (keepT 21) lf c21 [1, 1, 0, 1, 0, 9] [n0] (retK (machOf Try.prog) ⟨c21, 28, r21, keepT 21⟩) ⟨28, mkL [(1, (.int .i64 x1)), (5, (.slice x5a x5n x5c)), (8, (.slice x8a x8n x8c)), (9, (.int .i64 x9)), (10, (.int .i64 x10))]⟩ h nx

noncomputable def F21_L1 (call : YldF → CallF) (Y : YldF) (lf : Nat) (n0 : Nat) (x1 : Int) (x5a : Option (Nat × Nat)) (x5n : Nat) (x5c : Option Nat) (x8a : Option (Nat × Nat)) (x8n : Nat) (x8c : Option Nat) (x9 : Int) (x10 : Int) (h : AHeap) (nx : Nat) : Option (AV × AHeap × Nat) := F21_L1' go1 go1 call Y lf n0 x1 x5a x5n x5c x8a x8n x8c x9 x10 h nx

theorem F21_L1_eq' (J : StepF (AV × AHeap × Nat) → StepF (AV × AHeap × Nat)) (call : YldF → CallF) (Y : YldF) (lf : Nat) (n0 : Nat) (x1 : Int) (x5a : Option (Nat × Nat)) (x5n : Nat) (x5c : Option Nat) (x8a : Option (Nat × Nat)) (x8n : Nat) (x8c : Option Nat) (x9 : Int) (x10 : Int) (h : AHeap) (nx : Nat) : F21_L1' go1 J call Y lf (n0 + 1) x1 x5a x5n x5c x8a x8n x8c x9 x10 h nx =
    if (decide ((x10 : Int) < x9)) = true then
    ((x8a).bind fun p1 =>
    if 0 ≤ (x10 : Int) ∧ x10 < ((x8n : Nat) : Int) then
    ((ldR h p1.1 (p1.2 + Int.toNat x10 * 2) 2).bind fun l2 =>
    (asAgg 2 (AV.agg l2)).bind fun d3 =>
    (asI .i64 (d3.getD 0 .bad)).bind fun n4 =>
    (asI .i64 (d3.getD 1 .bad)).bind fun n5 =>
    let h6 := AHeap.put h (nx + 3) (some ⟨[(.int .i64 0), (.int .i64 0)], 2, true⟩)
    (stA h6 (nx + 3) 0 (.agg [(.int .i64 n4), (.int .i64 n5)]) 2).bind fun b7 =>
    let h8 := AHeap.put h6 (nx + 3) (some b7)
    (ldA h8 (nx + 3) 0).bind fun v9 =>
    (asI .i64 v9).bind fun n10 =>
    (ldA h8 (nx + 3) 1).bind fun v11 =>
    (asI .i64 v11).bind fun n12 =>
    let h13 := AHeap.put h8 (nx + 15) (some ⟨[(.int .i64 n10), (.int .i64 x1), (.int .i64 n12), (.int .i64 (wrapA .i64 (0 - x1)))], 2, true⟩)
    (srcS h13 (some ((nx + 15), 0)) 2 2).bind fun q14 =>
    (appD h13 x5a x5n x5c 2 16 (nx + 16) q14).bind fun e15 =>
    let h16 := AHeap.puts h13 e15.sets
    F21_L1' J J call Y lf n0 x1 e15.a e15.n e15.c x8a x8n x8c x9 (wrapA .i64 (x10 + 1)) h16 (nx + 20))
    else none)
    else
    (some ((.slice x5a x5n x5c), h, (nx + 3))) := by kernel_rfl

theorem F21_L1_eq (call : YldF → CallF) (Y : YldF) (lf : Nat) (n0 : Nat) (x1 : Int) (x5a : Option (Nat × Nat)) (x5n : Nat) (x5c : Option Nat) (x8a : Option (Nat × Nat)) (x8n : Nat) (x8c : Option Nat) (x9 : Int) (x10 : Int) (h : AHeap) (nx : Nat) : F21_L1 call Y lf (n0 + 1) x1 x5a x5n x5c x8a x8n x8c x9 x10 h nx =
    if (decide ((x10 : Int) < x9)) = true then
    ((x8a).bind fun p1 =>
    if 0 ≤ (x10 : Int) ∧ x10 < ((x8n : Nat) : Int) then
    ((ldR h p1.1 (p1.2 + Int.toNat x10 * 2) 2).bind fun l2 =>
    (asAgg 2 (AV.agg l2)).bind fun d3 =>
    (asI .i64 (d3.getD 0 .bad)).bind fun n4 =>
    (asI .i64 (d3.getD 1 .bad)).bind fun n5 =>
    let h6 := AHeap.put h (nx + 3) (some ⟨[(.int .i64 0), (.int .i64 0)], 2, true⟩)
    (stA h6 (nx + 3) 0 (.agg [(.int .i64 n4), (.int .i64 n5)]) 2).bind fun b7 =>
    let h8 := AHeap.put h6 (nx + 3) (some b7)
    (ldA h8 (nx + 3) 0).bind fun v9 =>
    (asI .i64 v9).bind fun n10 =>
    (ldA h8 (nx + 3) 1).bind fun v11 =>
    (asI .i64 v11).bind fun n12 =>
    let h13 := AHeap.put h8 (nx + 15) (some ⟨[(.int .i64 n10), (.int .i64 x1), (.int .i64 n12), (.int .i64 (wrapA .i64 (0 - x1)))], 2, true⟩)
    (srcS h13 (some ((nx + 15), 0)) 2 2).bind fun q14 =>
    (appD h13 x5a x5n x5c 2 16 (nx + 16) q14).bind fun e15 =>
    let h16 := AHeap.puts h13 e15.sets
    F21_L1 call Y lf n0 x1 e15.a e15.n e15.c x8a x8n x8c x9 (wrapA .i64 (x10 + 1)) h16 (nx + 20))
    else none)
    else
    (some ((.slice x5a x5n x5c), h, (nx + 3))) := F21_L1_eq' go1 call Y lf n0 x1 x5a x5n x5c x8a x8n x8c x9 x10 h nx

theorem F21_L1_zero (call : YldF → CallF) (Y : YldF) (lf : Nat) (x1 : Int) (x5a : Option (Nat × Nat)) (x5n : Nat) (x5c : Option Nat) (x8a : Option (Nat × Nat)) (x8n : Nat) (x8c : Option Nat) (x9 : Int) (x10 : Int) (h : AHeap) (nx : Nat) : F21_L1 call Y lf 0 x1 x5a x5n x5c x8a x8n x8c x9 x10 h nx = none := by kernel_rfl

theorem F21_eq' (J : StepF (AV × AHeap × Nat) → StepF (AV × AHeap × Nat)) (n : Nat) (Y : YldF) (x0a : Option (Nat × Nat)) (x0n : Nat) (x0c : Option Nat) (x1 : Int) (h : AHeap) (nx : Nat) : rootJ J Try.prog keepT (callP Try.prog keepT n) Y n 21 [(.slice x0a x0n x0c), (.int .i64 x1)] h nx =
    F21_L1' J J (callP Try.prog keepT n) Y n n x1 none 0 none x0a x0n x0c ((x0n : Nat) : Int) 0 h (nx + 5) := by kernel_rfl

/-- quickset/span.edges -/
theorem F21_eq (n : Nat) (Y : YldF) (x0a : Option (Nat × Nat)) (x0n : Nat) (x0c : Option Nat) (x1 : Int) (h : AHeap) (nx : Nat) : callP Try.prog keepT (n + 1) Y 21 [(.slice x0a x0n x0c), (.int .i64 x1)] h nx =
    F21_L1 (callP Try.prog keepT n) Y n n x1 none 0 none x0a x0n x0c ((x0n : Nat) : Int) 0 h (nx + 5) := F21_eq' go1 n Y x0a x0n x0c x1 h nx

noncomputable def c22 : Code := (Try.f22.body).getD .skip

noncomputable def r22 : List ResultVar := Try.f22.results.toList

theorem F22_eq' (J : StepF (AV × AHeap × Nat) → StepF (AV × AHeap × Nat)) (n : Nat) (Y : YldF) (x0 : Int) (h : AHeap) (nx : Nat) : rootJ J Try.prog keepT (callP Try.prog keepT n) Y n 22 [(.int .i64 x0)] h nx =
    some ((.bool (decide ((x0 : Int) > 0))), h, (nx + 4)) := by kernel_rfl

/-- quickset/span.Add$1 -/
theorem F22_eq (n : Nat) (Y : YldF) (x0 : Int) (h : AHeap) (nx : Nat) : callP Try.prog keepT (n + 1) Y 22 [(.int .i64 x0)] h nx =
    some ((.bool (decide ((x0 : Int) > 0))), h, (nx + 4)) := F22_eq' go1 n Y x0 h nx

noncomputable def c23 : Code := (Try.f23.body).getD .skip

noncomputable def r23 : List ResultVar := Try.f23.results.toList

theorem F23_eq' (J : StepF (AV × AHeap × Nat) → StepF (AV × AHeap × Nat)) (n : Nat) (Y : YldF) (x0 : Int) (h : AHeap) (nx : Nat) : rootJ J Try.prog keepT (callP Try.prog keepT n) Y n 23 [(.int .i64 x0)] h nx =
    some ((.bool (decide ((x0 : Int) > 0))), h, (nx + 4)) := by kernel_rfl

/-- quickset/span.Cut$1 -/
theorem F23_eq (n : Nat) (Y : YldF) (x0 : Int) (h : AHeap) (nx : Nat) : callP Try.prog keepT (n + 1) Y 23 [(.int .i64 x0)] h nx =
    some ((.bool (decide ((x0 : Int) > 0))), h, (nx + 4)) := F23_eq' go1 n Y x0 h nx

noncomputable def c24 : Code := (Try.f24.body).getD .skip

noncomputable def r24 : List ResultVar := Try.f24.results.toList

theorem F24_eq' (J : StepF (AV × AHeap × Nat) → StepF (AV × AHeap × Nat)) (n : Nat) (Y : YldF) (x0 : Int) (h : AHeap) (nx : Nat) : rootJ J Try.prog keepT (callP Try.prog keepT n) Y n 24 [(.int .i64 x0)] h nx =
    some ((.bool ((x0 : Int) == 2)), h, (nx + 4)) := by kernel_rfl

/-- quickset/span.Both$1 -/
theorem F24_eq (n : Nat) (Y : YldF) (x0 : Int) (h : AHeap) (nx : Nat) : callP Try.prog keepT (n + 1) Y 24 [(.int .i64 x0)] h nx =
    some ((.bool ((x0 : Int) == 2)), h, (nx + 4)) := F24_eq' go1 n Y x0 h nx

noncomputable def c25 : Code := (Try.f25.body).getD .skip

noncomputable def r25 : List ResultVar := Try.f25.results.toList

noncomputable def F25_L1' (W J : StepF (AV × AHeap × Nat) → StepF (AV × AHeap × Nat)) (call : YldF → CallF) (Y : YldF) (lf : Nat) (n0 : Nat) (x1 : AV) (x5 : Int) (x6 : Int) (h : AHeap) (nx : Nat) : Option (AV × AHeap × Nat) :=
  goK W J drawK (machOf Try.prog) call Y (keepT 25) lf c25 [1, 1, 0, 0, 9] [n0] (retK (machOf Try.prog) ⟨c25, 26, r25, keepT 25⟩) ⟨26, mkL [(1, x1), (5, (.int .i64 x5)), (6, (.int .i64 x6))]⟩ h nx

noncomputable def F25_L1 (call : YldF → CallF) (Y : YldF) (lf : Nat) (n0 : Nat) (x1 : AV) (x5 : Int) (x6 : Int) (h : AHeap) (nx : Nat) : Option (AV × AHeap × Nat) := F25_L1' go1 go1 call Y lf n0 x1 x5 x6 h nx

theorem F25_L1_eq' (J : StepF (AV × AHeap × Nat) → StepF (AV × AHeap × Nat)) (call : YldF → CallF) (Y : YldF) (lf : Nat) (n0 : Nat) (x1 : AV) (x5 : Int) (x6 : Int) (h : AHeap) (nx : Nat) : F25_L1' go1 J call Y lf (n0 + 1) x1 x5 x6 h nx =
    if (decide ((x5 : Int) < x6)) = true then
    ((asCal x1).bind fun q2 =>
    (callC (call Y) Y q2.1 (q2.2.1 ++ [(.int .i64 (wrapA .i64 (Int.fdiv (wrapA .u64 (wrapA .i64 (x5 + x6))) ((2:Int) ^ min (Int.toNat 1) (IntKind.bits .u64)))))] ++ q2.2.2) h (nx + 14)).bind fun r1 =>
    (asB r1.1).bind fun t3 =>
    if (!t3) = true then
    (F25_L1' J J call Y lf n0 (x1) (wrapA .i64 ((wrapA .i64 (Int.fdiv (wrapA .u64 (wrapA .i64 (x5 + x6))) ((2:Int) ^ min (Int.toNat 1) (IntKind.bits .u64)))) + 1)) x6 r1.2.1 (r1.2.2 + 3))
    else
    (F25_L1' J J call Y lf n0 (x1) x5 (wrapA .i64 (Int.fdiv (wrapA .u64 (wrapA .i64 (x5 + x6))) ((2:Int) ^ min (Int.toNat 1) (IntKind.bits .u64)))) r1.2.1 (r1.2.2 + 2)))
    else
    (some ((.int .i64 x5), h, (nx + 5))) := by kernel_rfl

theorem F25_L1_eq (call : YldF → CallF) (Y : YldF) (lf : Nat) (n0 : Nat) (x1 : AV) (x5 : Int) (x6 : Int) (h : AHeap) (nx : Nat) : F25_L1 call Y lf (n0 + 1) x1 x5 x6 h nx =
    if (decide ((x5 : Int) < x6)) = true then
    ((asCal x1).bind fun q2 =>
    (callC (call Y) Y q2.1 (q2.2.1 ++ [(.int .i64 (wrapA .i64 (Int.fdiv (wrapA .u64 (wrapA .i64 (x5 + x6))) ((2:Int) ^ min (Int.toNat 1) (IntKind.bits .u64)))))] ++ q2.2.2) h (nx + 14)).bind fun r1 =>
    (asB r1.1).bind fun t3 =>
    if (!t3) = true then
    (F25_L1 call Y lf n0 (x1) (wrapA .i64 ((wrapA .i64 (Int.fdiv (wrapA .u64 (wrapA .i64 (x5 + x6))) ((2:Int) ^ min (Int.toNat 1) (IntKind.bits .u64)))) + 1)) x6 r1.2.1 (r1.2.2 + 3))
    else
    (F25_L1 call Y lf n0 (x1) x5 (wrapA .i64 (Int.fdiv (wrapA .u64 (wrapA .i64 (x5 + x6))) ((2:Int) ^ min (Int.toNat 1) (IntKind.bits .u64)))) r1.2.1 (r1.2.2 + 2)))
    else
    (some ((.int .i64 x5), h, (nx + 5))) := F25_L1_eq' go1 call Y lf n0 x1 x5 x6 h nx

theorem F25_L1_zero (call : YldF → CallF) (Y : YldF) (lf : Nat) (x1 : AV) (x5 : Int) (x6 : Int) (h : AHeap) (nx : Nat) : F25_L1 call Y lf 0 x1 x5 x6 h nx = none := by kernel_rfl

theorem F25_eq' (J : StepF (AV × AHeap × Nat) → StepF (AV × AHeap × Nat)) (n : Nat) (Y : YldF) (x0 : Int) (x1 : AV) (h : AHeap) (nx : Nat) : rootJ J Try.prog keepT (callP Try.prog keepT n) Y n 25 [(.int .i64 x0), x1] h nx =
    F25_L1' J J (callP Try.prog keepT n) Y n n (x1) 0 x0 h (nx + 4) := by kernel_rfl

/-- sort.Search -/
theorem F25_eq (n : Nat) (Y : YldF) (x0 : Int) (x1 : AV) (h : AHeap) (nx : Nat) : callP Try.prog keepT (n + 1) Y 25 [(.int .i64 x0), x1] h nx =
    F25_L1 (callP Try.prog keepT n) Y n n (x1) 0 x0 h (nx + 4) := F25_eq' go1 n Y x0 x1 h nx

noncomputable def c26 : Code := (Try.f26.body).getD .skip

noncomputable def r26 : List ResultVar := Try.f26.results.toList

theorem F26_eq' (J : StepF (AV × AHeap × Nat) → StepF (AV × AHeap × Nat)) (n : Nat) (Y : YldF) (x0 : Int) (x1 : Option (Nat × Nat)) (x2 : Option (Nat × Nat)) (h : AHeap) (nx : Nat) : rootJ J Try.prog keepT (callP Try.prog keepT n) Y n 26 [(.int .i64 x0), (.ptr x1), (.ptr x2)] h nx =
    (x1).bind fun p1 =>
    (ldA h p1.1 p1.2).bind fun v2 =>
    (asSl v2).bind fun s3 =>
    (s3.1).bind fun p4 =>
    if 0 ≤ (x0 : Int) ∧ x0 < ((s3.2.1 : Nat) : Int) then
    ((ldA h p4.1 ((p4.2 + Int.toNat x0 * 2) + 1)).bind fun v5 =>
    (asI .i64 v5).bind fun n6 =>
    (x2).bind fun p7 =>
    (ldA h p7.1 p7.2).bind fun v8 =>
    (asI .i64 v8).bind fun n9 =>
    some ((.bool (decide ((n6 : Int) > n9))), h, (nx + 9)))
    else none := by kernel_rfl

/-- quickset/span.Has$1 -/
theorem F26_eq (n : Nat) (Y : YldF) (x0 : Int) (x1 : Option (Nat × Nat)) (x2 : Option (Nat × Nat)) (h : AHeap) (nx : Nat) : callP Try.prog keepT (n + 1) Y 26 [(.int .i64 x0), (.ptr x1), (.ptr x2)] h nx =
    (x1).bind fun p1 =>
    (ldA h p1.1 p1.2).bind fun v2 =>
    (asSl v2).bind fun s3 =>
    (s3.1).bind fun p4 =>
    if 0 ≤ (x0 : Int) ∧ x0 < ((s3.2.1 : Nat) : Int) then
    ((ldA h p4.1 ((p4.2 + Int.toNat x0 * 2) + 1)).bind fun v5 =>
    (asI .i64 v5).bind fun n6 =>
    (x2).bind fun p7 =>
    (ldA h p7.1 p7.2).bind fun v8 =>
    (asI .i64 v8).bind fun n9 =>
    some ((.bool (decide ((n6 : Int) > n9))), h, (nx + 9)))
    else none := F26_eq' go1 n Y x0 x1 x2 h nx

/-- sort.Slice, by its contract -/
theorem F27_eq (n : Nat) (Y : YldF) (args : List AV) (h : AHeap) (nx : Nat) : callP Try.prog keepT (n + 1) Y 27 args h nx = orcK [2,46,28] args h nx := by kernel_rfl

noncomputable def c28 : Code := (Try.f28.body).getD .skip

noncomputable def r28 : List ResultVar := Try.f28.results.toList

theorem F28_eq' (J : StepF (AV × AHeap × Nat) → StepF (AV × AHeap × Nat)) (n : Nat) (Y : YldF) (x0 : Int) (x1 : Int) (x2 : Option (Nat × Nat)) (h : AHeap) (nx : Nat) : rootJ J Try.prog keepT (callP Try.prog keepT n) Y n 28 [(.int .i64 x0), (.int .i64 x1), (.ptr x2)] h nx =
    (x2).bind fun p1 =>
    (ldA h p1.1 p1.2).bind fun v2 =>
    (asSl v2).bind fun s3 =>
    (s3.1).bind fun p4 =>
    if 0 ≤ (x0 : Int) ∧ x0 < ((s3.2.1 : Nat) : Int) then
    ((ldA h p4.1 (p4.2 + Int.toNat x0 * 2)).bind fun v5 =>
    (asI .i64 v5).bind fun n6 =>
    (x2).bind fun p7 =>
    (ldA h p7.1 p7.2).bind fun v8 =>
    (asSl v8).bind fun s9 =>
    (s9.1).bind fun p10 =>
    if 0 ≤ (x1 : Int) ∧ x1 < ((s9.2.1 : Nat) : Int) then
    ((ldA h p10.1 (p10.2 + Int.toNat x1 * 2)).bind fun v11 =>
    (asI .i64 v11).bind fun n12 =>
    some ((.bool (decide ((n6 : Int) < n12))), h, (nx + 13)))
    else none)
    else none := by kernel_rfl

/-- quickset/span.swept$1 -/
theorem F28_eq (n : Nat) (Y : YldF) (x0 : Int) (x1 : Int) (x2 : Option (Nat × Nat)) (h : AHeap) (nx : Nat) : callP Try.prog keepT (n + 1) Y 28 [(.int .i64 x0), (.int .i64 x1), (.ptr x2)] h nx =
    (x2).bind fun p1 =>
    (ldA h p1.1 p1.2).bind fun v2 =>
    (asSl v2).bind fun s3 =>
    (s3.1).bind fun p4 =>
    if 0 ≤ (x0 : Int) ∧ x0 < ((s3.2.1 : Nat) : Int) then
    ((ldA h p4.1 (p4.2 + Int.toNat x0 * 2)).bind fun v5 =>
    (asI .i64 v5).bind fun n6 =>
    (x2).bind fun p7 =>
    (ldA h p7.1 p7.2).bind fun v8 =>
    (asSl v8).bind fun s9 =>
    (s9.1).bind fun p10 =>
    if 0 ≤ (x1 : Int) ∧ x1 < ((s9.2.1 : Nat) : Int) then
    ((ldA h p10.1 (p10.2 + Int.toNat x1 * 2)).bind fun v11 =>
    (asI .i64 v11).bind fun n12 =>
    some ((.bool (decide ((n6 : Int) < n12))), h, (nx + 13)))
    else none)
    else none := F28_eq' go1 n Y x0 x1 x2 h nx

end Go.Proofs.Ytophneodoibcgaa.T
