/- Printed by mp.py: functions of the program as plain Lean, each by the kernel. -/
import Derived.Test.YtahilinkfnchaaaDoorTG
import Derived.Test.YtahilinkfnchaaaDoorProg
import Derived.KernelRfl
set_option linter.unusedVariables false
set_option linter.unusedSimpArgs false
namespace Go.Proofs.YtahilinkfnchaaaDoor.T
open Go Go.RowKit Go.Proofs
set_option maxRecDepth 100000

def keepL : List (Nat × List (Nat × Bool × List Nat)) := [(3, [(0, false, [0, 1, 2, 3, 4]), (1, false, [0, 1, 2, 3, 4]), (2, false, [3, 4, 11]), (3, false, [3, 4, 11, 12]), (4, false, [3, 4, 11, 12]), (5, true, [3, 4, 11, 12]), (6, true, [3, 4, 11]), (7, false, [3, 4, 11, 13, 14]), (8, false, [3, 4, 11, 13, 14, 15, 16]), (9, false, [3, 4, 11, 14, 15, 16, 18])]),
  (4, [(0, false, [0, 1, 2]), (1, false, [1, 2, 3]), (2, false, [7]), (3, false, [7, 8, 9]), (4, false, [7, 8, 9, 10, 11]), (5, false, [7, 8, 9, 10, 11, 13]), (6, false, [7, 8, 9, 10, 11, 13, 15])]),
  (5, [(0, false, [0]), (1, false, [0]), (2, false, [0, 3, 4]), (3, false, [0, 3, 4, 5, 6]), (4, false, []), (5, true, [0, 3, 4]), (6, false, [3, 4]), (7, false, [0, 3]), (8, false, [0, 7, 8])]),
  (6, [(0, false, [0, 1]), (1, false, [0, 1]), (2, false, [0, 1]), (3, false, [0, 1]), (4, false, [0])]),
  (7, [(0, false, [0]), (1, false, [0])]),
  (8, [(0, false, [0]), (1, false, [1]), (2, false, [1, 4]), (3, false, []), (4, true, [1]), (5, false, [1, 5]), (6, false, [1]), (7, true, [1, 5]), (8, false, [1, 5]), (9, false, [1, 5]), (10, true, [1, 5])]),
  (9, [(0, false, [0]), (1, false, [0, 2]), (2, false, [0, 2, 4]), (3, false, [0, 2, 4, 5]), (4, false, [0, 2, 4, 5]), (5, false, [0, 2, 4, 5, 6]), (6, true, [0, 2, 4, 5]), (7, false, [0, 2, 4, 5]), (8, false, [0, 2, 4, 5]), (9, false, [0, 2, 4, 5]), (10, false, [0, 2, 4, 5]), (11, true, [0, 2, 4, 5]), (12, false, [0, 2, 4, 5]), (13, false, [0, 2, 4, 5]), (14, true, [0, 2, 5]), (15, false, [0, 2, 5, 8, 9]), (16, false, [2]), (17, true, [2, 5]), (18, false, [2, 5])]),
  (10, [(0, false, [0, 1]), (1, false, [2, 3])]),
  (11, [(0, false, [0, 1, 2]), (1, false, [1, 2, 3, 6]), (2, false, [1, 2, 3, 6, 7]), (3, false, [1, 2, 3, 6, 8]), (4, false, [1, 2, 3, 6, 8, 20]), (5, false, [1, 2, 3, 6, 8, 20]), (6, false, [1, 2, 3, 6, 8, 20]), (7, false, [1, 2, 3, 6, 8, 20]), (8, false, [1, 2, 3, 6, 8, 20]), (9, false, [1, 2, 3, 6, 8, 20]), (10, false, [1, 2, 3, 6, 8]), (11, true, [1, 2, 3, 6, 8]), (12, false, [1, 2, 3, 6, 8, 33]), (13, false, [1, 2, 3, 6, 8, 33]), (14, false, [1, 2, 3, 6, 8, 33]), (15, false, [1, 2, 3, 6, 8, 33]), (16, false, [3, 6, 8]), (17, false, [1, 2, 3, 6, 8, 33]), (18, false, [1, 2, 3, 6, 8, 33]), (19, false, [1, 2, 3, 6, 8, 33]), (20, false, [1, 3, 6, 8]), (21, false, [2, 3, 6, 8, 33]), (22, false, [2, 3, 6, 8, 33]), (23, false, [2, 3, 6, 8, 33]), (24, false, [2, 3, 6, 8]), (25, true, [3, 6, 8]), (26, false, [3, 6, 8, 56]), (27, false, [3, 6, 8, 56]), (28, false, [3, 6, 8, 56]), (29, false, [3, 6, 8, 56]), (30, false, [3, 6, 8]), (31, true, [3, 6, 8]), (32, false, [3, 6, 8, 66]), (33, false, [3, 6, 8, 66]), (34, false, [3, 6, 8, 66]), (35, false, [3, 6, 8, 66]), (36, false, [3, 6, 8, 66]), (37, false, [3, 6, 8]), (38, false, [3, 6, 8, 66]), (39, false, [3, 6, 8]), (40, false, [6, 8])]),
  (12, [(0, false, [0]), (1, false, [1]), (2, false, []), (3, true, [1]), (4, false, [1, 4]), (5, false, [1, 4, 5]), (6, false, [1, 5, 29]), (7, false, [1, 5, 29, 30]), (8, false, [1, 5, 7, 29]), (9, false, [1, 5, 8, 9, 10, 29]), (10, false, [1, 5, 8, 29]), (11, false, []), (12, false, [1, 5, 8, 29]), (13, false, [1, 5, 9, 10, 29]), (14, false, [1, 5, 9, 29]), (15, false, [1, 5, 10, 29]), (16, false, [1, 5, 10, 29]), (17, false, [1, 5]), (18, false, []), (19, true, [5])]),
  (13, [(0, false, [0]), (1, false, [0, 2]), (2, false, [2, 4]), (3, false, [2, 4, 5]), (4, false, [2]), (5, true, [2, 4, 5]), (6, false, [2, 4, 5, 6]), (7, false, [2, 4, 5, 6, 7]), (8, false, [2, 4, 6, 7, 41]), (9, false, [2, 4, 6, 7, 41, 42]), (10, false, [2, 4, 6, 7, 8, 9, 41]), (11, false, [2, 4, 6, 7, 8, 9, 41]), (12, false, [2, 4, 6, 7, 9, 11, 41]), (13, false, [2, 4, 6, 7, 11, 14, 41]), (14, false, [2, 4, 6, 7, 11, 12, 13, 14, 41]), (15, false, [2, 4, 6, 7, 11, 12, 41]), (16, false, [2, 4, 6, 7, 11, 13, 14, 41]), (17, false, [2, 4, 6, 7, 11, 13, 41]), (18, true, [2, 4, 6, 7, 10, 41]), (19, false, [2, 6, 7]), (20, false, [2]), (21, false, [2, 6])]),
  (14, [(0, false, [0, 1]), (1, false, [2, 3])]),
  (15, [(0, false, [0, 1]), (1, false, [0, 1]), (2, false, []), (3, false, [0, 1]), (4, false, [0, 1, 5]), (5, false, [0, 1, 5]), (6, false, [0, 1, 5]), (7, false, []), (8, false, [])]),
  (16, [(0, false, [0]), (1, false, [0])]),
  (18, [(0, false, [0, 1]), (1, false, [0, 1])]),
  (19, [(9000000, true, [5])]),
  (20, [(9000000, true, [10])]),
  (21, [(9000000, true, [6])]),
  (22, [(9000000, true, [7])]),
  (23, [(0, false, [0]), (1, false, [0]), (2, false, [0, 4, 5])]),
  (24, [(0, false, [0]), (1, false, [0]), (2, false, []), (3, false, [0]), (4, false, []), (5, true, [0]), (6, false, [0, 4]), (7, false, [0, 4, 5]), (8, false, [0, 4, 5]), (9, false, [0, 4, 5]), (10, false, [0, 4, 5, 6, 7]), (11, false, []), (12, true, [0, 4, 5, 6, 7]), (13, false, [4])]),
  (25, [(0, false, [0]), (1, false, [0]), (2, false, []), (3, false, [0])]),
  (26, [(0, false, [0, 1]), (1, false, [0, 1]), (2, false, []), (3, false, [0, 1]), (4, false, [0, 1, 5]), (5, false, [0, 1, 5]), (6, false, [0, 1, 5]), (7, false, []), (8, false, [])]),
  (27, [(0, false, [0]), (1, false, [0])]),
  (17, [(0, false, [0]), (1, false, [0]), (2, false, [0, 6, 7, 8]), (3, false, [0, 6, 7, 8]), (4, false, [0, 4, 6, 7, 8]), (5, false, []), (6, false, [0, 6, 7, 8]), (7, false, [0])]),
  (28, [(0, false, [0, 1]), (1, false, [0, 1, 4, 5, 6]), (2, false, [0, 4, 5, 6, 7]), (3, false, [0, 5, 6]), (4, false, [0, 4, 5, 6, 7]), (5, false, [0, 5, 6]), (6, false, [0, 4, 5, 6, 7]), (7, false, [0, 4, 6]), (8, false, [0, 4, 5, 6, 7]), (9, false, [0, 4, 6]), (10, false, [0, 4, 5, 6, 7]), (11, false, [0, 4, 6]), (12, false, [0, 4, 5, 6, 7]), (13, false, [0, 4, 6]), (14, false, [0, 4, 5, 6, 7]), (15, false, [0, 4, 5]), (16, true, [4, 5, 6])]),
  (29, [(0, false, [0, 1]), (1, false, [0, 1]), (2, false, [0, 1, 7, 8]), (3, false, [0, 1, 7, 8]), (4, false, [0, 1, 5, 7, 8]), (5, false, [5]), (6, false, [0, 1, 7, 8]), (7, false, [])]),
  (30, [(0, false, [0, 1]), (1, false, [1, 2])]),
  (31, [(0, false, [0, 1]), (1, false, [0, 1]), (2, false, [0, 1, 7, 8]), (3, false, [0, 1, 7, 8]), (4, false, [0, 1, 5, 7, 8]), (5, false, [5]), (6, false, [0, 1, 7, 8]), (7, false, [])]),
  (38, [(9000000, true, [8, 103])]),
  (39, [(9000000, true, [9])])]
def keepT : Nat → Keep := keepOf keepL

noncomputable def c3 : Code := (Tryd.f3.body).getD .skip

noncomputable def r3 : List ResultVar := Tryd.f3.results.toList

noncomputable def F3_L1' (W J : StepF (AV × AHeap × Nat) → StepF (AV × AHeap × Nat)) (call : YldF → CallF) (Y : YldF) (lf : Nat) (n0 : Nat) (x3 : Bool) (x4a : Option (Nat × Nat)) (x4n : Nat) (x4c : Option Nat) (x11 : Option (Nat × Nat)) (x12 : Int) (h : AHeap) (nx : Nat) : Option (AV × AHeap × Nat) :=
  goK W J drawK (machOf Tryd.prog) call Y (keepT 3) lf c3 [1, 1, 0, 1, 0, 9] [n0] (retK (machOf Tryd.prog) ⟨c3, 86, r3, keepT 3⟩) ⟨86, mkL [(3, (.bool x3)), (4, (.slice x4a x4n x4c)), (11, (.ptr x11)), (12, (.int .i64 x12))], (machOf Tryd.prog).gk⟩ h nx

noncomputable def F3_L1 (call : YldF → CallF) (Y : YldF) (lf : Nat) (n0 : Nat) (x3 : Bool) (x4a : Option (Nat × Nat)) (x4n : Nat) (x4c : Option Nat) (x11 : Option (Nat × Nat)) (x12 : Int) (h : AHeap) (nx : Nat) : Option (AV × AHeap × Nat) := F3_L1' go1 go1 call Y lf n0 x3 x4a x4n x4c x11 x12 h nx

noncomputable def F3_J2' (W J : StepF (AV × AHeap × Nat) → StepF (AV × AHeap × Nat)) (call : YldF → CallF) (Y : YldF) (lf : Nat) (n0 : Nat) (x3 : Bool) (x4a : Option (Nat × Nat)) (x4n : Nat) (x4c : Option Nat) (x11 : Option (Nat × Nat)) (x12 : Int) (h : AHeap) (nx : Nat) : Option (AV × AHeap × Nat) :=
  goK W J drawK (machOf Tryd.prog) call Y (keepT 3) lf c3 [1, 1, 0, 1, 0, 0, 1] [n0] (retK (machOf Tryd.prog) ⟨c3, 86, r3, keepT 3⟩) ⟨86, mkL [(3, (.bool x3)), (4, (.slice x4a x4n x4c)), (11, (.ptr x11)), (12, (.int .i64 x12))], (machOf Tryd.prog).gk⟩ h nx

noncomputable def F3_J2 (call : YldF → CallF) (Y : YldF) (lf : Nat) (n0 : Nat) (x3 : Bool) (x4a : Option (Nat × Nat)) (x4n : Nat) (x4c : Option Nat) (x11 : Option (Nat × Nat)) (x12 : Int) (h : AHeap) (nx : Nat) : Option (AV × AHeap × Nat) := F3_J2' go1 go1 call Y lf n0 x3 x4a x4n x4c x11 x12 h nx

noncomputable def F3_J3' (W J : StepF (AV × AHeap × Nat) → StepF (AV × AHeap × Nat)) (call : YldF → CallF) (Y : YldF) (lf : Nat) (x3 : Bool) (x4a : Option (Nat × Nat)) (x4n : Nat) (x4c : Option Nat) (x11 : Option (Nat × Nat)) (h : AHeap) (nx : Nat) : Option (AV × AHeap × Nat) :=
  goK W J drawK (machOf Tryd.prog) call Y (keepT 3) lf c3 [1, 1, 1] [] (retK (machOf Tryd.prog) ⟨c3, 86, r3, keepT 3⟩) ⟨86, mkL [(3, (.bool x3)), (4, (.slice x4a x4n x4c)), (11, (.ptr x11))], (machOf Tryd.prog).gk⟩ h nx

noncomputable def F3_J3 (call : YldF → CallF) (Y : YldF) (lf : Nat) (x3 : Bool) (x4a : Option (Nat × Nat)) (x4n : Nat) (x4c : Option Nat) (x11 : Option (Nat × Nat)) (h : AHeap) (nx : Nat) : Option (AV × AHeap × Nat) := F3_J3' go1 go1 call Y lf x3 x4a x4n x4c x11 h nx

theorem F3_L1_eq' (J : StepF (AV × AHeap × Nat) → StepF (AV × AHeap × Nat)) (call : YldF → CallF) (Y : YldF) (lf : Nat) (n0 : Nat) (x3 : Bool) (x4a : Option (Nat × Nat)) (x4n : Nat) (x4c : Option Nat) (x11 : Option (Nat × Nat)) (x12 : Int) (h : AHeap) (nx : Nat) : F3_L1' go1 J call Y lf (n0 + 1) x3 x4a x4n x4c x11 x12 h nx =
    if (decide ((x12 : Int) < ((x4n : Nat) : Int))) = true then
    (if (decide ((x12 : Int) < 6)) = true then
    (F3_J2' J J call Y lf n0 x3 x4a x4n x4c x11 x12 h (nx + 8))
    else
    (F3_J3' J J call Y lf x3 x4a x4n x4c x11 h (nx + 8)))
    else
    (F3_J3' J J call Y lf x3 x4a x4n x4c x11 h (nx + 8)) := by kernel_rfl

theorem F3_L1_eq (call : YldF → CallF) (Y : YldF) (lf : Nat) (n0 : Nat) (x3 : Bool) (x4a : Option (Nat × Nat)) (x4n : Nat) (x4c : Option Nat) (x11 : Option (Nat × Nat)) (x12 : Int) (h : AHeap) (nx : Nat) : F3_L1 call Y lf (n0 + 1) x3 x4a x4n x4c x11 x12 h nx =
    if (decide ((x12 : Int) < ((x4n : Nat) : Int))) = true then
    (if (decide ((x12 : Int) < 6)) = true then
    (F3_J2 call Y lf n0 x3 x4a x4n x4c x11 x12 h (nx + 8))
    else
    (F3_J3 call Y lf x3 x4a x4n x4c x11 h (nx + 8)))
    else
    (F3_J3 call Y lf x3 x4a x4n x4c x11 h (nx + 8)) := F3_L1_eq' go1 call Y lf n0 x3 x4a x4n x4c x11 x12 h nx

theorem F3_L1_zero (call : YldF → CallF) (Y : YldF) (lf : Nat) (x3 : Bool) (x4a : Option (Nat × Nat)) (x4n : Nat) (x4c : Option Nat) (x11 : Option (Nat × Nat)) (x12 : Int) (h : AHeap) (nx : Nat) : F3_L1 call Y lf 0 x3 x4a x4n x4c x11 x12 h nx = none := by kernel_rfl

theorem F3_J2_eq' (J : StepF (AV × AHeap × Nat) → StepF (AV × AHeap × Nat)) (call : YldF → CallF) (Y : YldF) (lf : Nat) (n0 : Nat) (x3 : Bool) (x4a : Option (Nat × Nat)) (x4n : Nat) (x4c : Option Nat) (x11 : Option (Nat × Nat)) (x12 : Int) (h : AHeap) (nx : Nat) : F3_J2' go1 J call Y lf n0 x3 x4a x4n x4c x11 x12 h nx =
    (x11).bind fun p1 =>
    (ldA h p1.1 (p1.2 + 4)).bind fun v2 =>
    (asSl v2).bind fun s3 =>
    (x4a).bind fun p4 =>
    if 0 ≤ (x12 : Int) ∧ x12 < ((x4n : Nat) : Int) then
    ((ldA h p4.1 (p4.2 + Int.toNat x12 * 1)).bind fun v5 =>
    (asI .i64 v5).bind fun n6 =>
    (call Y 7 [(.int .i64 n6)] h (nx + 11)).bind fun r7 =>
    (asStr r7.1).bind fun s8 =>
    let h9 := AHeap.put r7.2.1 (nx + 7) (some ⟨[(.str s8)], 1, true⟩)
    (srcS h9 (some ((nx + 7), 0)) 1 1).bind fun q10 =>
    (appD h9 s3.1 s3.2.1 s3.2.2 1 16 (nx + 8) q10).bind fun e11 =>
    let h12 := AHeap.puts h9 e11.sets
    (x11).bind fun p13 =>
    (stA h12 p13.1 (p13.2 + 4) (.slice e11.a e11.n e11.c) 1).bind fun b14 =>
    let h15 := AHeap.put h12 p13.1 (some b14)
    ifApart [([(nx + 7)], [p1.1])]
    (ifKept [(h, r7.2.1, [p1.1])]
    (F3_L1' J J call Y lf n0 x3 x4a x4n x4c x11 (wrapA .i64 (x12 + 1)) h15 (r7.2.2 + 3))))
    else none := by kernel_rfl

theorem F3_J2_eq (call : YldF → CallF) (Y : YldF) (lf : Nat) (n0 : Nat) (x3 : Bool) (x4a : Option (Nat × Nat)) (x4n : Nat) (x4c : Option Nat) (x11 : Option (Nat × Nat)) (x12 : Int) (h : AHeap) (nx : Nat) : F3_J2 call Y lf n0 x3 x4a x4n x4c x11 x12 h nx =
    (x11).bind fun p1 =>
    (ldA h p1.1 (p1.2 + 4)).bind fun v2 =>
    (asSl v2).bind fun s3 =>
    (x4a).bind fun p4 =>
    if 0 ≤ (x12 : Int) ∧ x12 < ((x4n : Nat) : Int) then
    ((ldA h p4.1 (p4.2 + Int.toNat x12 * 1)).bind fun v5 =>
    (asI .i64 v5).bind fun n6 =>
    (call Y 7 [(.int .i64 n6)] h (nx + 11)).bind fun r7 =>
    (asStr r7.1).bind fun s8 =>
    let h9 := AHeap.put r7.2.1 (nx + 7) (some ⟨[(.str s8)], 1, true⟩)
    (srcS h9 (some ((nx + 7), 0)) 1 1).bind fun q10 =>
    (appD h9 s3.1 s3.2.1 s3.2.2 1 16 (nx + 8) q10).bind fun e11 =>
    let h12 := AHeap.puts h9 e11.sets
    (x11).bind fun p13 =>
    (stA h12 p13.1 (p13.2 + 4) (.slice e11.a e11.n e11.c) 1).bind fun b14 =>
    let h15 := AHeap.put h12 p13.1 (some b14)
    ifApart [([(nx + 7)], [p1.1])]
    (ifKept [(h, r7.2.1, [p1.1])]
    (F3_L1 call Y lf n0 x3 x4a x4n x4c x11 (wrapA .i64 (x12 + 1)) h15 (r7.2.2 + 3))))
    else none := F3_J2_eq' go1 call Y lf n0 x3 x4a x4n x4c x11 x12 h nx

theorem F3_J3_eq' (J : StepF (AV × AHeap × Nat) → StepF (AV × AHeap × Nat)) (call : YldF → CallF) (Y : YldF) (lf : Nat) (x3 : Bool) (x4a : Option (Nat × Nat)) (x4n : Nat) (x4c : Option Nat) (x11 : Option (Nat × Nat)) (h : AHeap) (nx : Nat) : F3_J3' go1 J call Y lf x3 x4a x4n x4c x11 h nx =
    (x11).bind fun p1 =>
    (ldR h p1.1 p1.2 5).bind fun l2 =>
    (asAgg 5 (AV.agg l2)).bind fun d3 =>
    (asI .i64 (d3.getD 0 .bad)).bind fun n4 =>
    (asB (d3.getD 1 .bad)).bind fun t5 =>
    (asI .i64 (d3.getD 2 .bad)).bind fun n6 =>
    (asSl (d3.getD 3 .bad)).bind fun s7 =>
    (asSl (d3.getD 4 .bad)).bind fun s8 =>
    (call Y 8 [(.agg [(.int .i64 n4), (.bool t5), (.int .i64 n6), (.slice s7.1 s7.2.1 s7.2.2), (.slice s8.1 s8.2.1 s8.2.2)])] h (nx + 7)).bind fun r9 =>
    (asTup 2 r9.1).bind fun d10 =>
    (asStr (d10.getD 0 .bad)).bind fun s11 =>
    (asI .i64 (d10.getD 1 .bad)).bind fun n12 =>
    (call Y 9 [(.str s11)] r9.2.1 (r9.2.2 + 8)).bind fun r13 =>
    (asTup 2 r13.1).bind fun d14 =>
    (asAgg 5 (d14.getD 0 .bad)).bind fun d15 =>
    (asI .i64 (d15.getD 0 .bad)).bind fun n16 =>
    (asB (d15.getD 1 .bad)).bind fun t17 =>
    (asI .i64 (d15.getD 2 .bad)).bind fun n18 =>
    (asSl (d15.getD 3 .bad)).bind fun s19 =>
    (asSl (d15.getD 4 .bad)).bind fun s20 =>
    (asI .i64 (d14.getD 1 .bad)).bind fun n21 =>
    let h22 := AHeap.put r13.2.1 (r9.2.2 + 5) (some ⟨[(.int .i64 0), (.bool false), (.int .i64 0), (.slice none 0 none), (.slice none 0 none)], 5, true⟩)
    (stA h22 (r9.2.2 + 5) 0 (.agg [(.int .i64 n16), (.bool t17), (.int .i64 n18), (.slice s19.1 s19.2.1 s19.2.2), (.slice s20.1 s20.2.1 s20.2.2)]) 5).bind fun b23 =>
    let h24 := AHeap.put h22 (r9.2.2 + 5) (some b23)
    if (((s11.size + (ByteArray.mk #[32, 100, 111, 110, 101]).size : Nat) : Int)) > 9223372036854775807 then none else
    ((call Y 9 [(.str (s11 ++ (ByteArray.mk #[32, 100, 111, 110, 101])))] h24 (r13.2.2 + 9)).bind fun r25 =>
    (asTup 2 r25.1).bind fun d26 =>
    (asAgg 5 (d26.getD 0 .bad)).bind fun d27 =>
    (asI .i64 (d27.getD 0 .bad)).bind fun n28 =>
    (asB (d27.getD 1 .bad)).bind fun t29 =>
    (asI .i64 (d27.getD 2 .bad)).bind fun n30 =>
    (asSl (d27.getD 3 .bad)).bind fun s31 =>
    (asSl (d27.getD 4 .bad)).bind fun s32 =>
    (asI .i64 (d26.getD 1 .bad)).bind fun n33 =>
    let h34 := AHeap.put r25.2.1 (r13.2.2 + 6) (some ⟨[(.int .i64 0), (.bool false), (.int .i64 0), (.slice none 0 none), (.slice none 0 none)], 5, true⟩)
    (stA h34 (r13.2.2 + 6) 0 (.agg [(.int .i64 n28), (.bool t29), (.int .i64 n30), (.slice s31.1 s31.2.1 s31.2.2), (.slice s32.1 s32.2.1 s32.2.2)]) 5).bind fun b35 =>
    let h36 := AHeap.put h34 (r13.2.2 + 6) (some b35)
    if ((n12 : Int) == 0) = true then
    (if ((n21 : Int) == 0) = true then
    ((ldR h36 (r9.2.2 + 5) 0 5).bind fun l37 =>
    (asAgg 5 (AV.agg l37)).bind fun d38 =>
    (asI .i64 (d38.getD 0 .bad)).bind fun n39 =>
    (asB (d38.getD 1 .bad)).bind fun t40 =>
    (asI .i64 (d38.getD 2 .bad)).bind fun n41 =>
    (asSl (d38.getD 3 .bad)).bind fun s42 =>
    (asSl (d38.getD 4 .bad)).bind fun s43 =>
    (x11).bind fun p44 =>
    (ldR h36 p44.1 p44.2 5).bind fun l45 =>
    (asAgg 5 (AV.agg l45)).bind fun d46 =>
    (asI .i64 (d46.getD 0 .bad)).bind fun n47 =>
    (asB (d46.getD 1 .bad)).bind fun t48 =>
    (asI .i64 (d46.getD 2 .bad)).bind fun n49 =>
    (asSl (d46.getD 3 .bad)).bind fun s50 =>
    (asSl (d46.getD 4 .bad)).bind fun s51 =>
    (call Y 10 [(.agg [(.int .i64 n39), (.bool t40), (.int .i64 n41), (.slice s42.1 s42.2.1 s42.2.2), (.slice s43.1 s43.2.1 s43.2.2)]), (.agg [(.int .i64 n47), (.bool t48), (.int .i64 n49), (.slice s50.1 s50.2.1 s50.2.2), (.slice s51.1 s51.2.1 s51.2.2)])] h36 (r25.2.2 + 24)).bind fun r52 =>
    (asB r52.1).bind fun t53 =>
    if t53 = true then
    (if (!x3) = true then
    (some ((.bool (((n33 : Int) == 0) == ((((x4n : Nat) : Int) : Int) == 0))), r52.2.1, r52.2.2))
    else
    (some ((.bool (((n33 : Int) == 0) == false)), r52.2.1, r52.2.2)))
    else
    (some ((.bool false), r52.2.1, r52.2.2)))
    else
    (some ((.bool false), h36, (r25.2.2 + 24))))
    else
    (some ((.bool false), h36, (r25.2.2 + 24)))) := by kernel_rfl

theorem F3_J3_eq (call : YldF → CallF) (Y : YldF) (lf : Nat) (x3 : Bool) (x4a : Option (Nat × Nat)) (x4n : Nat) (x4c : Option Nat) (x11 : Option (Nat × Nat)) (h : AHeap) (nx : Nat) : F3_J3 call Y lf x3 x4a x4n x4c x11 h nx =
    (x11).bind fun p1 =>
    (ldR h p1.1 p1.2 5).bind fun l2 =>
    (asAgg 5 (AV.agg l2)).bind fun d3 =>
    (asI .i64 (d3.getD 0 .bad)).bind fun n4 =>
    (asB (d3.getD 1 .bad)).bind fun t5 =>
    (asI .i64 (d3.getD 2 .bad)).bind fun n6 =>
    (asSl (d3.getD 3 .bad)).bind fun s7 =>
    (asSl (d3.getD 4 .bad)).bind fun s8 =>
    (call Y 8 [(.agg [(.int .i64 n4), (.bool t5), (.int .i64 n6), (.slice s7.1 s7.2.1 s7.2.2), (.slice s8.1 s8.2.1 s8.2.2)])] h (nx + 7)).bind fun r9 =>
    (asTup 2 r9.1).bind fun d10 =>
    (asStr (d10.getD 0 .bad)).bind fun s11 =>
    (asI .i64 (d10.getD 1 .bad)).bind fun n12 =>
    (call Y 9 [(.str s11)] r9.2.1 (r9.2.2 + 8)).bind fun r13 =>
    (asTup 2 r13.1).bind fun d14 =>
    (asAgg 5 (d14.getD 0 .bad)).bind fun d15 =>
    (asI .i64 (d15.getD 0 .bad)).bind fun n16 =>
    (asB (d15.getD 1 .bad)).bind fun t17 =>
    (asI .i64 (d15.getD 2 .bad)).bind fun n18 =>
    (asSl (d15.getD 3 .bad)).bind fun s19 =>
    (asSl (d15.getD 4 .bad)).bind fun s20 =>
    (asI .i64 (d14.getD 1 .bad)).bind fun n21 =>
    let h22 := AHeap.put r13.2.1 (r9.2.2 + 5) (some ⟨[(.int .i64 0), (.bool false), (.int .i64 0), (.slice none 0 none), (.slice none 0 none)], 5, true⟩)
    (stA h22 (r9.2.2 + 5) 0 (.agg [(.int .i64 n16), (.bool t17), (.int .i64 n18), (.slice s19.1 s19.2.1 s19.2.2), (.slice s20.1 s20.2.1 s20.2.2)]) 5).bind fun b23 =>
    let h24 := AHeap.put h22 (r9.2.2 + 5) (some b23)
    if (((s11.size + (ByteArray.mk #[32, 100, 111, 110, 101]).size : Nat) : Int)) > 9223372036854775807 then none else
    ((call Y 9 [(.str (s11 ++ (ByteArray.mk #[32, 100, 111, 110, 101])))] h24 (r13.2.2 + 9)).bind fun r25 =>
    (asTup 2 r25.1).bind fun d26 =>
    (asAgg 5 (d26.getD 0 .bad)).bind fun d27 =>
    (asI .i64 (d27.getD 0 .bad)).bind fun n28 =>
    (asB (d27.getD 1 .bad)).bind fun t29 =>
    (asI .i64 (d27.getD 2 .bad)).bind fun n30 =>
    (asSl (d27.getD 3 .bad)).bind fun s31 =>
    (asSl (d27.getD 4 .bad)).bind fun s32 =>
    (asI .i64 (d26.getD 1 .bad)).bind fun n33 =>
    let h34 := AHeap.put r25.2.1 (r13.2.2 + 6) (some ⟨[(.int .i64 0), (.bool false), (.int .i64 0), (.slice none 0 none), (.slice none 0 none)], 5, true⟩)
    (stA h34 (r13.2.2 + 6) 0 (.agg [(.int .i64 n28), (.bool t29), (.int .i64 n30), (.slice s31.1 s31.2.1 s31.2.2), (.slice s32.1 s32.2.1 s32.2.2)]) 5).bind fun b35 =>
    let h36 := AHeap.put h34 (r13.2.2 + 6) (some b35)
    if ((n12 : Int) == 0) = true then
    (if ((n21 : Int) == 0) = true then
    ((ldR h36 (r9.2.2 + 5) 0 5).bind fun l37 =>
    (asAgg 5 (AV.agg l37)).bind fun d38 =>
    (asI .i64 (d38.getD 0 .bad)).bind fun n39 =>
    (asB (d38.getD 1 .bad)).bind fun t40 =>
    (asI .i64 (d38.getD 2 .bad)).bind fun n41 =>
    (asSl (d38.getD 3 .bad)).bind fun s42 =>
    (asSl (d38.getD 4 .bad)).bind fun s43 =>
    (x11).bind fun p44 =>
    (ldR h36 p44.1 p44.2 5).bind fun l45 =>
    (asAgg 5 (AV.agg l45)).bind fun d46 =>
    (asI .i64 (d46.getD 0 .bad)).bind fun n47 =>
    (asB (d46.getD 1 .bad)).bind fun t48 =>
    (asI .i64 (d46.getD 2 .bad)).bind fun n49 =>
    (asSl (d46.getD 3 .bad)).bind fun s50 =>
    (asSl (d46.getD 4 .bad)).bind fun s51 =>
    (call Y 10 [(.agg [(.int .i64 n39), (.bool t40), (.int .i64 n41), (.slice s42.1 s42.2.1 s42.2.2), (.slice s43.1 s43.2.1 s43.2.2)]), (.agg [(.int .i64 n47), (.bool t48), (.int .i64 n49), (.slice s50.1 s50.2.1 s50.2.2), (.slice s51.1 s51.2.1 s51.2.2)])] h36 (r25.2.2 + 24)).bind fun r52 =>
    (asB r52.1).bind fun t53 =>
    if t53 = true then
    (if (!x3) = true then
    (some ((.bool (((n33 : Int) == 0) == ((((x4n : Nat) : Int) : Int) == 0))), r52.2.1, r52.2.2))
    else
    (some ((.bool (((n33 : Int) == 0) == false)), r52.2.1, r52.2.2)))
    else
    (some ((.bool false), r52.2.1, r52.2.2)))
    else
    (some ((.bool false), h36, (r25.2.2 + 24))))
    else
    (some ((.bool false), h36, (r25.2.2 + 24)))) := F3_J3_eq' go1 call Y lf x3 x4a x4n x4c x11 h nx

theorem F3_eq' (J : StepF (AV × AHeap × Nat) → StepF (AV × AHeap × Nat)) (n : Nat) (Y : YldF) (x0 : Int) (x1 : Int) (x2a : Option (Nat × Nat)) (x2n : Nat) (x2c : Option Nat) (x3 : Bool) (x4a : Option (Nat × Nat)) (x4n : Nat) (x4c : Option Nat) (h : AHeap) (nx : Nat) : rootJ J Tryd.prog keepT (callP Tryd.prog keepT n) Y n 3 [(.int .i64 x0), (.int .i64 x1), (.slice x2a x2n x2c), (.bool x3), (.slice x4a x4n x4c)] h nx =
    ((callP Tryd.prog keepT n) Y 6 [(.int .i64 x0), (.int .i64 14)] h (nx + 11)).bind fun r1 =>
    (asI .i64 r1.1).bind fun n2 =>
    ((callP Tryd.prog keepT n) Y 6 [(.int .i64 x1), (.int .i64 1099511627776)] r1.2.1 r1.2.2).bind fun r3 =>
    (asI .i64 r3.1).bind fun n4 =>
    (srcS r3.2.1 x2a x2n 1).bind fun q5 =>
    (appD r3.2.1 none 0 none 1 1 (nx + 6) q5).bind fun e6 =>
    let h7 := AHeap.puts r3.2.1 e6.sets
    let h8 := AHeap.put h7 (nx + 9) (some ⟨[(.int .i64 0), (.bool false), (.int .i64 0), (.slice none 0 none), (.slice none 0 none)], 5, true⟩)
    (stA h8 (nx + 9) 0 (.agg [(.int .i64 n2), (.bool x3), (.int .i64 n4), (.slice e6.a e6.n e6.c), (.slice none 0 none)]) 5).bind fun b9 =>
    let h10 := AHeap.put h8 (nx + 9) (some b9)
    F3_L1' J J (callP Tryd.prog keepT n) Y n n x3 x4a x4n x4c (some ((nx + 9), 0)) 0 h10 (r3.2.2 + 1) := by kernel_rfl

/-- quickset/quicksetkeep.ToldBack -/
theorem F3_eq (n : Nat) (Y : YldF) (x0 : Int) (x1 : Int) (x2a : Option (Nat × Nat)) (x2n : Nat) (x2c : Option Nat) (x3 : Bool) (x4a : Option (Nat × Nat)) (x4n : Nat) (x4c : Option Nat) (h : AHeap) (nx : Nat) : callP Tryd.prog keepT (n + 1) Y 3 [(.int .i64 x0), (.int .i64 x1), (.slice x2a x2n x2c), (.bool x3), (.slice x4a x4n x4c)] h nx =
    ((callP Tryd.prog keepT n) Y 6 [(.int .i64 x0), (.int .i64 14)] h (nx + 11)).bind fun r1 =>
    (asI .i64 r1.1).bind fun n2 =>
    ((callP Tryd.prog keepT n) Y 6 [(.int .i64 x1), (.int .i64 1099511627776)] r1.2.1 r1.2.2).bind fun r3 =>
    (asI .i64 r3.1).bind fun n4 =>
    (srcS r3.2.1 x2a x2n 1).bind fun q5 =>
    (appD r3.2.1 none 0 none 1 1 (nx + 6) q5).bind fun e6 =>
    let h7 := AHeap.puts r3.2.1 e6.sets
    let h8 := AHeap.put h7 (nx + 9) (some ⟨[(.int .i64 0), (.bool false), (.int .i64 0), (.slice none 0 none), (.slice none 0 none)], 5, true⟩)
    (stA h8 (nx + 9) 0 (.agg [(.int .i64 n2), (.bool x3), (.int .i64 n4), (.slice e6.a e6.n e6.c), (.slice none 0 none)]) 5).bind fun b9 =>
    let h10 := AHeap.put h8 (nx + 9) (some b9)
    F3_L1 (callP Tryd.prog keepT n) Y n n x3 x4a x4n x4c (some ((nx + 9), 0)) 0 h10 (r3.2.2 + 1) := F3_eq' go1 n Y x0 x1 x2a x2n x2c x3 x4a x4n x4c h nx

noncomputable def c4 : Code := (Tryd.f4.body).getD .skip

noncomputable def r4 : List ResultVar := Tryd.f4.results.toList

theorem F4_eq' (J : StepF (AV × AHeap × Nat) → StepF (AV × AHeap × Nat)) (n : Nat) (Y : YldF) (x0_0 : Int) (x0_1 : Int) (x0_2 : Int) (x0_3 : Int) (x0_4 : Int) (x0_5a : Option (Nat × Nat)) (x0_5n : Nat) (x0_5c : Option Nat) (x1 : Int) (x2 : Int) (h : AHeap) (nx : Nat) : rootJ J Tryd.prog keepT (callP Tryd.prog keepT n) Y n 4 [(.agg [(.int .i64 x0_0), (.int .i64 x0_1), (.int .i64 x0_2), (.int .i64 x0_3), (.int .i64 x0_4), (.slice x0_5a x0_5n x0_5c)]), (.int .i64 x1), (.int .i64 x2)] h nx =
    let h1 := AHeap.put h nx (some ⟨[(.int .i64 x0_0), (.int .i64 x0_1), (.int .i64 x0_2), (.int .i64 x0_3), (.int .i64 x0_4), (.slice x0_5a x0_5n x0_5c)], 6, true⟩)
    (ldR h1 nx 0 6).bind fun l2 =>
    (asAgg 6 (AV.agg l2)).bind fun d3 =>
    (asI .i64 (d3.getD 0 .bad)).bind fun n4 =>
    (asI .i64 (d3.getD 1 .bad)).bind fun n5 =>
    (asI .i64 (d3.getD 2 .bad)).bind fun n6 =>
    (asI .i64 (d3.getD 3 .bad)).bind fun n7 =>
    (asI .i64 (d3.getD 4 .bad)).bind fun n8 =>
    (asSl (d3.getD 5 .bad)).bind fun s9 =>
    ((callP Tryd.prog keepT n) Y 11 [(.agg [(.int .i64 n4), (.int .i64 n5), (.int .i64 n6), (.int .i64 n7), (.int .i64 n8), (.slice s9.1 s9.2.1 s9.2.2)]), (.int .i64 x1), (.int .i64 x2)] h1 (nx + 8)).bind fun r10 =>
    (asAgg 8 r10.1).bind fun d11 =>
    (asI .i64 (d11.getD 0 .bad)).bind fun n12 =>
    (asStr (d11.getD 1 .bad)).bind fun s13 =>
    (asStr (d11.getD 2 .bad)).bind fun s14 =>
    (asI .i64 (d11.getD 3 .bad)).bind fun n15 =>
    (asI .i64 (d11.getD 4 .bad)).bind fun n16 =>
    (asI .i64 (d11.getD 5 .bad)).bind fun n17 =>
    (asI .i64 (d11.getD 6 .bad)).bind fun n18 =>
    (asSl (d11.getD 7 .bad)).bind fun s19 =>
    let h20 := AHeap.put r10.2.1 (nx + 6) (some ⟨[(.int .i64 0), (.str (ByteArray.mk #[])), (.str (ByteArray.mk #[])), (.int .i64 0), (.int .i64 0), (.int .i64 0), (.int .i64 0), (.slice none 0 none)], 8, true⟩)
    (stA h20 (nx + 6) 0 (.agg [(.int .i64 n12), (.str s13), (.str s14), (.int .i64 n15), (.int .i64 n16), (.int .i64 n17), (.int .i64 n18), (.slice s19.1 s19.2.1 s19.2.2)]) 8).bind fun b21 =>
    let h22 := AHeap.put h20 (nx + 6) (some b21)
    (ldR h22 (nx + 6) 0 8).bind fun l23 =>
    (asAgg 8 (AV.agg l23)).bind fun d24 =>
    (asI .i64 (d24.getD 0 .bad)).bind fun n25 =>
    (asStr (d24.getD 1 .bad)).bind fun s26 =>
    (asStr (d24.getD 2 .bad)).bind fun s27 =>
    (asI .i64 (d24.getD 3 .bad)).bind fun n28 =>
    (asI .i64 (d24.getD 4 .bad)).bind fun n29 =>
    (asI .i64 (d24.getD 5 .bad)).bind fun n30 =>
    (asI .i64 (d24.getD 6 .bad)).bind fun n31 =>
    (asSl (d24.getD 7 .bad)).bind fun s32 =>
    ((callP Tryd.prog keepT n) Y 12 [(.agg [(.int .i64 n25), (.str s26), (.str s27), (.int .i64 n28), (.int .i64 n29), (.int .i64 n30), (.int .i64 n31), (.slice s32.1 s32.2.1 s32.2.2)])] h22 (r10.2.2 + 7)).bind fun r33 =>
    (asTup 2 r33.1).bind fun d34 =>
    (asStr (d34.getD 0 .bad)).bind fun s35 =>
    (asI .i64 (d34.getD 1 .bad)).bind fun n36 =>
    ((callP Tryd.prog keepT n) Y 13 [(.str s35)] r33.2.1 (r33.2.2 + 8)).bind fun r37 =>
    (asTup 2 r37.1).bind fun d38 =>
    (asAgg 8 (d38.getD 0 .bad)).bind fun d39 =>
    (asI .i64 (d39.getD 0 .bad)).bind fun n40 =>
    (asStr (d39.getD 1 .bad)).bind fun s41 =>
    (asStr (d39.getD 2 .bad)).bind fun s42 =>
    (asI .i64 (d39.getD 3 .bad)).bind fun n43 =>
    (asI .i64 (d39.getD 4 .bad)).bind fun n44 =>
    (asI .i64 (d39.getD 5 .bad)).bind fun n45 =>
    (asI .i64 (d39.getD 6 .bad)).bind fun n46 =>
    (asSl (d39.getD 7 .bad)).bind fun s47 =>
    (asI .i64 (d38.getD 1 .bad)).bind fun n48 =>
    let h49 := AHeap.put r37.2.1 (r33.2.2 + 5) (some ⟨[(.int .i64 0), (.str (ByteArray.mk #[])), (.str (ByteArray.mk #[])), (.int .i64 0), (.int .i64 0), (.int .i64 0), (.int .i64 0), (.slice none 0 none)], 8, true⟩)
    (stA h49 (r33.2.2 + 5) 0 (.agg [(.int .i64 n40), (.str s41), (.str s42), (.int .i64 n43), (.int .i64 n44), (.int .i64 n45), (.int .i64 n46), (.slice s47.1 s47.2.1 s47.2.2)]) 8).bind fun b50 =>
    let h51 := AHeap.put h49 (r33.2.2 + 5) (some b50)
    if (((s35.size + (ByteArray.mk #[32]).size : Nat) : Int)) > 9223372036854775807 then none else
    (((callP Tryd.prog keepT n) Y 13 [(.str (s35 ++ (ByteArray.mk #[32])))] h51 (r37.2.2 + 9)).bind fun r52 =>
    (asTup 2 r52.1).bind fun d53 =>
    (asAgg 8 (d53.getD 0 .bad)).bind fun d54 =>
    (asI .i64 (d54.getD 0 .bad)).bind fun n55 =>
    (asStr (d54.getD 1 .bad)).bind fun s56 =>
    (asStr (d54.getD 2 .bad)).bind fun s57 =>
    (asI .i64 (d54.getD 3 .bad)).bind fun n58 =>
    (asI .i64 (d54.getD 4 .bad)).bind fun n59 =>
    (asI .i64 (d54.getD 5 .bad)).bind fun n60 =>
    (asI .i64 (d54.getD 6 .bad)).bind fun n61 =>
    (asSl (d54.getD 7 .bad)).bind fun s62 =>
    (asI .i64 (d53.getD 1 .bad)).bind fun n63 =>
    let h64 := AHeap.put r52.2.1 (r37.2.2 + 6) (some ⟨[(.int .i64 0), (.str (ByteArray.mk #[])), (.str (ByteArray.mk #[])), (.int .i64 0), (.int .i64 0), (.int .i64 0), (.int .i64 0), (.slice none 0 none)], 8, true⟩)
    (stA h64 (r37.2.2 + 6) 0 (.agg [(.int .i64 n55), (.str s56), (.str s57), (.int .i64 n58), (.int .i64 n59), (.int .i64 n60), (.int .i64 n61), (.slice s62.1 s62.2.1 s62.2.2)]) 8).bind fun b65 =>
    let h66 := AHeap.put h64 (r37.2.2 + 6) (some b65)
    if ((((ByteArray.mk #[32]).size + s35.size : Nat) : Int)) > 9223372036854775807 then none else
    (((callP Tryd.prog keepT n) Y 13 [(.str ((ByteArray.mk #[32]) ++ s35))] h66 (r52.2.2 + 9)).bind fun r67 =>
    (asTup 2 r67.1).bind fun d68 =>
    (asAgg 8 (d68.getD 0 .bad)).bind fun d69 =>
    (asI .i64 (d69.getD 0 .bad)).bind fun n70 =>
    (asStr (d69.getD 1 .bad)).bind fun s71 =>
    (asStr (d69.getD 2 .bad)).bind fun s72 =>
    (asI .i64 (d69.getD 3 .bad)).bind fun n73 =>
    (asI .i64 (d69.getD 4 .bad)).bind fun n74 =>
    (asI .i64 (d69.getD 5 .bad)).bind fun n75 =>
    (asI .i64 (d69.getD 6 .bad)).bind fun n76 =>
    (asSl (d69.getD 7 .bad)).bind fun s77 =>
    (asI .i64 (d68.getD 1 .bad)).bind fun n78 =>
    let h79 := AHeap.put r67.2.1 (r52.2.2 + 6) (some ⟨[(.int .i64 0), (.str (ByteArray.mk #[])), (.str (ByteArray.mk #[])), (.int .i64 0), (.int .i64 0), (.int .i64 0), (.int .i64 0), (.slice none 0 none)], 8, true⟩)
    (stA h79 (r52.2.2 + 6) 0 (.agg [(.int .i64 n70), (.str s71), (.str s72), (.int .i64 n73), (.int .i64 n74), (.int .i64 n75), (.int .i64 n76), (.slice s77.1 s77.2.1 s77.2.2)]) 8).bind fun b80 =>
    let h81 := AHeap.put h79 (r52.2.2 + 6) (some b80)
    if ((n36 : Int) == 0) = true then
    (if ((n48 : Int) == 0) = true then
    (if ((n63 : Int) == 4) = true then
    (if ((n78 : Int) == 4) = true then
    (if (decide ((((ByteArray.size s35 : Nat) : Int) : Int) > 0)) = true then
    ((ldR h81 (nx + 6) 0 8).bind fun l82 =>
    (asAgg 8 (AV.agg l82)).bind fun d83 =>
    (asI .i64 (d83.getD 0 .bad)).bind fun n84 =>
    (asStr (d83.getD 1 .bad)).bind fun s85 =>
    (asStr (d83.getD 2 .bad)).bind fun s86 =>
    (asI .i64 (d83.getD 3 .bad)).bind fun n87 =>
    (asI .i64 (d83.getD 4 .bad)).bind fun n88 =>
    (asI .i64 (d83.getD 5 .bad)).bind fun n89 =>
    (asI .i64 (d83.getD 6 .bad)).bind fun n90 =>
    (asSl (d83.getD 7 .bad)).bind fun s91 =>
    (ldR h81 (r33.2.2 + 5) 0 8).bind fun l92 =>
    (asAgg 8 (AV.agg l92)).bind fun d93 =>
    (asI .i64 (d93.getD 0 .bad)).bind fun n94 =>
    (asStr (d93.getD 1 .bad)).bind fun s95 =>
    (asStr (d93.getD 2 .bad)).bind fun s96 =>
    (asI .i64 (d93.getD 3 .bad)).bind fun n97 =>
    (asI .i64 (d93.getD 4 .bad)).bind fun n98 =>
    (asI .i64 (d93.getD 5 .bad)).bind fun n99 =>
    (asI .i64 (d93.getD 6 .bad)).bind fun n100 =>
    (asSl (d93.getD 7 .bad)).bind fun s101 =>
    ((callP Tryd.prog keepT n) Y 14 [(.agg [(.int .i64 n84), (.str s85), (.str s86), (.int .i64 n87), (.int .i64 n88), (.int .i64 n89), (.int .i64 n90), (.slice s91.1 s91.2.1 s91.2.2)]), (.agg [(.int .i64 n94), (.str s95), (.str s96), (.int .i64 n97), (.int .i64 n98), (.int .i64 n99), (.int .i64 n100), (.slice s101.1 s101.2.1 s101.2.2)])] h81 (r67.2.2 + 25)).bind fun r102 =>
    (asB r102.1).bind fun t103 =>
    some ((.bool t103), r102.2.1, r102.2.2))
    else
    (some ((.bool false), h81, (r67.2.2 + 25))))
    else
    (some ((.bool false), h81, (r67.2.2 + 25))))
    else
    (some ((.bool false), h81, (r67.2.2 + 25))))
    else
    (some ((.bool false), h81, (r67.2.2 + 25))))
    else
    (some ((.bool false), h81, (r67.2.2 + 25))))) := by kernel_rfl

/-- quickset/quicksetkeep.LineBack -/
theorem F4_eq (n : Nat) (Y : YldF) (x0_0 : Int) (x0_1 : Int) (x0_2 : Int) (x0_3 : Int) (x0_4 : Int) (x0_5a : Option (Nat × Nat)) (x0_5n : Nat) (x0_5c : Option Nat) (x1 : Int) (x2 : Int) (h : AHeap) (nx : Nat) : callP Tryd.prog keepT (n + 1) Y 4 [(.agg [(.int .i64 x0_0), (.int .i64 x0_1), (.int .i64 x0_2), (.int .i64 x0_3), (.int .i64 x0_4), (.slice x0_5a x0_5n x0_5c)]), (.int .i64 x1), (.int .i64 x2)] h nx =
    let h1 := AHeap.put h nx (some ⟨[(.int .i64 x0_0), (.int .i64 x0_1), (.int .i64 x0_2), (.int .i64 x0_3), (.int .i64 x0_4), (.slice x0_5a x0_5n x0_5c)], 6, true⟩)
    (ldR h1 nx 0 6).bind fun l2 =>
    (asAgg 6 (AV.agg l2)).bind fun d3 =>
    (asI .i64 (d3.getD 0 .bad)).bind fun n4 =>
    (asI .i64 (d3.getD 1 .bad)).bind fun n5 =>
    (asI .i64 (d3.getD 2 .bad)).bind fun n6 =>
    (asI .i64 (d3.getD 3 .bad)).bind fun n7 =>
    (asI .i64 (d3.getD 4 .bad)).bind fun n8 =>
    (asSl (d3.getD 5 .bad)).bind fun s9 =>
    ((callP Tryd.prog keepT n) Y 11 [(.agg [(.int .i64 n4), (.int .i64 n5), (.int .i64 n6), (.int .i64 n7), (.int .i64 n8), (.slice s9.1 s9.2.1 s9.2.2)]), (.int .i64 x1), (.int .i64 x2)] h1 (nx + 8)).bind fun r10 =>
    (asAgg 8 r10.1).bind fun d11 =>
    (asI .i64 (d11.getD 0 .bad)).bind fun n12 =>
    (asStr (d11.getD 1 .bad)).bind fun s13 =>
    (asStr (d11.getD 2 .bad)).bind fun s14 =>
    (asI .i64 (d11.getD 3 .bad)).bind fun n15 =>
    (asI .i64 (d11.getD 4 .bad)).bind fun n16 =>
    (asI .i64 (d11.getD 5 .bad)).bind fun n17 =>
    (asI .i64 (d11.getD 6 .bad)).bind fun n18 =>
    (asSl (d11.getD 7 .bad)).bind fun s19 =>
    let h20 := AHeap.put r10.2.1 (nx + 6) (some ⟨[(.int .i64 0), (.str (ByteArray.mk #[])), (.str (ByteArray.mk #[])), (.int .i64 0), (.int .i64 0), (.int .i64 0), (.int .i64 0), (.slice none 0 none)], 8, true⟩)
    (stA h20 (nx + 6) 0 (.agg [(.int .i64 n12), (.str s13), (.str s14), (.int .i64 n15), (.int .i64 n16), (.int .i64 n17), (.int .i64 n18), (.slice s19.1 s19.2.1 s19.2.2)]) 8).bind fun b21 =>
    let h22 := AHeap.put h20 (nx + 6) (some b21)
    (ldR h22 (nx + 6) 0 8).bind fun l23 =>
    (asAgg 8 (AV.agg l23)).bind fun d24 =>
    (asI .i64 (d24.getD 0 .bad)).bind fun n25 =>
    (asStr (d24.getD 1 .bad)).bind fun s26 =>
    (asStr (d24.getD 2 .bad)).bind fun s27 =>
    (asI .i64 (d24.getD 3 .bad)).bind fun n28 =>
    (asI .i64 (d24.getD 4 .bad)).bind fun n29 =>
    (asI .i64 (d24.getD 5 .bad)).bind fun n30 =>
    (asI .i64 (d24.getD 6 .bad)).bind fun n31 =>
    (asSl (d24.getD 7 .bad)).bind fun s32 =>
    ((callP Tryd.prog keepT n) Y 12 [(.agg [(.int .i64 n25), (.str s26), (.str s27), (.int .i64 n28), (.int .i64 n29), (.int .i64 n30), (.int .i64 n31), (.slice s32.1 s32.2.1 s32.2.2)])] h22 (r10.2.2 + 7)).bind fun r33 =>
    (asTup 2 r33.1).bind fun d34 =>
    (asStr (d34.getD 0 .bad)).bind fun s35 =>
    (asI .i64 (d34.getD 1 .bad)).bind fun n36 =>
    ((callP Tryd.prog keepT n) Y 13 [(.str s35)] r33.2.1 (r33.2.2 + 8)).bind fun r37 =>
    (asTup 2 r37.1).bind fun d38 =>
    (asAgg 8 (d38.getD 0 .bad)).bind fun d39 =>
    (asI .i64 (d39.getD 0 .bad)).bind fun n40 =>
    (asStr (d39.getD 1 .bad)).bind fun s41 =>
    (asStr (d39.getD 2 .bad)).bind fun s42 =>
    (asI .i64 (d39.getD 3 .bad)).bind fun n43 =>
    (asI .i64 (d39.getD 4 .bad)).bind fun n44 =>
    (asI .i64 (d39.getD 5 .bad)).bind fun n45 =>
    (asI .i64 (d39.getD 6 .bad)).bind fun n46 =>
    (asSl (d39.getD 7 .bad)).bind fun s47 =>
    (asI .i64 (d38.getD 1 .bad)).bind fun n48 =>
    let h49 := AHeap.put r37.2.1 (r33.2.2 + 5) (some ⟨[(.int .i64 0), (.str (ByteArray.mk #[])), (.str (ByteArray.mk #[])), (.int .i64 0), (.int .i64 0), (.int .i64 0), (.int .i64 0), (.slice none 0 none)], 8, true⟩)
    (stA h49 (r33.2.2 + 5) 0 (.agg [(.int .i64 n40), (.str s41), (.str s42), (.int .i64 n43), (.int .i64 n44), (.int .i64 n45), (.int .i64 n46), (.slice s47.1 s47.2.1 s47.2.2)]) 8).bind fun b50 =>
    let h51 := AHeap.put h49 (r33.2.2 + 5) (some b50)
    if (((s35.size + (ByteArray.mk #[32]).size : Nat) : Int)) > 9223372036854775807 then none else
    (((callP Tryd.prog keepT n) Y 13 [(.str (s35 ++ (ByteArray.mk #[32])))] h51 (r37.2.2 + 9)).bind fun r52 =>
    (asTup 2 r52.1).bind fun d53 =>
    (asAgg 8 (d53.getD 0 .bad)).bind fun d54 =>
    (asI .i64 (d54.getD 0 .bad)).bind fun n55 =>
    (asStr (d54.getD 1 .bad)).bind fun s56 =>
    (asStr (d54.getD 2 .bad)).bind fun s57 =>
    (asI .i64 (d54.getD 3 .bad)).bind fun n58 =>
    (asI .i64 (d54.getD 4 .bad)).bind fun n59 =>
    (asI .i64 (d54.getD 5 .bad)).bind fun n60 =>
    (asI .i64 (d54.getD 6 .bad)).bind fun n61 =>
    (asSl (d54.getD 7 .bad)).bind fun s62 =>
    (asI .i64 (d53.getD 1 .bad)).bind fun n63 =>
    let h64 := AHeap.put r52.2.1 (r37.2.2 + 6) (some ⟨[(.int .i64 0), (.str (ByteArray.mk #[])), (.str (ByteArray.mk #[])), (.int .i64 0), (.int .i64 0), (.int .i64 0), (.int .i64 0), (.slice none 0 none)], 8, true⟩)
    (stA h64 (r37.2.2 + 6) 0 (.agg [(.int .i64 n55), (.str s56), (.str s57), (.int .i64 n58), (.int .i64 n59), (.int .i64 n60), (.int .i64 n61), (.slice s62.1 s62.2.1 s62.2.2)]) 8).bind fun b65 =>
    let h66 := AHeap.put h64 (r37.2.2 + 6) (some b65)
    if ((((ByteArray.mk #[32]).size + s35.size : Nat) : Int)) > 9223372036854775807 then none else
    (((callP Tryd.prog keepT n) Y 13 [(.str ((ByteArray.mk #[32]) ++ s35))] h66 (r52.2.2 + 9)).bind fun r67 =>
    (asTup 2 r67.1).bind fun d68 =>
    (asAgg 8 (d68.getD 0 .bad)).bind fun d69 =>
    (asI .i64 (d69.getD 0 .bad)).bind fun n70 =>
    (asStr (d69.getD 1 .bad)).bind fun s71 =>
    (asStr (d69.getD 2 .bad)).bind fun s72 =>
    (asI .i64 (d69.getD 3 .bad)).bind fun n73 =>
    (asI .i64 (d69.getD 4 .bad)).bind fun n74 =>
    (asI .i64 (d69.getD 5 .bad)).bind fun n75 =>
    (asI .i64 (d69.getD 6 .bad)).bind fun n76 =>
    (asSl (d69.getD 7 .bad)).bind fun s77 =>
    (asI .i64 (d68.getD 1 .bad)).bind fun n78 =>
    let h79 := AHeap.put r67.2.1 (r52.2.2 + 6) (some ⟨[(.int .i64 0), (.str (ByteArray.mk #[])), (.str (ByteArray.mk #[])), (.int .i64 0), (.int .i64 0), (.int .i64 0), (.int .i64 0), (.slice none 0 none)], 8, true⟩)
    (stA h79 (r52.2.2 + 6) 0 (.agg [(.int .i64 n70), (.str s71), (.str s72), (.int .i64 n73), (.int .i64 n74), (.int .i64 n75), (.int .i64 n76), (.slice s77.1 s77.2.1 s77.2.2)]) 8).bind fun b80 =>
    let h81 := AHeap.put h79 (r52.2.2 + 6) (some b80)
    if ((n36 : Int) == 0) = true then
    (if ((n48 : Int) == 0) = true then
    (if ((n63 : Int) == 4) = true then
    (if ((n78 : Int) == 4) = true then
    (if (decide ((((ByteArray.size s35 : Nat) : Int) : Int) > 0)) = true then
    ((ldR h81 (nx + 6) 0 8).bind fun l82 =>
    (asAgg 8 (AV.agg l82)).bind fun d83 =>
    (asI .i64 (d83.getD 0 .bad)).bind fun n84 =>
    (asStr (d83.getD 1 .bad)).bind fun s85 =>
    (asStr (d83.getD 2 .bad)).bind fun s86 =>
    (asI .i64 (d83.getD 3 .bad)).bind fun n87 =>
    (asI .i64 (d83.getD 4 .bad)).bind fun n88 =>
    (asI .i64 (d83.getD 5 .bad)).bind fun n89 =>
    (asI .i64 (d83.getD 6 .bad)).bind fun n90 =>
    (asSl (d83.getD 7 .bad)).bind fun s91 =>
    (ldR h81 (r33.2.2 + 5) 0 8).bind fun l92 =>
    (asAgg 8 (AV.agg l92)).bind fun d93 =>
    (asI .i64 (d93.getD 0 .bad)).bind fun n94 =>
    (asStr (d93.getD 1 .bad)).bind fun s95 =>
    (asStr (d93.getD 2 .bad)).bind fun s96 =>
    (asI .i64 (d93.getD 3 .bad)).bind fun n97 =>
    (asI .i64 (d93.getD 4 .bad)).bind fun n98 =>
    (asI .i64 (d93.getD 5 .bad)).bind fun n99 =>
    (asI .i64 (d93.getD 6 .bad)).bind fun n100 =>
    (asSl (d93.getD 7 .bad)).bind fun s101 =>
    ((callP Tryd.prog keepT n) Y 14 [(.agg [(.int .i64 n84), (.str s85), (.str s86), (.int .i64 n87), (.int .i64 n88), (.int .i64 n89), (.int .i64 n90), (.slice s91.1 s91.2.1 s91.2.2)]), (.agg [(.int .i64 n94), (.str s95), (.str s96), (.int .i64 n97), (.int .i64 n98), (.int .i64 n99), (.int .i64 n100), (.slice s101.1 s101.2.1 s101.2.2)])] h81 (r67.2.2 + 25)).bind fun r102 =>
    (asB r102.1).bind fun t103 =>
    some ((.bool t103), r102.2.1, r102.2.2))
    else
    (some ((.bool false), h81, (r67.2.2 + 25))))
    else
    (some ((.bool false), h81, (r67.2.2 + 25))))
    else
    (some ((.bool false), h81, (r67.2.2 + 25))))
    else
    (some ((.bool false), h81, (r67.2.2 + 25))))
    else
    (some ((.bool false), h81, (r67.2.2 + 25))))) := F4_eq' go1 n Y x0_0 x0_1 x0_2 x0_3 x0_4 x0_5a x0_5n x0_5c x1 x2 h nx

noncomputable def c5 : Code := (Tryd.f5.body).getD .skip

noncomputable def r5 : List ResultVar := Tryd.f5.results.toList

noncomputable def F5_J1' (W J : StepF (AV × AHeap × Nat) → StepF (AV × AHeap × Nat)) (call : YldF → CallF) (Y : YldF) (lf : Nat) (x0 : ByteArray) (x3 : Option (Nat × Nat)) (x4 : Int) (h : AHeap) (nx : Nat) : Option (AV × AHeap × Nat) :=
  goK W J drawK (machOf Tryd.prog) call Y (keepT 5) lf c5 [1, 1, 1, 1] [] (retK (machOf Tryd.prog) ⟨c5, 64, r5, keepT 5⟩) ⟨64, mkL [(0, (.str x0)), (3, (.ptr x3)), (4, (.int .i64 x4))], (machOf Tryd.prog).gk⟩ h nx

noncomputable def F5_J1 (call : YldF → CallF) (Y : YldF) (lf : Nat) (x0 : ByteArray) (x3 : Option (Nat × Nat)) (x4 : Int) (h : AHeap) (nx : Nat) : Option (AV × AHeap × Nat) := F5_J1' go1 go1 call Y lf x0 x3 x4 h nx

theorem F5_J1_eq' (J : StepF (AV × AHeap × Nat) → StepF (AV × AHeap × Nat)) (call : YldF → CallF) (Y : YldF) (lf : Nat) (x0 : ByteArray) (x3 : Option (Nat × Nat)) (x4 : Int) (h : AHeap) (nx : Nat) : F5_J1' go1 J call Y lf x0 x3 x4 h nx =
    if ((x4 : Int) != 0) = true then
    (if ((x4 : Int) == 4) = true then
    ((x3).bind fun p1 =>
    (ldA h p1.1 p1.2).bind fun v2 =>
    (asI .i64 v2).bind fun n3 =>
    if ((n3 : Int) == 0) = true then
    ((x3).bind fun p4 =>
    (ldA h p4.1 (p4.2 + 1)).bind fun v5 =>
    (asStr v5).bind fun s6 =>
    if (s6.toList == (ByteArray.mk #[]).toList) = true then
    ((x3).bind fun p7 =>
    (ldA h p7.1 (p7.2 + 7)).bind fun v8 =>
    (asSl v8).bind fun s9 =>
    some ((.bool ((((s9.2.1 : Nat) : Int) : Int) == 0)), h, (nx + 21)))
    else
    (some ((.bool false), h, (nx + 21))))
    else
    (some ((.bool false), h, (nx + 21))))
    else
    (some ((.bool false), h, (nx + 21))))
    else
    ((x3).bind fun p10 =>
    (ldR h p10.1 p10.2 8).bind fun l11 =>
    (asAgg 8 (AV.agg l11)).bind fun d12 =>
    (asI .i64 (d12.getD 0 .bad)).bind fun n13 =>
    (asStr (d12.getD 1 .bad)).bind fun s14 =>
    (asStr (d12.getD 2 .bad)).bind fun s15 =>
    (asI .i64 (d12.getD 3 .bad)).bind fun n16 =>
    (asI .i64 (d12.getD 4 .bad)).bind fun n17 =>
    (asI .i64 (d12.getD 5 .bad)).bind fun n18 =>
    (asI .i64 (d12.getD 6 .bad)).bind fun n19 =>
    (asSl (d12.getD 7 .bad)).bind fun s20 =>
    (call Y 12 [(.agg [(.int .i64 n13), (.str s14), (.str s15), (.int .i64 n16), (.int .i64 n17), (.int .i64 n18), (.int .i64 n19), (.slice s20.1 s20.2.1 s20.2.2)])] h (nx + 9)).bind fun r21 =>
    (asTup 2 r21.1).bind fun d22 =>
    (asStr (d22.getD 0 .bad)).bind fun s23 =>
    (asI .i64 (d22.getD 1 .bad)).bind fun n24 =>
    if ((n24 : Int) == 0) = true then
    (some ((.bool (s23.toList == x0.toList)), r21.2.1, (r21.2.2 + 8)))
    else
    (some ((.bool false), r21.2.1, (r21.2.2 + 8)))) := by kernel_rfl

theorem F5_J1_eq (call : YldF → CallF) (Y : YldF) (lf : Nat) (x0 : ByteArray) (x3 : Option (Nat × Nat)) (x4 : Int) (h : AHeap) (nx : Nat) : F5_J1 call Y lf x0 x3 x4 h nx =
    if ((x4 : Int) != 0) = true then
    (if ((x4 : Int) == 4) = true then
    ((x3).bind fun p1 =>
    (ldA h p1.1 p1.2).bind fun v2 =>
    (asI .i64 v2).bind fun n3 =>
    if ((n3 : Int) == 0) = true then
    ((x3).bind fun p4 =>
    (ldA h p4.1 (p4.2 + 1)).bind fun v5 =>
    (asStr v5).bind fun s6 =>
    if (s6.toList == (ByteArray.mk #[]).toList) = true then
    ((x3).bind fun p7 =>
    (ldA h p7.1 (p7.2 + 7)).bind fun v8 =>
    (asSl v8).bind fun s9 =>
    some ((.bool ((((s9.2.1 : Nat) : Int) : Int) == 0)), h, (nx + 21)))
    else
    (some ((.bool false), h, (nx + 21))))
    else
    (some ((.bool false), h, (nx + 21))))
    else
    (some ((.bool false), h, (nx + 21))))
    else
    ((x3).bind fun p10 =>
    (ldR h p10.1 p10.2 8).bind fun l11 =>
    (asAgg 8 (AV.agg l11)).bind fun d12 =>
    (asI .i64 (d12.getD 0 .bad)).bind fun n13 =>
    (asStr (d12.getD 1 .bad)).bind fun s14 =>
    (asStr (d12.getD 2 .bad)).bind fun s15 =>
    (asI .i64 (d12.getD 3 .bad)).bind fun n16 =>
    (asI .i64 (d12.getD 4 .bad)).bind fun n17 =>
    (asI .i64 (d12.getD 5 .bad)).bind fun n18 =>
    (asI .i64 (d12.getD 6 .bad)).bind fun n19 =>
    (asSl (d12.getD 7 .bad)).bind fun s20 =>
    (call Y 12 [(.agg [(.int .i64 n13), (.str s14), (.str s15), (.int .i64 n16), (.int .i64 n17), (.int .i64 n18), (.int .i64 n19), (.slice s20.1 s20.2.1 s20.2.2)])] h (nx + 9)).bind fun r21 =>
    (asTup 2 r21.1).bind fun d22 =>
    (asStr (d22.getD 0 .bad)).bind fun s23 =>
    (asI .i64 (d22.getD 1 .bad)).bind fun n24 =>
    if ((n24 : Int) == 0) = true then
    (some ((.bool (s23.toList == x0.toList)), r21.2.1, (r21.2.2 + 8)))
    else
    (some ((.bool false), r21.2.1, (r21.2.2 + 8)))) := F5_J1_eq' go1 call Y lf x0 x3 x4 h nx

theorem F5_eq' (J : StepF (AV × AHeap × Nat) → StepF (AV × AHeap × Nat)) (n : Nat) (Y : YldF) (x0 : ByteArray) (h : AHeap) (nx : Nat) : rootJ J Tryd.prog keepT (callP Tryd.prog keepT n) Y n 5 [(.str x0)] h nx =
    ((callP Tryd.prog keepT n) Y 13 [(.str x0)] h (nx + 9)).bind fun r1 =>
    (asTup 2 r1.1).bind fun d2 =>
    (asAgg 8 (d2.getD 0 .bad)).bind fun d3 =>
    (asI .i64 (d3.getD 0 .bad)).bind fun n4 =>
    (asStr (d3.getD 1 .bad)).bind fun s5 =>
    (asStr (d3.getD 2 .bad)).bind fun s6 =>
    (asI .i64 (d3.getD 3 .bad)).bind fun n7 =>
    (asI .i64 (d3.getD 4 .bad)).bind fun n8 =>
    (asI .i64 (d3.getD 5 .bad)).bind fun n9 =>
    (asI .i64 (d3.getD 6 .bad)).bind fun n10 =>
    (asSl (d3.getD 7 .bad)).bind fun s11 =>
    (asI .i64 (d2.getD 1 .bad)).bind fun n12 =>
    let h13 := AHeap.put r1.2.1 (nx + 6) (some ⟨[(.int .i64 0), (.str (ByteArray.mk #[])), (.str (ByteArray.mk #[])), (.int .i64 0), (.int .i64 0), (.int .i64 0), (.int .i64 0), (.slice none 0 none)], 8, true⟩)
    (stA h13 (nx + 6) 0 (.agg [(.int .i64 n4), (.str s5), (.str s6), (.int .i64 n7), (.int .i64 n8), (.int .i64 n9), (.int .i64 n10), (.slice s11.1 s11.2.1 s11.2.2)]) 8).bind fun b14 =>
    let h15 := AHeap.put h13 (nx + 6) (some b14)
    ((callP Tryd.prog keepT n) Y 13 [(.str (ByteArray.mk #[115, 116, 111, 114, 101, 32, 97, 32, 45, 51, 32, 48, 97, 102, 102]))] h15 (r1.2.2 + 7)).bind fun r16 =>
    (asTup 2 r16.1).bind fun d17 =>
    (asAgg 8 (d17.getD 0 .bad)).bind fun d18 =>
    (asI .i64 (d18.getD 0 .bad)).bind fun n19 =>
    (asStr (d18.getD 1 .bad)).bind fun s20 =>
    (asStr (d18.getD 2 .bad)).bind fun s21 =>
    (asI .i64 (d18.getD 3 .bad)).bind fun n22 =>
    (asI .i64 (d18.getD 4 .bad)).bind fun n23 =>
    (asI .i64 (d18.getD 5 .bad)).bind fun n24 =>
    (asI .i64 (d18.getD 6 .bad)).bind fun n25 =>
    (asSl (d18.getD 7 .bad)).bind fun s26 =>
    (asI .i64 (d17.getD 1 .bad)).bind fun n27 =>
    let h28 := AHeap.put r16.2.1 (r1.2.2 + 4) (some ⟨[(.int .i64 0), (.str (ByteArray.mk #[])), (.str (ByteArray.mk #[])), (.int .i64 0), (.int .i64 0), (.int .i64 0), (.int .i64 0), (.slice none 0 none)], 8, true⟩)
    (stA h28 (r1.2.2 + 4) 0 (.agg [(.int .i64 n19), (.str s20), (.str s21), (.int .i64 n22), (.int .i64 n23), (.int .i64 n24), (.int .i64 n25), (.slice s26.1 s26.2.1 s26.2.2)]) 8).bind fun b29 =>
    let h30 := AHeap.put h28 (r1.2.2 + 4) (some b29)
    if ((n27 : Int) != 0) = true then
    (some ((.bool false), h30, (r16.2.2 + 15)))
    else
    ((ldA h30 (r1.2.2 + 4) 3).bind fun v31 =>
    (asI .i64 v31).bind fun n32 =>
    if ((n32 : Int) != (-3)) = true then
    (some ((.bool false), h30, (r16.2.2 + 15)))
    else
    ((ldA h30 (r1.2.2 + 4) 7).bind fun v33 =>
    (asSl v33).bind fun s34 =>
    let h35 := AHeap.put h30 (r16.2.2 + 10) (some ⟨[(.int .u8 10), (.int .u8 255)], 1, true⟩)
    ((callP Tryd.prog keepT n) Y 15 [(.slice s34.1 s34.2.1 s34.2.2), (.slice (some ((r16.2.2 + 10), 0)) 2 (some 2))] h35 (r16.2.2 + 14)).bind fun r36 =>
    (asB r36.1).bind fun t37 =>
    if (!t37) = true then
    (some ((.bool false), r36.2.1, (r36.2.2 + 1)))
    else
    (F5_J1' J J (callP Tryd.prog keepT n) Y n x0 (some ((nx + 6), 0)) n12 r36.2.1 r36.2.2))) := by kernel_rfl

/-- quickset/quicksetkeep.LineFixed -/
theorem F5_eq (n : Nat) (Y : YldF) (x0 : ByteArray) (h : AHeap) (nx : Nat) : callP Tryd.prog keepT (n + 1) Y 5 [(.str x0)] h nx =
    ((callP Tryd.prog keepT n) Y 13 [(.str x0)] h (nx + 9)).bind fun r1 =>
    (asTup 2 r1.1).bind fun d2 =>
    (asAgg 8 (d2.getD 0 .bad)).bind fun d3 =>
    (asI .i64 (d3.getD 0 .bad)).bind fun n4 =>
    (asStr (d3.getD 1 .bad)).bind fun s5 =>
    (asStr (d3.getD 2 .bad)).bind fun s6 =>
    (asI .i64 (d3.getD 3 .bad)).bind fun n7 =>
    (asI .i64 (d3.getD 4 .bad)).bind fun n8 =>
    (asI .i64 (d3.getD 5 .bad)).bind fun n9 =>
    (asI .i64 (d3.getD 6 .bad)).bind fun n10 =>
    (asSl (d3.getD 7 .bad)).bind fun s11 =>
    (asI .i64 (d2.getD 1 .bad)).bind fun n12 =>
    let h13 := AHeap.put r1.2.1 (nx + 6) (some ⟨[(.int .i64 0), (.str (ByteArray.mk #[])), (.str (ByteArray.mk #[])), (.int .i64 0), (.int .i64 0), (.int .i64 0), (.int .i64 0), (.slice none 0 none)], 8, true⟩)
    (stA h13 (nx + 6) 0 (.agg [(.int .i64 n4), (.str s5), (.str s6), (.int .i64 n7), (.int .i64 n8), (.int .i64 n9), (.int .i64 n10), (.slice s11.1 s11.2.1 s11.2.2)]) 8).bind fun b14 =>
    let h15 := AHeap.put h13 (nx + 6) (some b14)
    ((callP Tryd.prog keepT n) Y 13 [(.str (ByteArray.mk #[115, 116, 111, 114, 101, 32, 97, 32, 45, 51, 32, 48, 97, 102, 102]))] h15 (r1.2.2 + 7)).bind fun r16 =>
    (asTup 2 r16.1).bind fun d17 =>
    (asAgg 8 (d17.getD 0 .bad)).bind fun d18 =>
    (asI .i64 (d18.getD 0 .bad)).bind fun n19 =>
    (asStr (d18.getD 1 .bad)).bind fun s20 =>
    (asStr (d18.getD 2 .bad)).bind fun s21 =>
    (asI .i64 (d18.getD 3 .bad)).bind fun n22 =>
    (asI .i64 (d18.getD 4 .bad)).bind fun n23 =>
    (asI .i64 (d18.getD 5 .bad)).bind fun n24 =>
    (asI .i64 (d18.getD 6 .bad)).bind fun n25 =>
    (asSl (d18.getD 7 .bad)).bind fun s26 =>
    (asI .i64 (d17.getD 1 .bad)).bind fun n27 =>
    let h28 := AHeap.put r16.2.1 (r1.2.2 + 4) (some ⟨[(.int .i64 0), (.str (ByteArray.mk #[])), (.str (ByteArray.mk #[])), (.int .i64 0), (.int .i64 0), (.int .i64 0), (.int .i64 0), (.slice none 0 none)], 8, true⟩)
    (stA h28 (r1.2.2 + 4) 0 (.agg [(.int .i64 n19), (.str s20), (.str s21), (.int .i64 n22), (.int .i64 n23), (.int .i64 n24), (.int .i64 n25), (.slice s26.1 s26.2.1 s26.2.2)]) 8).bind fun b29 =>
    let h30 := AHeap.put h28 (r1.2.2 + 4) (some b29)
    if ((n27 : Int) != 0) = true then
    (some ((.bool false), h30, (r16.2.2 + 15)))
    else
    ((ldA h30 (r1.2.2 + 4) 3).bind fun v31 =>
    (asI .i64 v31).bind fun n32 =>
    if ((n32 : Int) != (-3)) = true then
    (some ((.bool false), h30, (r16.2.2 + 15)))
    else
    ((ldA h30 (r1.2.2 + 4) 7).bind fun v33 =>
    (asSl v33).bind fun s34 =>
    let h35 := AHeap.put h30 (r16.2.2 + 10) (some ⟨[(.int .u8 10), (.int .u8 255)], 1, true⟩)
    ((callP Tryd.prog keepT n) Y 15 [(.slice s34.1 s34.2.1 s34.2.2), (.slice (some ((r16.2.2 + 10), 0)) 2 (some 2))] h35 (r16.2.2 + 14)).bind fun r36 =>
    (asB r36.1).bind fun t37 =>
    if (!t37) = true then
    (some ((.bool false), r36.2.1, (r36.2.2 + 1)))
    else
    (F5_J1 (callP Tryd.prog keepT n) Y n x0 (some ((nx + 6), 0)) n12 r36.2.1 r36.2.2))) := F5_eq' go1 n Y x0 h nx

noncomputable def c6 : Code := (Tryd.f6.body).getD .skip

noncomputable def r6 : List ResultVar := Tryd.f6.results.toList

theorem F6_eq' (J : StepF (AV × AHeap × Nat) → StepF (AV × AHeap × Nat)) (n : Nat) (Y : YldF) (x0 : Int) (x1 : Int) (h : AHeap) (nx : Nat) : rootJ J Tryd.prog keepT (callP Tryd.prog keepT n) Y n 6 [(.int .i64 x0), (.int .i64 x1)] h nx =
    if (x1 : Int) = 0 then none else
    (if (decide (((Int.tmod x0 x1) : Int) < 0)) = true then
    (some ((.int .i64 (wrapA .i64 ((Int.tmod x0 x1) + x1))), h, (nx + 11)))
    else
    (some ((.int .i64 (Int.tmod x0 x1)), h, (nx + 9)))) := by kernel_rfl

/-- quickset/quicksetkeep.Picked -/
theorem F6_eq (n : Nat) (Y : YldF) (x0 : Int) (x1 : Int) (h : AHeap) (nx : Nat) : callP Tryd.prog keepT (n + 1) Y 6 [(.int .i64 x0), (.int .i64 x1)] h nx =
    if (x1 : Int) = 0 then none else
    (if (decide (((Int.tmod x0 x1) : Int) < 0)) = true then
    (some ((.int .i64 (wrapA .i64 ((Int.tmod x0 x1) + x1))), h, (nx + 11)))
    else
    (some ((.int .i64 (Int.tmod x0 x1)), h, (nx + 9)))) := F6_eq' go1 n Y x0 x1 h nx

noncomputable def c7 : Code := (Tryd.f7.body).getD .skip

noncomputable def r7 : List ResultVar := Tryd.f7.results.toList

theorem F7_eq' (J : StepF (AV × AHeap × Nat) → StepF (AV × AHeap × Nat)) (n : Nat) (Y : YldF) (x0 : Int) (h : AHeap) (nx : Nat) : rootJ J Tryd.prog keepT (callP Tryd.prog keepT n) Y n 7 [(.int .i64 x0)] h nx =
    let h1 := AHeap.put h (nx + 1) (some ⟨[(.str (ByteArray.mk #[97])), (.str (ByteArray.mk #[98])), (.str (ByteArray.mk #[99, 51])), (.str (ByteArray.mk #[122, 122])), (.str (ByteArray.mk #[101]))], 1, true⟩)
    ((callP Tryd.prog keepT n) Y 6 [(.int .i64 x0), (.int .i64 5)] h1 (nx + 7)).bind fun r2 =>
    (asI .i64 r2.1).bind fun n3 =>
    if 0 ≤ (n3 : Int) ∧ n3 < ((5 : Nat) : Int) then
    ((ldA r2.2.1 (nx + 1) (0 + Int.toNat n3 * 1)).bind fun v4 =>
    (asStr v4).bind fun s5 =>
    some ((.str s5), r2.2.1, r2.2.2))
    else none := by kernel_rfl

/-- quickset/quicksetkeep.objectName -/
theorem F7_eq (n : Nat) (Y : YldF) (x0 : Int) (h : AHeap) (nx : Nat) : callP Tryd.prog keepT (n + 1) Y 7 [(.int .i64 x0)] h nx =
    let h1 := AHeap.put h (nx + 1) (some ⟨[(.str (ByteArray.mk #[97])), (.str (ByteArray.mk #[98])), (.str (ByteArray.mk #[99, 51])), (.str (ByteArray.mk #[122, 122])), (.str (ByteArray.mk #[101]))], 1, true⟩)
    ((callP Tryd.prog keepT n) Y 6 [(.int .i64 x0), (.int .i64 5)] h1 (nx + 7)).bind fun r2 =>
    (asI .i64 r2.1).bind fun n3 =>
    if 0 ≤ (n3 : Int) ∧ n3 < ((5 : Nat) : Int) then
    ((ldA r2.2.1 (nx + 1) (0 + Int.toNat n3 * 1)).bind fun v4 =>
    (asStr v4).bind fun s5 =>
    some ((.str s5), r2.2.1, r2.2.2))
    else none := F7_eq' go1 n Y x0 h nx

noncomputable def c8 : Code := (Tryd.f8.body).getD .skip

noncomputable def r8 : List ResultVar := Tryd.f8.results.toList

noncomputable def F8_J1' (W J : StepF (AV × AHeap × Nat) → StepF (AV × AHeap × Nat)) (call : YldF → CallF) (Y : YldF) (lf : Nat) (x1 : Option (Nat × Nat)) (h : AHeap) (nx : Nat) : Option (AV × AHeap × Nat) :=
  goK W J drawK (machOf Tryd.prog) call Y (keepT 8) lf c8 [1, 1, 1] [] (retK (machOf Tryd.prog) ⟨c8, 47, r8, keepT 8⟩) ⟨47, mkL [(1, (.ptr x1))], (machOf Tryd.prog).gk⟩ h nx

noncomputable def F8_J1 (call : YldF → CallF) (Y : YldF) (lf : Nat) (x1 : Option (Nat × Nat)) (h : AHeap) (nx : Nat) : Option (AV × AHeap × Nat) := F8_J1' go1 go1 call Y lf x1 h nx

noncomputable def F8_J2' (W J : StepF (AV × AHeap × Nat) → StepF (AV × AHeap × Nat)) (call : YldF → CallF) (Y : YldF) (lf : Nat) (x1 : Option (Nat × Nat)) (x5a : Option (Nat × Nat)) (x5n : Nat) (x5c : Option Nat) (h : AHeap) (nx : Nat) : Option (AV × AHeap × Nat) :=
  goK W J drawK (machOf Tryd.prog) call Y (keepT 8) lf c8 [1, 1, 1, 1, 1] [] (retK (machOf Tryd.prog) ⟨c8, 47, r8, keepT 8⟩) ⟨47, mkL [(1, (.ptr x1)), (5, (.slice x5a x5n x5c))], (machOf Tryd.prog).gk⟩ h nx

noncomputable def F8_J2 (call : YldF → CallF) (Y : YldF) (lf : Nat) (x1 : Option (Nat × Nat)) (x5a : Option (Nat × Nat)) (x5n : Nat) (x5c : Option Nat) (h : AHeap) (nx : Nat) : Option (AV × AHeap × Nat) := F8_J2' go1 go1 call Y lf x1 x5a x5n x5c h nx

noncomputable def F8_J3' (W J : StepF (AV × AHeap × Nat) → StepF (AV × AHeap × Nat)) (call : YldF → CallF) (Y : YldF) (lf : Nat) (x1 : Option (Nat × Nat)) (x5a : Option (Nat × Nat)) (x5n : Nat) (x5c : Option Nat) (h : AHeap) (nx : Nat) : Option (AV × AHeap × Nat) :=
  goK W J drawK (machOf Tryd.prog) call Y (keepT 8) lf c8 [1, 1, 1, 1, 1, 1, 1] [] (retK (machOf Tryd.prog) ⟨c8, 47, r8, keepT 8⟩) ⟨47, mkL [(1, (.ptr x1)), (5, (.slice x5a x5n x5c))], (machOf Tryd.prog).gk⟩ h nx

noncomputable def F8_J3 (call : YldF → CallF) (Y : YldF) (lf : Nat) (x1 : Option (Nat × Nat)) (x5a : Option (Nat × Nat)) (x5n : Nat) (x5c : Option Nat) (h : AHeap) (nx : Nat) : Option (AV × AHeap × Nat) := F8_J3' go1 go1 call Y lf x1 x5a x5n x5c h nx

theorem F8_J1_eq' (J : StepF (AV × AHeap × Nat) → StepF (AV × AHeap × Nat)) (call : YldF → CallF) (Y : YldF) (lf : Nat) (x1 : Option (Nat × Nat)) (h : AHeap) (nx : Nat) : F8_J1' go1 J call Y lf x1 h nx =
    let h1 := AHeap.put h nx (some ⟨[(.str (ByteArray.mk #[111, 107]))], 1, true⟩)
    (x1).bind fun p2 =>
    (ldA h1 p2.1 p2.2).bind fun v3 =>
    (asI .i64 v3).bind fun n4 =>
    if ((n4 : Int) != 0) = true then
    ((x1).bind fun p5 =>
    (ldA h1 p5.1 p5.2).bind fun v6 =>
    (asI .i64 v6).bind fun n7 =>
    (call Y 19 [(.int .i64 n7)] h1 (nx + 10)).bind fun r8 =>
    (asStr r8.1).bind fun s9 =>
    let h10 := AHeap.put r8.2.1 (nx + 8) (some ⟨[(.str (ByteArray.mk #[110, 111])), (.str s9)], 1, true⟩)
    F8_J2' J J call Y lf x1 (some ((nx + 8), 0)) 2 (some 2) h10 r8.2.2)
    else
    (F8_J2' J J call Y lf x1 (some (nx, 0)) 1 (some 1) h1 (nx + 5)) := by kernel_rfl

theorem F8_J1_eq (call : YldF → CallF) (Y : YldF) (lf : Nat) (x1 : Option (Nat × Nat)) (h : AHeap) (nx : Nat) : F8_J1 call Y lf x1 h nx =
    let h1 := AHeap.put h nx (some ⟨[(.str (ByteArray.mk #[111, 107]))], 1, true⟩)
    (x1).bind fun p2 =>
    (ldA h1 p2.1 p2.2).bind fun v3 =>
    (asI .i64 v3).bind fun n4 =>
    if ((n4 : Int) != 0) = true then
    ((x1).bind fun p5 =>
    (ldA h1 p5.1 p5.2).bind fun v6 =>
    (asI .i64 v6).bind fun n7 =>
    (call Y 19 [(.int .i64 n7)] h1 (nx + 10)).bind fun r8 =>
    (asStr r8.1).bind fun s9 =>
    let h10 := AHeap.put r8.2.1 (nx + 8) (some ⟨[(.str (ByteArray.mk #[110, 111])), (.str s9)], 1, true⟩)
    F8_J2 call Y lf x1 (some ((nx + 8), 0)) 2 (some 2) h10 r8.2.2)
    else
    (F8_J2 call Y lf x1 (some (nx, 0)) 1 (some 1) h1 (nx + 5)) := F8_J1_eq' go1 call Y lf x1 h nx

theorem F8_J2_eq' (J : StepF (AV × AHeap × Nat) → StepF (AV × AHeap × Nat)) (call : YldF → CallF) (Y : YldF) (lf : Nat) (x1 : Option (Nat × Nat)) (x5a : Option (Nat × Nat)) (x5n : Nat) (x5c : Option Nat) (h : AHeap) (nx : Nat) : F8_J2' go1 J call Y lf x1 x5a x5n x5c h nx =
    (x1).bind fun p1 =>
    (ldA h p1.1 (p1.2 + 2)).bind fun v2 =>
    (asI .i64 v2).bind fun n3 =>
    (call Y 19 [(.int .i64 n3)] h (nx + 10)).bind fun r4 =>
    (asStr r4.1).bind fun s5 =>
    (x1).bind fun p6 =>
    (ldA r4.2.1 p6.1 (p6.2 + 3)).bind fun v7 =>
    (asSl v7).bind fun s8 =>
    (call Y 20 [(.slice s8.1 s8.2.1 s8.2.2)] r4.2.1 r4.2.2).bind fun r9 =>
    (asStr r9.1).bind fun s10 =>
    let h11 := AHeap.put r9.2.1 (nx + 7) (some ⟨[(.str s5), (.str s10)], 1, true⟩)
    (srcS h11 (some ((nx + 7), 0)) 2 1).bind fun q12 =>
    (appD h11 x5a x5n x5c 1 16 (nx + 8) q12).bind fun e13 =>
    let h14 := AHeap.puts h11 e13.sets
    ifKept [(h, r4.2.1, [p6.1])]
    ((x1).bind fun p15 =>
    (ldA h14 p15.1 (p15.2 + 1)).bind fun v16 =>
    (asB v16).bind fun t17 =>
    if t17 = true then
    (let h18 := AHeap.put h14 (r9.2.2 + 3) (some ⟨[(.str (ByteArray.mk #[100, 111, 110, 101]))], 1, true⟩)
    (srcS h18 (some ((r9.2.2 + 3), 0)) 1 1).bind fun q19 =>
    (appD h18 e13.a e13.n e13.c 1 16 (r9.2.2 + 4) q19).bind fun e20 =>
    let h21 := AHeap.puts h18 e20.sets
    F8_J3' J J call Y lf x1 e20.a e20.n e20.c h21 (r9.2.2 + 6))
    else
    (F8_J3' J J call Y lf x1 e13.a e13.n e13.c h14 (r9.2.2 + 2))) := by kernel_rfl

theorem F8_J2_eq (call : YldF → CallF) (Y : YldF) (lf : Nat) (x1 : Option (Nat × Nat)) (x5a : Option (Nat × Nat)) (x5n : Nat) (x5c : Option Nat) (h : AHeap) (nx : Nat) : F8_J2 call Y lf x1 x5a x5n x5c h nx =
    (x1).bind fun p1 =>
    (ldA h p1.1 (p1.2 + 2)).bind fun v2 =>
    (asI .i64 v2).bind fun n3 =>
    (call Y 19 [(.int .i64 n3)] h (nx + 10)).bind fun r4 =>
    (asStr r4.1).bind fun s5 =>
    (x1).bind fun p6 =>
    (ldA r4.2.1 p6.1 (p6.2 + 3)).bind fun v7 =>
    (asSl v7).bind fun s8 =>
    (call Y 20 [(.slice s8.1 s8.2.1 s8.2.2)] r4.2.1 r4.2.2).bind fun r9 =>
    (asStr r9.1).bind fun s10 =>
    let h11 := AHeap.put r9.2.1 (nx + 7) (some ⟨[(.str s5), (.str s10)], 1, true⟩)
    (srcS h11 (some ((nx + 7), 0)) 2 1).bind fun q12 =>
    (appD h11 x5a x5n x5c 1 16 (nx + 8) q12).bind fun e13 =>
    let h14 := AHeap.puts h11 e13.sets
    ifKept [(h, r4.2.1, [p6.1])]
    ((x1).bind fun p15 =>
    (ldA h14 p15.1 (p15.2 + 1)).bind fun v16 =>
    (asB v16).bind fun t17 =>
    if t17 = true then
    (let h18 := AHeap.put h14 (r9.2.2 + 3) (some ⟨[(.str (ByteArray.mk #[100, 111, 110, 101]))], 1, true⟩)
    (srcS h18 (some ((r9.2.2 + 3), 0)) 1 1).bind fun q19 =>
    (appD h18 e13.a e13.n e13.c 1 16 (r9.2.2 + 4) q19).bind fun e20 =>
    let h21 := AHeap.puts h18 e20.sets
    F8_J3 call Y lf x1 e20.a e20.n e20.c h21 (r9.2.2 + 6))
    else
    (F8_J3 call Y lf x1 e13.a e13.n e13.c h14 (r9.2.2 + 2))) := F8_J2_eq' go1 call Y lf x1 x5a x5n x5c h nx

theorem F8_J3_eq' (J : StepF (AV × AHeap × Nat) → StepF (AV × AHeap × Nat)) (call : YldF → CallF) (Y : YldF) (lf : Nat) (x1 : Option (Nat × Nat)) (x5a : Option (Nat × Nat)) (x5n : Nat) (x5c : Option Nat) (h : AHeap) (nx : Nat) : F8_J3' go1 J call Y lf x1 x5a x5n x5c h nx =
    (x1).bind fun p1 =>
    (ldA h p1.1 (p1.2 + 4)).bind fun v2 =>
    (asSl v2).bind fun s3 =>
    (srcS h s3.1 s3.2.1 1).bind fun q4 =>
    (appD h x5a x5n x5c 1 16 (nx + 3) q4).bind fun e5 =>
    let h6 := AHeap.puts h e5.sets
    (call Y 21 [(.slice e5.a e5.n e5.c), (.str (ByteArray.mk #[32]))] h6 (nx + 7)).bind fun r7 =>
    (asStr r7.1).bind fun s8 =>
    some ((.tuple [(.str s8), (.int .i64 0)]), r7.2.1, r7.2.2) := by kernel_rfl

theorem F8_J3_eq (call : YldF → CallF) (Y : YldF) (lf : Nat) (x1 : Option (Nat × Nat)) (x5a : Option (Nat × Nat)) (x5n : Nat) (x5c : Option Nat) (h : AHeap) (nx : Nat) : F8_J3 call Y lf x1 x5a x5n x5c h nx =
    (x1).bind fun p1 =>
    (ldA h p1.1 (p1.2 + 4)).bind fun v2 =>
    (asSl v2).bind fun s3 =>
    (srcS h s3.1 s3.2.1 1).bind fun q4 =>
    (appD h x5a x5n x5c 1 16 (nx + 3) q4).bind fun e5 =>
    let h6 := AHeap.puts h e5.sets
    (call Y 21 [(.slice e5.a e5.n e5.c), (.str (ByteArray.mk #[32]))] h6 (nx + 7)).bind fun r7 =>
    (asStr r7.1).bind fun s8 =>
    some ((.tuple [(.str s8), (.int .i64 0)]), r7.2.1, r7.2.2) := F8_J3_eq' go1 call Y lf x1 x5a x5n x5c h nx

theorem F8_eq' (J : StepF (AV × AHeap × Nat) → StepF (AV × AHeap × Nat)) (n : Nat) (Y : YldF) (x0_0 : Int) (x0_1 : Bool) (x0_2 : Int) (x0_3a : Option (Nat × Nat)) (x0_3n : Nat) (x0_3c : Option Nat) (x0_4a : Option (Nat × Nat)) (x0_4n : Nat) (x0_4c : Option Nat) (h : AHeap) (nx : Nat) : rootJ J Tryd.prog keepT (callP Tryd.prog keepT n) Y n 8 [(.agg [(.int .i64 x0_0), (.bool x0_1), (.int .i64 x0_2), (.slice x0_3a x0_3n x0_3c), (.slice x0_4a x0_4n x0_4c)])] h nx =
    let h1 := AHeap.put h nx (some ⟨[(.int .i64 x0_0), (.bool x0_1), (.int .i64 x0_2), (.slice x0_3a x0_3n x0_3c), (.slice x0_4a x0_4n x0_4c)], 5, true⟩)
    (ldA h1 nx 0).bind fun v2 =>
    (asI .i64 v2).bind fun n3 =>
    if (decide ((n3 : Int) < 0)) = true then
    (some ((.tuple [(.str (ByteArray.mk #[])), (.int .i64 4)]), h1, (nx + 20)))
    else
    ((ldA h1 nx 2).bind fun v4 =>
    (asI .i64 v4).bind fun n5 =>
    if (decide ((n5 : Int) < 0)) = true then
    (some ((.tuple [(.str (ByteArray.mk #[])), (.int .i64 4)]), h1, (nx + 20)))
    else
    ((ldA h1 nx 4).bind fun v6 =>
    (asSl v6).bind fun s7 =>
    ((callP Tryd.prog keepT n) Y 18 [(.slice s7.1 s7.2.1 s7.2.2), (.fn 16 [] [])] h1 (nx + 18)).bind fun r8 =>
    (asB r8.1).bind fun t9 =>
    if t9 = true then
    (some ((.tuple [(.str (ByteArray.mk #[])), (.int .i64 4)]), r8.2.1, (r8.2.2 + 2)))
    else
    (F8_J1' J J (callP Tryd.prog keepT n) Y n (some (nx, 0)) r8.2.1 r8.2.2))) := by kernel_rfl

/-- quickset/desk.Tell -/
theorem F8_eq (n : Nat) (Y : YldF) (x0_0 : Int) (x0_1 : Bool) (x0_2 : Int) (x0_3a : Option (Nat × Nat)) (x0_3n : Nat) (x0_3c : Option Nat) (x0_4a : Option (Nat × Nat)) (x0_4n : Nat) (x0_4c : Option Nat) (h : AHeap) (nx : Nat) : callP Tryd.prog keepT (n + 1) Y 8 [(.agg [(.int .i64 x0_0), (.bool x0_1), (.int .i64 x0_2), (.slice x0_3a x0_3n x0_3c), (.slice x0_4a x0_4n x0_4c)])] h nx =
    let h1 := AHeap.put h nx (some ⟨[(.int .i64 x0_0), (.bool x0_1), (.int .i64 x0_2), (.slice x0_3a x0_3n x0_3c), (.slice x0_4a x0_4n x0_4c)], 5, true⟩)
    (ldA h1 nx 0).bind fun v2 =>
    (asI .i64 v2).bind fun n3 =>
    if (decide ((n3 : Int) < 0)) = true then
    (some ((.tuple [(.str (ByteArray.mk #[])), (.int .i64 4)]), h1, (nx + 20)))
    else
    ((ldA h1 nx 2).bind fun v4 =>
    (asI .i64 v4).bind fun n5 =>
    if (decide ((n5 : Int) < 0)) = true then
    (some ((.tuple [(.str (ByteArray.mk #[])), (.int .i64 4)]), h1, (nx + 20)))
    else
    ((ldA h1 nx 4).bind fun v6 =>
    (asSl v6).bind fun s7 =>
    ((callP Tryd.prog keepT n) Y 18 [(.slice s7.1 s7.2.1 s7.2.2), (.fn 16 [] [])] h1 (nx + 18)).bind fun r8 =>
    (asB r8.1).bind fun t9 =>
    if t9 = true then
    (some ((.tuple [(.str (ByteArray.mk #[])), (.int .i64 4)]), r8.2.1, (r8.2.2 + 2)))
    else
    (F8_J1 (callP Tryd.prog keepT n) Y n (some (nx, 0)) r8.2.1 r8.2.2))) := F8_eq' go1 n Y x0_0 x0_1 x0_2 x0_3a x0_3n x0_3c x0_4a x0_4n x0_4c h nx

noncomputable def c9 : Code := (Tryd.f9.body).getD .skip

noncomputable def r9 : List ResultVar := Tryd.f9.results.toList

noncomputable def F9_J1' (W J : StepF (AV × AHeap × Nat) → StepF (AV × AHeap × Nat)) (call : YldF → CallF) (Y : YldF) (lf : Nat) (x0 : ByteArray) (x2 : Option (Nat × Nat)) (x4a : Option (Nat × Nat)) (x4n : Nat) (x4c : Option Nat) (x5 : Option (Nat × Nat)) (h : AHeap) (nx : Nat) : Option (AV × AHeap × Nat) :=
  goK W J drawK (machOf Tryd.prog) call Y (keepT 9) lf c9 [1, 1, 1, 1] [] (retK (machOf Tryd.prog) ⟨c9, 87, r9, keepT 9⟩) ⟨87, mkL [(0, (.str x0)), (2, (.ptr x2)), (4, (.slice x4a x4n x4c)), (5, (.ptr x5))], (machOf Tryd.prog).gk⟩ h nx

noncomputable def F9_J1 (call : YldF → CallF) (Y : YldF) (lf : Nat) (x0 : ByteArray) (x2 : Option (Nat × Nat)) (x4a : Option (Nat × Nat)) (x4n : Nat) (x4c : Option Nat) (x5 : Option (Nat × Nat)) (h : AHeap) (nx : Nat) : Option (AV × AHeap × Nat) := F9_J1' go1 go1 call Y lf x0 x2 x4a x4n x4c x5 h nx

noncomputable def F9_J2' (W J : StepF (AV × AHeap × Nat) → StepF (AV × AHeap × Nat)) (call : YldF → CallF) (Y : YldF) (lf : Nat) (x0 : ByteArray) (x2 : Option (Nat × Nat)) (x4a : Option (Nat × Nat)) (x4n : Nat) (x4c : Option Nat) (x5 : Option (Nat × Nat)) (h : AHeap) (nx : Nat) : Option (AV × AHeap × Nat) :=
  goK W J drawK (machOf Tryd.prog) call Y (keepT 9) lf c9 [1, 1, 1, 1, 0, 1, 0, 1, 1, 1, 0, 1] [] (retK (machOf Tryd.prog) ⟨c9, 87, r9, keepT 9⟩) ⟨87, mkL [(0, (.str x0)), (2, (.ptr x2)), (4, (.slice x4a x4n x4c)), (5, (.ptr x5))], (machOf Tryd.prog).gk⟩ h nx

noncomputable def F9_J2 (call : YldF → CallF) (Y : YldF) (lf : Nat) (x0 : ByteArray) (x2 : Option (Nat × Nat)) (x4a : Option (Nat × Nat)) (x4n : Nat) (x4c : Option Nat) (x5 : Option (Nat × Nat)) (h : AHeap) (nx : Nat) : Option (AV × AHeap × Nat) := F9_J2' go1 go1 call Y lf x0 x2 x4a x4n x4c x5 h nx

noncomputable def F9_J3' (W J : StepF (AV × AHeap × Nat) → StepF (AV × AHeap × Nat)) (call : YldF → CallF) (Y : YldF) (lf : Nat) (x0 : ByteArray) (x2 : Option (Nat × Nat)) (x5 : Option (Nat × Nat)) (h : AHeap) (nx : Nat) : Option (AV × AHeap × Nat) :=
  goK W J drawK (machOf Tryd.prog) call Y (keepT 9) lf c9 [1, 1, 1, 1, 1] [] (retK (machOf Tryd.prog) ⟨c9, 87, r9, keepT 9⟩) ⟨87, mkL [(0, (.str x0)), (2, (.ptr x2)), (5, (.ptr x5))], (machOf Tryd.prog).gk⟩ h nx

noncomputable def F9_J3 (call : YldF → CallF) (Y : YldF) (lf : Nat) (x0 : ByteArray) (x2 : Option (Nat × Nat)) (x5 : Option (Nat × Nat)) (h : AHeap) (nx : Nat) : Option (AV × AHeap × Nat) := F9_J3' go1 go1 call Y lf x0 x2 x5 h nx

noncomputable def F9_J4' (W J : StepF (AV × AHeap × Nat) → StepF (AV × AHeap × Nat)) (call : YldF → CallF) (Y : YldF) (lf : Nat) (x2 : Option (Nat × Nat)) (x5 : Option (Nat × Nat)) (h : AHeap) (nx : Nat) : Option (AV × AHeap × Nat) :=
  goK W J drawK (machOf Tryd.prog) call Y (keepT 9) lf c9 [1, 1, 1, 1, 1, 1] [] (retK (machOf Tryd.prog) ⟨c9, 87, r9, keepT 9⟩) ⟨87, mkL [(2, (.ptr x2)), (5, (.ptr x5))], (machOf Tryd.prog).gk⟩ h nx

noncomputable def F9_J4 (call : YldF → CallF) (Y : YldF) (lf : Nat) (x2 : Option (Nat × Nat)) (x5 : Option (Nat × Nat)) (h : AHeap) (nx : Nat) : Option (AV × AHeap × Nat) := F9_J4' go1 go1 call Y lf x2 x5 h nx

theorem F9_J1_eq' (J : StepF (AV × AHeap × Nat) → StepF (AV × AHeap × Nat)) (call : YldF → CallF) (Y : YldF) (lf : Nat) (x0 : ByteArray) (x2 : Option (Nat × Nat)) (x4a : Option (Nat × Nat)) (x4n : Nat) (x4c : Option Nat) (x5 : Option (Nat × Nat)) (h : AHeap) (nx : Nat) : F9_J1' go1 J call Y lf x0 x2 x4a x4n x4c x5 h nx =
    if (decide ((((x4n : Nat) : Int) : Int) ≥ 3)) = true then
    ((x4a).bind fun p1 =>
    if 0 ≤ (1 : Int) ∧ 1 < ((x4n : Nat) : Int) then
    ((ldA h p1.1 (p1.2 + Int.toNat 1 * 1)).bind fun v2 =>
    (asStr v2).bind fun s3 =>
    (call Y 23 [(.str s3)] h (nx + 12)).bind fun r4 =>
    (asTup 2 r4.1).bind fun d5 =>
    (asI .i64 (d5.getD 0 .bad)).bind fun n6 =>
    (asB (d5.getD 1 .bad)).bind fun t7 =>
    (x5).bind fun p8 =>
    (stA r4.2.1 p8.1 (p8.2 + 2) (.int .i64 n6) 1).bind fun b9 =>
    let h10 := AHeap.put r4.2.1 p8.1 (some b9)
    (x4a).bind fun p11 =>
    if 0 ≤ (2 : Int) ∧ 2 < ((x4n : Nat) : Int) then
    ((ldA h10 p11.1 (p11.2 + Int.toNat 2 * 1)).bind fun v12 =>
    (asStr v12).bind fun s13 =>
    (call Y 24 [(.str s13)] h10 (r4.2.2 + 9)).bind fun r14 =>
    (asTup 2 r14.1).bind fun d15 =>
    (asSl (d15.getD 0 .bad)).bind fun s16 =>
    (asB (d15.getD 1 .bad)).bind fun t17 =>
    (x5).bind fun p18 =>
    (stA r14.2.1 p18.1 (p18.2 + 3) (.slice s16.1 s16.2.1 s16.2.2) 1).bind fun b19 =>
    let h20 := AHeap.put r14.2.1 p18.1 (some b19)
    (cutA h20 x4a x4n x4c 1 (some (.int .i64 3)) none none).bind fun s21 =>
    if (decide ((((s21.2.1 : Nat) : Int) : Int) > 0)) = true then
    ((s21.1).bind fun p22 =>
    if 0 ≤ (0 : Int) ∧ 0 < ((s21.2.1 : Nat) : Int) then
    ((ldA h20 p22.1 (p22.2 + Int.toNat 0 * 1)).bind fun v23 =>
    (asStr v23).bind fun s24 =>
    (x5).bind fun p25 =>
    (stA h20 p25.1 (p25.2 + 1) (.bool (s24.toList == (ByteArray.mk #[100, 111, 110, 101]).toList)) 1).bind fun b26 =>
    let h27 := AHeap.put h20 p25.1 (some b26)
    F9_J2' J J call Y lf x0 x2 s21.1 s21.2.1 s21.2.2 x5 h27 (r14.2.2 + 14))
    else none)
    else
    ((x5).bind fun p28 =>
    (stA h20 p28.1 (p28.2 + 1) (.bool false) 1).bind fun b29 =>
    let h30 := AHeap.put h20 p28.1 (some b29)
    F9_J2' J J call Y lf x0 x2 s21.1 s21.2.1 s21.2.2 x5 h30 (r14.2.2 + 14)))
    else none)
    else none)
    else
    (F9_J3' J J call Y lf x0 x2 x5 h (nx + 3)) := by kernel_rfl

theorem F9_J1_eq (call : YldF → CallF) (Y : YldF) (lf : Nat) (x0 : ByteArray) (x2 : Option (Nat × Nat)) (x4a : Option (Nat × Nat)) (x4n : Nat) (x4c : Option Nat) (x5 : Option (Nat × Nat)) (h : AHeap) (nx : Nat) : F9_J1 call Y lf x0 x2 x4a x4n x4c x5 h nx =
    if (decide ((((x4n : Nat) : Int) : Int) ≥ 3)) = true then
    ((x4a).bind fun p1 =>
    if 0 ≤ (1 : Int) ∧ 1 < ((x4n : Nat) : Int) then
    ((ldA h p1.1 (p1.2 + Int.toNat 1 * 1)).bind fun v2 =>
    (asStr v2).bind fun s3 =>
    (call Y 23 [(.str s3)] h (nx + 12)).bind fun r4 =>
    (asTup 2 r4.1).bind fun d5 =>
    (asI .i64 (d5.getD 0 .bad)).bind fun n6 =>
    (asB (d5.getD 1 .bad)).bind fun t7 =>
    (x5).bind fun p8 =>
    (stA r4.2.1 p8.1 (p8.2 + 2) (.int .i64 n6) 1).bind fun b9 =>
    let h10 := AHeap.put r4.2.1 p8.1 (some b9)
    (x4a).bind fun p11 =>
    if 0 ≤ (2 : Int) ∧ 2 < ((x4n : Nat) : Int) then
    ((ldA h10 p11.1 (p11.2 + Int.toNat 2 * 1)).bind fun v12 =>
    (asStr v12).bind fun s13 =>
    (call Y 24 [(.str s13)] h10 (r4.2.2 + 9)).bind fun r14 =>
    (asTup 2 r14.1).bind fun d15 =>
    (asSl (d15.getD 0 .bad)).bind fun s16 =>
    (asB (d15.getD 1 .bad)).bind fun t17 =>
    (x5).bind fun p18 =>
    (stA r14.2.1 p18.1 (p18.2 + 3) (.slice s16.1 s16.2.1 s16.2.2) 1).bind fun b19 =>
    let h20 := AHeap.put r14.2.1 p18.1 (some b19)
    (cutA h20 x4a x4n x4c 1 (some (.int .i64 3)) none none).bind fun s21 =>
    if (decide ((((s21.2.1 : Nat) : Int) : Int) > 0)) = true then
    ((s21.1).bind fun p22 =>
    if 0 ≤ (0 : Int) ∧ 0 < ((s21.2.1 : Nat) : Int) then
    ((ldA h20 p22.1 (p22.2 + Int.toNat 0 * 1)).bind fun v23 =>
    (asStr v23).bind fun s24 =>
    (x5).bind fun p25 =>
    (stA h20 p25.1 (p25.2 + 1) (.bool (s24.toList == (ByteArray.mk #[100, 111, 110, 101]).toList)) 1).bind fun b26 =>
    let h27 := AHeap.put h20 p25.1 (some b26)
    F9_J2 call Y lf x0 x2 s21.1 s21.2.1 s21.2.2 x5 h27 (r14.2.2 + 14))
    else none)
    else
    ((x5).bind fun p28 =>
    (stA h20 p28.1 (p28.2 + 1) (.bool false) 1).bind fun b29 =>
    let h30 := AHeap.put h20 p28.1 (some b29)
    F9_J2 call Y lf x0 x2 s21.1 s21.2.1 s21.2.2 x5 h30 (r14.2.2 + 14)))
    else none)
    else none)
    else
    (F9_J3 call Y lf x0 x2 x5 h (nx + 3)) := F9_J1_eq' go1 call Y lf x0 x2 x4a x4n x4c x5 h nx

theorem F9_J2_eq' (J : StepF (AV × AHeap × Nat) → StepF (AV × AHeap × Nat)) (call : YldF → CallF) (Y : YldF) (lf : Nat) (x0 : ByteArray) (x2 : Option (Nat × Nat)) (x4a : Option (Nat × Nat)) (x4n : Nat) (x4c : Option Nat) (x5 : Option (Nat × Nat)) (h : AHeap) (nx : Nat) : F9_J2' go1 J call Y lf x0 x2 x4a x4n x4c x5 h nx =
    (x5).bind fun p1 =>
    (ldA h p1.1 (p1.2 + 1)).bind fun v2 =>
    (asB v2).bind fun t3 =>
    if t3 = true then
    ((cutA h x4a x4n x4c 1 (some (.int .i64 1)) none none).bind fun s4 =>
    (x5).bind fun p5 =>
    (stA h p5.1 (p5.2 + 4) (.slice s4.1 s4.2.1 s4.2.2) 1).bind fun b6 =>
    let h7 := AHeap.put h p5.1 (some b6)
    F9_J3' J J call Y lf x0 x2 x5 h7 (nx + 8))
    else
    ((x5).bind fun p8 =>
    (stA h p8.1 (p8.2 + 4) (.slice x4a x4n x4c) 1).bind fun b9 =>
    let h10 := AHeap.put h p8.1 (some b9)
    F9_J3' J J call Y lf x0 x2 x5 h10 (nx + 5)) := by kernel_rfl

theorem F9_J2_eq (call : YldF → CallF) (Y : YldF) (lf : Nat) (x0 : ByteArray) (x2 : Option (Nat × Nat)) (x4a : Option (Nat × Nat)) (x4n : Nat) (x4c : Option Nat) (x5 : Option (Nat × Nat)) (h : AHeap) (nx : Nat) : F9_J2 call Y lf x0 x2 x4a x4n x4c x5 h nx =
    (x5).bind fun p1 =>
    (ldA h p1.1 (p1.2 + 1)).bind fun v2 =>
    (asB v2).bind fun t3 =>
    if t3 = true then
    ((cutA h x4a x4n x4c 1 (some (.int .i64 1)) none none).bind fun s4 =>
    (x5).bind fun p5 =>
    (stA h p5.1 (p5.2 + 4) (.slice s4.1 s4.2.1 s4.2.2) 1).bind fun b6 =>
    let h7 := AHeap.put h p5.1 (some b6)
    F9_J3 call Y lf x0 x2 x5 h7 (nx + 8))
    else
    ((x5).bind fun p8 =>
    (stA h p8.1 (p8.2 + 4) (.slice x4a x4n x4c) 1).bind fun b9 =>
    let h10 := AHeap.put h p8.1 (some b9)
    F9_J3 call Y lf x0 x2 x5 h10 (nx + 5)) := F9_J2_eq' go1 call Y lf x0 x2 x4a x4n x4c x5 h nx

theorem F9_J3_eq' (J : StepF (AV × AHeap × Nat) → StepF (AV × AHeap × Nat)) (call : YldF → CallF) (Y : YldF) (lf : Nat) (x0 : ByteArray) (x2 : Option (Nat × Nat)) (x5 : Option (Nat × Nat)) (h : AHeap) (nx : Nat) : F9_J3' go1 J call Y lf x0 x2 x5 h nx =
    (x5).bind fun p1 =>
    (ldR h p1.1 p1.2 5).bind fun l2 =>
    (asAgg 5 (AV.agg l2)).bind fun d3 =>
    (asI .i64 (d3.getD 0 .bad)).bind fun n4 =>
    (asB (d3.getD 1 .bad)).bind fun t5 =>
    (asI .i64 (d3.getD 2 .bad)).bind fun n6 =>
    (asSl (d3.getD 3 .bad)).bind fun s7 =>
    (asSl (d3.getD 4 .bad)).bind fun s8 =>
    (call Y 8 [(.agg [(.int .i64 n4), (.bool t5), (.int .i64 n6), (.slice s7.1 s7.2.1 s7.2.2), (.slice s8.1 s8.2.1 s8.2.2)])] h (nx + 7)).bind fun r9 =>
    (asTup 2 r9.1).bind fun d10 =>
    (asStr (d10.getD 0 .bad)).bind fun s11 =>
    (asI .i64 (d10.getD 1 .bad)).bind fun n12 =>
    if ((n12 : Int) != 0) = true then
    ((x2).bind fun p13 =>
    (stA r9.2.1 p13.1 p13.2 (.agg [(.int .i64 0), (.bool false), (.int .i64 0), (.slice none 0 none), (.slice none 0 none)]) 5).bind fun b14 =>
    let h15 := AHeap.put r9.2.1 p13.1 (some b14)
    (x2).bind fun p16 =>
    (ldR h15 p16.1 p16.2 5).bind fun l17 =>
    (asAgg 5 (AV.agg l17)).bind fun d18 =>
    (asI .i64 (d18.getD 0 .bad)).bind fun n19 =>
    (asB (d18.getD 1 .bad)).bind fun t20 =>
    (asI .i64 (d18.getD 2 .bad)).bind fun n21 =>
    (asSl (d18.getD 3 .bad)).bind fun s22 =>
    (asSl (d18.getD 4 .bad)).bind fun s23 =>
    some ((.tuple [(.agg [(.int .i64 n19), (.bool t20), (.int .i64 n21), (.slice s22.1 s22.2.1 s22.2.2), (.slice s23.1 s23.2.1 s23.2.2)]), (.int .i64 4)]), h15, (r9.2.2 + 10)))
    else
    (if (!(s11.toList == x0.toList)) = true then
    ((x2).bind fun p24 =>
    (stA r9.2.1 p24.1 p24.2 (.agg [(.int .i64 0), (.bool false), (.int .i64 0), (.slice none 0 none), (.slice none 0 none)]) 5).bind fun b25 =>
    let h26 := AHeap.put r9.2.1 p24.1 (some b25)
    (x2).bind fun p27 =>
    (ldR h26 p27.1 p27.2 5).bind fun l28 =>
    (asAgg 5 (AV.agg l28)).bind fun d29 =>
    (asI .i64 (d29.getD 0 .bad)).bind fun n30 =>
    (asB (d29.getD 1 .bad)).bind fun t31 =>
    (asI .i64 (d29.getD 2 .bad)).bind fun n32 =>
    (asSl (d29.getD 3 .bad)).bind fun s33 =>
    (asSl (d29.getD 4 .bad)).bind fun s34 =>
    some ((.tuple [(.agg [(.int .i64 n30), (.bool t31), (.int .i64 n32), (.slice s33.1 s33.2.1 s33.2.2), (.slice s34.1 s34.2.1 s34.2.2)]), (.int .i64 4)]), h26, (r9.2.2 + 10)))
    else
    (F9_J4' J J call Y lf x2 x5 r9.2.1 (r9.2.2 + 7))) := by kernel_rfl

theorem F9_J3_eq (call : YldF → CallF) (Y : YldF) (lf : Nat) (x0 : ByteArray) (x2 : Option (Nat × Nat)) (x5 : Option (Nat × Nat)) (h : AHeap) (nx : Nat) : F9_J3 call Y lf x0 x2 x5 h nx =
    (x5).bind fun p1 =>
    (ldR h p1.1 p1.2 5).bind fun l2 =>
    (asAgg 5 (AV.agg l2)).bind fun d3 =>
    (asI .i64 (d3.getD 0 .bad)).bind fun n4 =>
    (asB (d3.getD 1 .bad)).bind fun t5 =>
    (asI .i64 (d3.getD 2 .bad)).bind fun n6 =>
    (asSl (d3.getD 3 .bad)).bind fun s7 =>
    (asSl (d3.getD 4 .bad)).bind fun s8 =>
    (call Y 8 [(.agg [(.int .i64 n4), (.bool t5), (.int .i64 n6), (.slice s7.1 s7.2.1 s7.2.2), (.slice s8.1 s8.2.1 s8.2.2)])] h (nx + 7)).bind fun r9 =>
    (asTup 2 r9.1).bind fun d10 =>
    (asStr (d10.getD 0 .bad)).bind fun s11 =>
    (asI .i64 (d10.getD 1 .bad)).bind fun n12 =>
    if ((n12 : Int) != 0) = true then
    ((x2).bind fun p13 =>
    (stA r9.2.1 p13.1 p13.2 (.agg [(.int .i64 0), (.bool false), (.int .i64 0), (.slice none 0 none), (.slice none 0 none)]) 5).bind fun b14 =>
    let h15 := AHeap.put r9.2.1 p13.1 (some b14)
    (x2).bind fun p16 =>
    (ldR h15 p16.1 p16.2 5).bind fun l17 =>
    (asAgg 5 (AV.agg l17)).bind fun d18 =>
    (asI .i64 (d18.getD 0 .bad)).bind fun n19 =>
    (asB (d18.getD 1 .bad)).bind fun t20 =>
    (asI .i64 (d18.getD 2 .bad)).bind fun n21 =>
    (asSl (d18.getD 3 .bad)).bind fun s22 =>
    (asSl (d18.getD 4 .bad)).bind fun s23 =>
    some ((.tuple [(.agg [(.int .i64 n19), (.bool t20), (.int .i64 n21), (.slice s22.1 s22.2.1 s22.2.2), (.slice s23.1 s23.2.1 s23.2.2)]), (.int .i64 4)]), h15, (r9.2.2 + 10)))
    else
    (if (!(s11.toList == x0.toList)) = true then
    ((x2).bind fun p24 =>
    (stA r9.2.1 p24.1 p24.2 (.agg [(.int .i64 0), (.bool false), (.int .i64 0), (.slice none 0 none), (.slice none 0 none)]) 5).bind fun b25 =>
    let h26 := AHeap.put r9.2.1 p24.1 (some b25)
    (x2).bind fun p27 =>
    (ldR h26 p27.1 p27.2 5).bind fun l28 =>
    (asAgg 5 (AV.agg l28)).bind fun d29 =>
    (asI .i64 (d29.getD 0 .bad)).bind fun n30 =>
    (asB (d29.getD 1 .bad)).bind fun t31 =>
    (asI .i64 (d29.getD 2 .bad)).bind fun n32 =>
    (asSl (d29.getD 3 .bad)).bind fun s33 =>
    (asSl (d29.getD 4 .bad)).bind fun s34 =>
    some ((.tuple [(.agg [(.int .i64 n30), (.bool t31), (.int .i64 n32), (.slice s33.1 s33.2.1 s33.2.2), (.slice s34.1 s34.2.1 s34.2.2)]), (.int .i64 4)]), h26, (r9.2.2 + 10)))
    else
    (F9_J4 call Y lf x2 x5 r9.2.1 (r9.2.2 + 7))) := F9_J3_eq' go1 call Y lf x0 x2 x5 h nx

theorem F9_J4_eq' (J : StepF (AV × AHeap × Nat) → StepF (AV × AHeap × Nat)) (call : YldF → CallF) (Y : YldF) (lf : Nat) (x2 : Option (Nat × Nat)) (x5 : Option (Nat × Nat)) (h : AHeap) (nx : Nat) : F9_J4' go1 J call Y lf x2 x5 h nx =
    (x5).bind fun p1 =>
    (ldA h p1.1 (p1.2 + 4)).bind fun v2 =>
    (asSl v2).bind fun s3 =>
    (call Y 25 [(.slice s3.1 s3.2.1 s3.2.2)] h (nx + 5)).bind fun r4 =>
    (asSl r4.1).bind fun s5 =>
    (x5).bind fun p6 =>
    (stA r4.2.1 p6.1 (p6.2 + 4) (.slice s5.1 s5.2.1 s5.2.2) 1).bind fun b7 =>
    let h8 := AHeap.put r4.2.1 p6.1 (some b7)
    (x5).bind fun p9 =>
    (ldR h8 p9.1 p9.2 5).bind fun l10 =>
    (asAgg 5 (AV.agg l10)).bind fun d11 =>
    (asI .i64 (d11.getD 0 .bad)).bind fun n12 =>
    (asB (d11.getD 1 .bad)).bind fun t13 =>
    (asI .i64 (d11.getD 2 .bad)).bind fun n14 =>
    (asSl (d11.getD 3 .bad)).bind fun s15 =>
    (asSl (d11.getD 4 .bad)).bind fun s16 =>
    (x2).bind fun p17 =>
    (stA h8 p17.1 p17.2 (.agg [(.int .i64 n12), (.bool t13), (.int .i64 n14), (.slice s15.1 s15.2.1 s15.2.2), (.slice s16.1 s16.2.1 s16.2.2)]) 5).bind fun b18 =>
    let h19 := AHeap.put h8 p17.1 (some b18)
    (x2).bind fun p20 =>
    (ldR h19 p20.1 p20.2 5).bind fun l21 =>
    (asAgg 5 (AV.agg l21)).bind fun d22 =>
    (asI .i64 (d22.getD 0 .bad)).bind fun n23 =>
    (asB (d22.getD 1 .bad)).bind fun t24 =>
    (asI .i64 (d22.getD 2 .bad)).bind fun n25 =>
    (asSl (d22.getD 3 .bad)).bind fun s26 =>
    (asSl (d22.getD 4 .bad)).bind fun s27 =>
    some ((.tuple [(.agg [(.int .i64 n23), (.bool t24), (.int .i64 n25), (.slice s26.1 s26.2.1 s26.2.2), (.slice s27.1 s27.2.1 s27.2.2)]), (.int .i64 0)]), h19, (r4.2.2 + 3)) := by kernel_rfl

theorem F9_J4_eq (call : YldF → CallF) (Y : YldF) (lf : Nat) (x2 : Option (Nat × Nat)) (x5 : Option (Nat × Nat)) (h : AHeap) (nx : Nat) : F9_J4 call Y lf x2 x5 h nx =
    (x5).bind fun p1 =>
    (ldA h p1.1 (p1.2 + 4)).bind fun v2 =>
    (asSl v2).bind fun s3 =>
    (call Y 25 [(.slice s3.1 s3.2.1 s3.2.2)] h (nx + 5)).bind fun r4 =>
    (asSl r4.1).bind fun s5 =>
    (x5).bind fun p6 =>
    (stA r4.2.1 p6.1 (p6.2 + 4) (.slice s5.1 s5.2.1 s5.2.2) 1).bind fun b7 =>
    let h8 := AHeap.put r4.2.1 p6.1 (some b7)
    (x5).bind fun p9 =>
    (ldR h8 p9.1 p9.2 5).bind fun l10 =>
    (asAgg 5 (AV.agg l10)).bind fun d11 =>
    (asI .i64 (d11.getD 0 .bad)).bind fun n12 =>
    (asB (d11.getD 1 .bad)).bind fun t13 =>
    (asI .i64 (d11.getD 2 .bad)).bind fun n14 =>
    (asSl (d11.getD 3 .bad)).bind fun s15 =>
    (asSl (d11.getD 4 .bad)).bind fun s16 =>
    (x2).bind fun p17 =>
    (stA h8 p17.1 p17.2 (.agg [(.int .i64 n12), (.bool t13), (.int .i64 n14), (.slice s15.1 s15.2.1 s15.2.2), (.slice s16.1 s16.2.1 s16.2.2)]) 5).bind fun b18 =>
    let h19 := AHeap.put h8 p17.1 (some b18)
    (x2).bind fun p20 =>
    (ldR h19 p20.1 p20.2 5).bind fun l21 =>
    (asAgg 5 (AV.agg l21)).bind fun d22 =>
    (asI .i64 (d22.getD 0 .bad)).bind fun n23 =>
    (asB (d22.getD 1 .bad)).bind fun t24 =>
    (asI .i64 (d22.getD 2 .bad)).bind fun n25 =>
    (asSl (d22.getD 3 .bad)).bind fun s26 =>
    (asSl (d22.getD 4 .bad)).bind fun s27 =>
    some ((.tuple [(.agg [(.int .i64 n23), (.bool t24), (.int .i64 n25), (.slice s26.1 s26.2.1 s26.2.2), (.slice s27.1 s27.2.1 s27.2.2)]), (.int .i64 0)]), h19, (r4.2.2 + 3)) := F9_J4_eq' go1 call Y lf x2 x5 h nx

theorem F9_eq' (J : StepF (AV × AHeap × Nat) → StepF (AV × AHeap × Nat)) (n : Nat) (Y : YldF) (x0 : ByteArray) (h : AHeap) (nx : Nat) : rootJ J Tryd.prog keepT (callP Tryd.prog keepT n) Y n 9 [(.str x0)] h nx =
    let h1 := AHeap.put h nx (some ⟨[(.int .i64 0), (.bool false), (.int .i64 0), (.slice none 0 none), (.slice none 0 none)], 5, true⟩)
    ((callP Tryd.prog keepT n) Y 22 [(.str x0), (.str (ByteArray.mk #[32]))] h1 (nx + 5)).bind fun r2 =>
    (asSl r2.1).bind fun s3 =>
    let h4 := AHeap.put r2.2.1 r2.2.2 (some ⟨[(.int .i64 0), (.bool false), (.int .i64 0), (.slice none 0 none), (.slice none 0 none)], 5, true⟩)
    (s3.1).bind fun p5 =>
    if 0 ≤ (0 : Int) ∧ 0 < ((s3.2.1 : Nat) : Int) then
    ((ldA h4 p5.1 (p5.2 + Int.toNat 0 * 1)).bind fun v6 =>
    (asStr v6).bind fun s7 =>
    if (s7.toList == (ByteArray.mk #[110, 111]).toList) = true then
    (if (decide ((((s3.2.1 : Nat) : Int) : Int) > 1)) = true then
    ((s3.1).bind fun p8 =>
    if 0 ≤ (1 : Int) ∧ 1 < ((s3.2.1 : Nat) : Int) then
    ((ldA h4 p8.1 (p8.2 + Int.toNat 1 * 1)).bind fun v9 =>
    (asStr v9).bind fun s10 =>
    ((callP Tryd.prog keepT n) Y 23 [(.str s10)] h4 (r2.2.2 + 19)).bind fun r11 =>
    (asTup 2 r11.1).bind fun d12 =>
    (asI .i64 (d12.getD 0 .bad)).bind fun n13 =>
    (asB (d12.getD 1 .bad)).bind fun t14 =>
    (cutA r11.2.1 s3.1 s3.2.1 s3.2.2 1 (some (.int .i64 1)) none none).bind fun s15 =>
    (stA r11.2.1 r2.2.2 0 (.int .i64 n13) 1).bind fun b16 =>
    let h17 := AHeap.put r11.2.1 r2.2.2 (some b16)
    ifApart [([r2.2.2], (rdOf s3.1))]
    (F9_J1' J J (callP Tryd.prog keepT n) Y n x0 (some (nx, 0)) s15.1 s15.2.1 s15.2.2 (some (r2.2.2, 0)) h17 (r11.2.2 + 6)))
    else none)
    else
    (F9_J1' J J (callP Tryd.prog keepT n) Y n x0 (some (nx, 0)) s3.1 s3.2.1 s3.2.2 (some (r2.2.2, 0)) h4 (r2.2.2 + 10)))
    else
    (F9_J1' J J (callP Tryd.prog keepT n) Y n x0 (some (nx, 0)) s3.1 s3.2.1 s3.2.2 (some (r2.2.2, 0)) h4 (r2.2.2 + 10)))
    else none := by kernel_rfl

/-- quickset/desk.Hear -/
theorem F9_eq (n : Nat) (Y : YldF) (x0 : ByteArray) (h : AHeap) (nx : Nat) : callP Tryd.prog keepT (n + 1) Y 9 [(.str x0)] h nx =
    let h1 := AHeap.put h nx (some ⟨[(.int .i64 0), (.bool false), (.int .i64 0), (.slice none 0 none), (.slice none 0 none)], 5, true⟩)
    ((callP Tryd.prog keepT n) Y 22 [(.str x0), (.str (ByteArray.mk #[32]))] h1 (nx + 5)).bind fun r2 =>
    (asSl r2.1).bind fun s3 =>
    let h4 := AHeap.put r2.2.1 r2.2.2 (some ⟨[(.int .i64 0), (.bool false), (.int .i64 0), (.slice none 0 none), (.slice none 0 none)], 5, true⟩)
    (s3.1).bind fun p5 =>
    if 0 ≤ (0 : Int) ∧ 0 < ((s3.2.1 : Nat) : Int) then
    ((ldA h4 p5.1 (p5.2 + Int.toNat 0 * 1)).bind fun v6 =>
    (asStr v6).bind fun s7 =>
    if (s7.toList == (ByteArray.mk #[110, 111]).toList) = true then
    (if (decide ((((s3.2.1 : Nat) : Int) : Int) > 1)) = true then
    ((s3.1).bind fun p8 =>
    if 0 ≤ (1 : Int) ∧ 1 < ((s3.2.1 : Nat) : Int) then
    ((ldA h4 p8.1 (p8.2 + Int.toNat 1 * 1)).bind fun v9 =>
    (asStr v9).bind fun s10 =>
    ((callP Tryd.prog keepT n) Y 23 [(.str s10)] h4 (r2.2.2 + 19)).bind fun r11 =>
    (asTup 2 r11.1).bind fun d12 =>
    (asI .i64 (d12.getD 0 .bad)).bind fun n13 =>
    (asB (d12.getD 1 .bad)).bind fun t14 =>
    (cutA r11.2.1 s3.1 s3.2.1 s3.2.2 1 (some (.int .i64 1)) none none).bind fun s15 =>
    (stA r11.2.1 r2.2.2 0 (.int .i64 n13) 1).bind fun b16 =>
    let h17 := AHeap.put r11.2.1 r2.2.2 (some b16)
    ifApart [([r2.2.2], (rdOf s3.1))]
    (F9_J1 (callP Tryd.prog keepT n) Y n x0 (some (nx, 0)) s15.1 s15.2.1 s15.2.2 (some (r2.2.2, 0)) h17 (r11.2.2 + 6)))
    else none)
    else
    (F9_J1 (callP Tryd.prog keepT n) Y n x0 (some (nx, 0)) s3.1 s3.2.1 s3.2.2 (some (r2.2.2, 0)) h4 (r2.2.2 + 10)))
    else
    (F9_J1 (callP Tryd.prog keepT n) Y n x0 (some (nx, 0)) s3.1 s3.2.1 s3.2.2 (some (r2.2.2, 0)) h4 (r2.2.2 + 10)))
    else none := F9_eq' go1 n Y x0 h nx

noncomputable def c10 : Code := (Tryd.f10.body).getD .skip

noncomputable def r10 : List ResultVar := Tryd.f10.results.toList

theorem F10_eq' (J : StepF (AV × AHeap × Nat) → StepF (AV × AHeap × Nat)) (n : Nat) (Y : YldF) (x0_0 : Int) (x0_1 : Bool) (x0_2 : Int) (x0_3a : Option (Nat × Nat)) (x0_3n : Nat) (x0_3c : Option Nat) (x0_4a : Option (Nat × Nat)) (x0_4n : Nat) (x0_4c : Option Nat) (x1_0 : Int) (x1_1 : Bool) (x1_2 : Int) (x1_3a : Option (Nat × Nat)) (x1_3n : Nat) (x1_3c : Option Nat) (x1_4a : Option (Nat × Nat)) (x1_4n : Nat) (x1_4c : Option Nat) (h : AHeap) (nx : Nat) : rootJ J Tryd.prog keepT (callP Tryd.prog keepT n) Y n 10 [(.agg [(.int .i64 x0_0), (.bool x0_1), (.int .i64 x0_2), (.slice x0_3a x0_3n x0_3c), (.slice x0_4a x0_4n x0_4c)]), (.agg [(.int .i64 x1_0), (.bool x1_1), (.int .i64 x1_2), (.slice x1_3a x1_3n x1_3c), (.slice x1_4a x1_4n x1_4c)])] h nx =
    let h1 := AHeap.put h nx (some ⟨[(.int .i64 x0_0), (.bool x0_1), (.int .i64 x0_2), (.slice x0_3a x0_3n x0_3c), (.slice x0_4a x0_4n x0_4c)], 5, true⟩)
    let h2 := AHeap.put h1 (nx + 1) (some ⟨[(.int .i64 x1_0), (.bool x1_1), (.int .i64 x1_2), (.slice x1_3a x1_3n x1_3c), (.slice x1_4a x1_4n x1_4c)], 5, true⟩)
    (ldA h2 nx 0).bind fun v3 =>
    (asI .i64 v3).bind fun n4 =>
    (ldA h2 (nx + 1) 0).bind fun v5 =>
    (asI .i64 v5).bind fun n6 =>
    if ((n4 : Int) == n6) = true then
    ((ldA h2 nx 1).bind fun v7 =>
    (asB v7).bind fun t8 =>
    (ldA h2 (nx + 1) 1).bind fun v9 =>
    (asB v9).bind fun t10 =>
    if (t8 == t10) = true then
    ((ldA h2 nx 2).bind fun v11 =>
    (asI .i64 v11).bind fun n12 =>
    (ldA h2 (nx + 1) 2).bind fun v13 =>
    (asI .i64 v13).bind fun n14 =>
    if ((n12 : Int) == n14) = true then
    ((ldA h2 nx 3).bind fun v15 =>
    (asSl v15).bind fun s16 =>
    (ldA h2 (nx + 1) 3).bind fun v17 =>
    (asSl v17).bind fun s18 =>
    ((callP Tryd.prog keepT n) Y 15 [(.slice s16.1 s16.2.1 s16.2.2), (.slice s18.1 s18.2.1 s18.2.2)] h2 (nx + 37)).bind fun r19 =>
    (asB r19.1).bind fun t20 =>
    if t20 = true then
    ((ldA r19.2.1 nx 4).bind fun v21 =>
    (asSl v21).bind fun s22 =>
    (ldA r19.2.1 (nx + 1) 4).bind fun v23 =>
    (asSl v23).bind fun s24 =>
    ((callP Tryd.prog keepT n) Y 26 [(.slice s22.1 s22.2.1 s22.2.2), (.slice s24.1 s24.2.1 s24.2.2)] r19.2.1 r19.2.2).bind fun r25 =>
    (asB r25.1).bind fun t26 =>
    some ((.bool t26), r25.2.1, r25.2.2))
    else
    (some ((.bool false), r19.2.1, r19.2.2)))
    else
    (some ((.bool false), h2, (nx + 37))))
    else
    (some ((.bool false), h2, (nx + 37))))
    else
    (some ((.bool false), h2, (nx + 37))) := by kernel_rfl

/-- quickset/quicksetkeep.SameTold -/
theorem F10_eq (n : Nat) (Y : YldF) (x0_0 : Int) (x0_1 : Bool) (x0_2 : Int) (x0_3a : Option (Nat × Nat)) (x0_3n : Nat) (x0_3c : Option Nat) (x0_4a : Option (Nat × Nat)) (x0_4n : Nat) (x0_4c : Option Nat) (x1_0 : Int) (x1_1 : Bool) (x1_2 : Int) (x1_3a : Option (Nat × Nat)) (x1_3n : Nat) (x1_3c : Option Nat) (x1_4a : Option (Nat × Nat)) (x1_4n : Nat) (x1_4c : Option Nat) (h : AHeap) (nx : Nat) : callP Tryd.prog keepT (n + 1) Y 10 [(.agg [(.int .i64 x0_0), (.bool x0_1), (.int .i64 x0_2), (.slice x0_3a x0_3n x0_3c), (.slice x0_4a x0_4n x0_4c)]), (.agg [(.int .i64 x1_0), (.bool x1_1), (.int .i64 x1_2), (.slice x1_3a x1_3n x1_3c), (.slice x1_4a x1_4n x1_4c)])] h nx =
    let h1 := AHeap.put h nx (some ⟨[(.int .i64 x0_0), (.bool x0_1), (.int .i64 x0_2), (.slice x0_3a x0_3n x0_3c), (.slice x0_4a x0_4n x0_4c)], 5, true⟩)
    let h2 := AHeap.put h1 (nx + 1) (some ⟨[(.int .i64 x1_0), (.bool x1_1), (.int .i64 x1_2), (.slice x1_3a x1_3n x1_3c), (.slice x1_4a x1_4n x1_4c)], 5, true⟩)
    (ldA h2 nx 0).bind fun v3 =>
    (asI .i64 v3).bind fun n4 =>
    (ldA h2 (nx + 1) 0).bind fun v5 =>
    (asI .i64 v5).bind fun n6 =>
    if ((n4 : Int) == n6) = true then
    ((ldA h2 nx 1).bind fun v7 =>
    (asB v7).bind fun t8 =>
    (ldA h2 (nx + 1) 1).bind fun v9 =>
    (asB v9).bind fun t10 =>
    if (t8 == t10) = true then
    ((ldA h2 nx 2).bind fun v11 =>
    (asI .i64 v11).bind fun n12 =>
    (ldA h2 (nx + 1) 2).bind fun v13 =>
    (asI .i64 v13).bind fun n14 =>
    if ((n12 : Int) == n14) = true then
    ((ldA h2 nx 3).bind fun v15 =>
    (asSl v15).bind fun s16 =>
    (ldA h2 (nx + 1) 3).bind fun v17 =>
    (asSl v17).bind fun s18 =>
    ((callP Tryd.prog keepT n) Y 15 [(.slice s16.1 s16.2.1 s16.2.2), (.slice s18.1 s18.2.1 s18.2.2)] h2 (nx + 37)).bind fun r19 =>
    (asB r19.1).bind fun t20 =>
    if t20 = true then
    ((ldA r19.2.1 nx 4).bind fun v21 =>
    (asSl v21).bind fun s22 =>
    (ldA r19.2.1 (nx + 1) 4).bind fun v23 =>
    (asSl v23).bind fun s24 =>
    ((callP Tryd.prog keepT n) Y 26 [(.slice s22.1 s22.2.1 s22.2.2), (.slice s24.1 s24.2.1 s24.2.2)] r19.2.1 r19.2.2).bind fun r25 =>
    (asB r25.1).bind fun t26 =>
    some ((.bool t26), r25.2.1, r25.2.2))
    else
    (some ((.bool false), r19.2.1, r19.2.2)))
    else
    (some ((.bool false), h2, (nx + 37))))
    else
    (some ((.bool false), h2, (nx + 37))))
    else
    (some ((.bool false), h2, (nx + 37))) := F10_eq' go1 n Y x0_0 x0_1 x0_2 x0_3a x0_3n x0_3c x0_4a x0_4n x0_4c x1_0 x1_1 x1_2 x1_3a x1_3n x1_3c x1_4a x1_4n x1_4c h nx

noncomputable def c11 : Code := (Tryd.f11.body).getD .skip

noncomputable def r11 : List ResultVar := Tryd.f11.results.toList

noncomputable def F11_J1' (W J : StepF (AV × AHeap × Nat) → StepF (AV × AHeap × Nat)) (call : YldF → CallF) (Y : YldF) (lf : Nat) (x1 : Int) (x2 : Int) (x3 : Option (Nat × Nat)) (x6 : Option (Nat × Nat)) (x8 : Option (Nat × Nat)) (h : AHeap) (nx : Nat) : Option (AV × AHeap × Nat) :=
  goK W J drawK (machOf Tryd.prog) call Y (keepT 11) lf c11 [1, 1, 1, 1] [] (retK (machOf Tryd.prog) ⟨c11, 83, r11, keepT 11⟩) ⟨83, mkL [(1, (.int .i64 x1)), (2, (.int .i64 x2)), (3, (.ptr x3)), (6, (.ptr x6)), (8, (.ptr x8))], (machOf Tryd.prog).gk⟩ h nx

noncomputable def F11_J1 (call : YldF → CallF) (Y : YldF) (lf : Nat) (x1 : Int) (x2 : Int) (x3 : Option (Nat × Nat)) (x6 : Option (Nat × Nat)) (x8 : Option (Nat × Nat)) (h : AHeap) (nx : Nat) : Option (AV × AHeap × Nat) := F11_J1' go1 go1 call Y lf x1 x2 x3 x6 x8 h nx

noncomputable def F11_J2' (W J : StepF (AV × AHeap × Nat) → StepF (AV × AHeap × Nat)) (call : YldF → CallF) (Y : YldF) (lf : Nat) (x3 : Option (Nat × Nat)) (x6 : Option (Nat × Nat)) (x8 : Option (Nat × Nat)) (h : AHeap) (nx : Nat) : Option (AV × AHeap × Nat) :=
  goK W J drawK (machOf Tryd.prog) call Y (keepT 11) lf c11 [1, 1, 1, 1, 1] [] (retK (machOf Tryd.prog) ⟨c11, 83, r11, keepT 11⟩) ⟨83, mkL [(3, (.ptr x3)), (6, (.ptr x6)), (8, (.ptr x8))], (machOf Tryd.prog).gk⟩ h nx

noncomputable def F11_J2 (call : YldF → CallF) (Y : YldF) (lf : Nat) (x3 : Option (Nat × Nat)) (x6 : Option (Nat × Nat)) (x8 : Option (Nat × Nat)) (h : AHeap) (nx : Nat) : Option (AV × AHeap × Nat) := F11_J2' go1 go1 call Y lf x3 x6 x8 h nx

noncomputable def F11_J3' (W J : StepF (AV × AHeap × Nat) → StepF (AV × AHeap × Nat)) (call : YldF → CallF) (Y : YldF) (lf : Nat) (x3 : Option (Nat × Nat)) (x6 : Option (Nat × Nat)) (x8 : Option (Nat × Nat)) (h : AHeap) (nx : Nat) : Option (AV × AHeap × Nat) :=
  goK W J drawK (machOf Tryd.prog) call Y (keepT 11) lf c11 [1, 1, 1, 1, 1, 1] [] (retK (machOf Tryd.prog) ⟨c11, 83, r11, keepT 11⟩) ⟨83, mkL [(3, (.ptr x3)), (6, (.ptr x6)), (8, (.ptr x8))], (machOf Tryd.prog).gk⟩ h nx

noncomputable def F11_J3 (call : YldF → CallF) (Y : YldF) (lf : Nat) (x3 : Option (Nat × Nat)) (x6 : Option (Nat × Nat)) (x8 : Option (Nat × Nat)) (h : AHeap) (nx : Nat) : Option (AV × AHeap × Nat) := F11_J3' go1 go1 call Y lf x3 x6 x8 h nx

theorem F11_J1_eq' (J : StepF (AV × AHeap × Nat) → StepF (AV × AHeap × Nat)) (call : YldF → CallF) (Y : YldF) (lf : Nat) (x1 : Int) (x2 : Int) (x3 : Option (Nat × Nat)) (x6 : Option (Nat × Nat)) (x8 : Option (Nat × Nat)) (h : AHeap) (nx : Nat) : F11_J1' go1 J call Y lf x1 x2 x3 x6 x8 h nx =
    (x8).bind fun p1 =>
    (ldA h p1.1 p1.2).bind fun v2 =>
    (asI .i64 v2).bind fun n3 =>
    if ((n3 : Int) == 7) = true then
    (if ((n3 : Int) == 7) = true then
    ((x3).bind fun p4 =>
    (ldA h p4.1 (p4.2 + 2)).bind fun v5 =>
    (asI .i64 v5).bind fun n6 =>
    (call Y 27 [(.int .i64 n6)] h (nx + 9)).bind fun r7 =>
    (asStr r7.1).bind fun s8 =>
    (x8).bind fun p9 =>
    (stA r7.2.1 p9.1 (p9.2 + 2) (.str s8) 1).bind fun b10 =>
    let h11 := AHeap.put r7.2.1 p9.1 (some b10)
    F11_J2' J J call Y lf x3 x6 x8 h11 r7.2.2)
    else
    (if ((n3 : Int) == 13) = true then
    (if ((n3 : Int) == 13) = true then
    ((x8).bind fun p12 =>
    (stA h p12.1 (p12.2 + 6) (.int .i64 x1) 1).bind fun b13 =>
    let h14 := AHeap.put h p12.1 (some b13)
    F11_J2' J J call Y lf x3 x6 x8 h14 (nx + 9))
    else
    (if ((n3 : Int) == 15) = true then
    (if ((n3 : Int) == 15) = true then
    ((x8).bind fun p15 =>
    (stA h p15.1 (p15.2 + 5) (.int .i64 x2) 1).bind fun b16 =>
    let h17 := AHeap.put h p15.1 (some b16)
    F11_J2' J J call Y lf x3 x6 x8 h17 (nx + 11))
    else
    (F11_J2' J J call Y lf x3 x6 x8 h (nx + 8)))
    else
    (if ((n3 : Int) == 16) = true then
    (if ((n3 : Int) == 16) = true then
    ((x8).bind fun p18 =>
    (stA h p18.1 (p18.2 + 5) (.int .i64 x2) 1).bind fun b19 =>
    let h20 := AHeap.put h p18.1 (some b19)
    F11_J2' J J call Y lf x3 x6 x8 h20 (nx + 13))
    else
    (F11_J2' J J call Y lf x3 x6 x8 h (nx + 10)))
    else
    (if ((n3 : Int) == 17) = true then
    ((x8).bind fun p21 =>
    (stA h p21.1 (p21.2 + 5) (.int .i64 x2) 1).bind fun b22 =>
    let h23 := AHeap.put h p21.1 (some b22)
    F11_J2' J J call Y lf x3 x6 x8 h23 (nx + 15))
    else
    (F11_J2' J J call Y lf x3 x6 x8 h (nx + 12))))))
    else
    (if ((n3 : Int) == 14) = true then
    (if ((n3 : Int) == 14) = true then
    ((x8).bind fun p24 =>
    (stA h p24.1 (p24.2 + 6) (.int .i64 x1) 1).bind fun b25 =>
    let h26 := AHeap.put h p24.1 (some b25)
    F11_J2' J J call Y lf x3 x6 x8 h26 (nx + 11))
    else
    (if ((n3 : Int) == 15) = true then
    (if ((n3 : Int) == 15) = true then
    ((x8).bind fun p27 =>
    (stA h p27.1 (p27.2 + 5) (.int .i64 x2) 1).bind fun b28 =>
    let h29 := AHeap.put h p27.1 (some b28)
    F11_J2' J J call Y lf x3 x6 x8 h29 (nx + 13))
    else
    (F11_J2' J J call Y lf x3 x6 x8 h (nx + 10)))
    else
    (if ((n3 : Int) == 16) = true then
    (if ((n3 : Int) == 16) = true then
    ((x8).bind fun p30 =>
    (stA h p30.1 (p30.2 + 5) (.int .i64 x2) 1).bind fun b31 =>
    let h32 := AHeap.put h p30.1 (some b31)
    F11_J2' J J call Y lf x3 x6 x8 h32 (nx + 15))
    else
    (F11_J2' J J call Y lf x3 x6 x8 h (nx + 12)))
    else
    (if ((n3 : Int) == 17) = true then
    ((x8).bind fun p33 =>
    (stA h p33.1 (p33.2 + 5) (.int .i64 x2) 1).bind fun b34 =>
    let h35 := AHeap.put h p33.1 (some b34)
    F11_J2' J J call Y lf x3 x6 x8 h35 (nx + 17))
    else
    (F11_J2' J J call Y lf x3 x6 x8 h (nx + 14))))))
    else
    (if ((n3 : Int) == 19) = true then
    ((x8).bind fun p36 =>
    (stA h p36.1 (p36.2 + 6) (.int .i64 x1) 1).bind fun b37 =>
    let h38 := AHeap.put h p36.1 (some b37)
    F11_J2' J J call Y lf x3 x6 x8 h38 (nx + 13))
    else
    (if ((n3 : Int) == 15) = true then
    (if ((n3 : Int) == 15) = true then
    ((x8).bind fun p39 =>
    (stA h p39.1 (p39.2 + 5) (.int .i64 x2) 1).bind fun b40 =>
    let h41 := AHeap.put h p39.1 (some b40)
    F11_J2' J J call Y lf x3 x6 x8 h41 (nx + 15))
    else
    (F11_J2' J J call Y lf x3 x6 x8 h (nx + 12)))
    else
    (if ((n3 : Int) == 16) = true then
    (if ((n3 : Int) == 16) = true then
    ((x8).bind fun p42 =>
    (stA h p42.1 (p42.2 + 5) (.int .i64 x2) 1).bind fun b43 =>
    let h44 := AHeap.put h p42.1 (some b43)
    F11_J2' J J call Y lf x3 x6 x8 h44 (nx + 17))
    else
    (F11_J2' J J call Y lf x3 x6 x8 h (nx + 14)))
    else
    (if ((n3 : Int) == 17) = true then
    ((x8).bind fun p45 =>
    (stA h p45.1 (p45.2 + 5) (.int .i64 x2) 1).bind fun b46 =>
    let h47 := AHeap.put h p45.1 (some b46)
    F11_J2' J J call Y lf x3 x6 x8 h47 (nx + 19))
    else
    (F11_J2' J J call Y lf x3 x6 x8 h (nx + 16)))))))))
    else
    (if ((n3 : Int) == 8) = true then
    (if ((n3 : Int) == 8) = true then
    ((x3).bind fun p48 =>
    (ldA h p48.1 (p48.2 + 2)).bind fun v49 =>
    (asI .i64 v49).bind fun n50 =>
    (call Y 27 [(.int .i64 n50)] h (nx + 11)).bind fun r51 =>
    (asStr r51.1).bind fun s52 =>
    (x8).bind fun p53 =>
    (stA r51.2.1 p53.1 (p53.2 + 2) (.str s52) 1).bind fun b54 =>
    let h55 := AHeap.put r51.2.1 p53.1 (some b54)
    F11_J2' J J call Y lf x3 x6 x8 h55 r51.2.2)
    else
    (if ((n3 : Int) == 13) = true then
    (if ((n3 : Int) == 13) = true then
    ((x8).bind fun p56 =>
    (stA h p56.1 (p56.2 + 6) (.int .i64 x1) 1).bind fun b57 =>
    let h58 := AHeap.put h p56.1 (some b57)
    F11_J2' J J call Y lf x3 x6 x8 h58 (nx + 11))
    else
    (if ((n3 : Int) == 15) = true then
    (if ((n3 : Int) == 15) = true then
    ((x8).bind fun p59 =>
    (stA h p59.1 (p59.2 + 5) (.int .i64 x2) 1).bind fun b60 =>
    let h61 := AHeap.put h p59.1 (some b60)
    F11_J2' J J call Y lf x3 x6 x8 h61 (nx + 13))
    else
    (F11_J2' J J call Y lf x3 x6 x8 h (nx + 10)))
    else
    (if ((n3 : Int) == 16) = true then
    (if ((n3 : Int) == 16) = true then
    ((x8).bind fun p62 =>
    (stA h p62.1 (p62.2 + 5) (.int .i64 x2) 1).bind fun b63 =>
    let h64 := AHeap.put h p62.1 (some b63)
    F11_J2' J J call Y lf x3 x6 x8 h64 (nx + 15))
    else
    (F11_J2' J J call Y lf x3 x6 x8 h (nx + 12)))
    else
    (if ((n3 : Int) == 17) = true then
    ((x8).bind fun p65 =>
    (stA h p65.1 (p65.2 + 5) (.int .i64 x2) 1).bind fun b66 =>
    let h67 := AHeap.put h p65.1 (some b66)
    F11_J2' J J call Y lf x3 x6 x8 h67 (nx + 17))
    else
    (F11_J2' J J call Y lf x3 x6 x8 h (nx + 14))))))
    else
    (if ((n3 : Int) == 14) = true then
    (if ((n3 : Int) == 14) = true then
    ((x8).bind fun p68 =>
    (stA h p68.1 (p68.2 + 6) (.int .i64 x1) 1).bind fun b69 =>
    let h70 := AHeap.put h p68.1 (some b69)
    F11_J2' J J call Y lf x3 x6 x8 h70 (nx + 13))
    else
    (if ((n3 : Int) == 15) = true then
    (if ((n3 : Int) == 15) = true then
    ((x8).bind fun p71 =>
    (stA h p71.1 (p71.2 + 5) (.int .i64 x2) 1).bind fun b72 =>
    let h73 := AHeap.put h p71.1 (some b72)
    F11_J2' J J call Y lf x3 x6 x8 h73 (nx + 15))
    else
    (F11_J2' J J call Y lf x3 x6 x8 h (nx + 12)))
    else
    (if ((n3 : Int) == 16) = true then
    (if ((n3 : Int) == 16) = true then
    ((x8).bind fun p74 =>
    (stA h p74.1 (p74.2 + 5) (.int .i64 x2) 1).bind fun b75 =>
    let h76 := AHeap.put h p74.1 (some b75)
    F11_J2' J J call Y lf x3 x6 x8 h76 (nx + 17))
    else
    (F11_J2' J J call Y lf x3 x6 x8 h (nx + 14)))
    else
    (if ((n3 : Int) == 17) = true then
    ((x8).bind fun p77 =>
    (stA h p77.1 (p77.2 + 5) (.int .i64 x2) 1).bind fun b78 =>
    let h79 := AHeap.put h p77.1 (some b78)
    F11_J2' J J call Y lf x3 x6 x8 h79 (nx + 19))
    else
    (F11_J2' J J call Y lf x3 x6 x8 h (nx + 16))))))
    else
    (if ((n3 : Int) == 19) = true then
    ((x8).bind fun p80 =>
    (stA h p80.1 (p80.2 + 6) (.int .i64 x1) 1).bind fun b81 =>
    let h82 := AHeap.put h p80.1 (some b81)
    F11_J2' J J call Y lf x3 x6 x8 h82 (nx + 15))
    else
    (if ((n3 : Int) == 15) = true then
    (if ((n3 : Int) == 15) = true then
    ((x8).bind fun p83 =>
    (stA h p83.1 (p83.2 + 5) (.int .i64 x2) 1).bind fun b84 =>
    let h85 := AHeap.put h p83.1 (some b84)
    F11_J2' J J call Y lf x3 x6 x8 h85 (nx + 17))
    else
    (F11_J2' J J call Y lf x3 x6 x8 h (nx + 14)))
    else
    (if ((n3 : Int) == 16) = true then
    (if ((n3 : Int) == 16) = true then
    ((x8).bind fun p86 =>
    (stA h p86.1 (p86.2 + 5) (.int .i64 x2) 1).bind fun b87 =>
    let h88 := AHeap.put h p86.1 (some b87)
    F11_J2' J J call Y lf x3 x6 x8 h88 (nx + 19))
    else
    (F11_J2' J J call Y lf x3 x6 x8 h (nx + 16)))
    else
    (if ((n3 : Int) == 17) = true then
    ((x8).bind fun p89 =>
    (stA h p89.1 (p89.2 + 5) (.int .i64 x2) 1).bind fun b90 =>
    let h91 := AHeap.put h p89.1 (some b90)
    F11_J2' J J call Y lf x3 x6 x8 h91 (nx + 21))
    else
    (F11_J2' J J call Y lf x3 x6 x8 h (nx + 18)))))))))
    else
    (if ((n3 : Int) == 9) = true then
    (if ((n3 : Int) == 9) = true then
    ((x3).bind fun p92 =>
    (ldA h p92.1 (p92.2 + 2)).bind fun v93 =>
    (asI .i64 v93).bind fun n94 =>
    (call Y 27 [(.int .i64 n94)] h (nx + 13)).bind fun r95 =>
    (asStr r95.1).bind fun s96 =>
    (x8).bind fun p97 =>
    (stA r95.2.1 p97.1 (p97.2 + 2) (.str s96) 1).bind fun b98 =>
    let h99 := AHeap.put r95.2.1 p97.1 (some b98)
    F11_J2' J J call Y lf x3 x6 x8 h99 r95.2.2)
    else
    (if ((n3 : Int) == 13) = true then
    (if ((n3 : Int) == 13) = true then
    ((x8).bind fun p100 =>
    (stA h p100.1 (p100.2 + 6) (.int .i64 x1) 1).bind fun b101 =>
    let h102 := AHeap.put h p100.1 (some b101)
    F11_J2' J J call Y lf x3 x6 x8 h102 (nx + 13))
    else
    (if ((n3 : Int) == 15) = true then
    (if ((n3 : Int) == 15) = true then
    ((x8).bind fun p103 =>
    (stA h p103.1 (p103.2 + 5) (.int .i64 x2) 1).bind fun b104 =>
    let h105 := AHeap.put h p103.1 (some b104)
    F11_J2' J J call Y lf x3 x6 x8 h105 (nx + 15))
    else
    (F11_J2' J J call Y lf x3 x6 x8 h (nx + 12)))
    else
    (if ((n3 : Int) == 16) = true then
    (if ((n3 : Int) == 16) = true then
    ((x8).bind fun p106 =>
    (stA h p106.1 (p106.2 + 5) (.int .i64 x2) 1).bind fun b107 =>
    let h108 := AHeap.put h p106.1 (some b107)
    F11_J2' J J call Y lf x3 x6 x8 h108 (nx + 17))
    else
    (F11_J2' J J call Y lf x3 x6 x8 h (nx + 14)))
    else
    (if ((n3 : Int) == 17) = true then
    ((x8).bind fun p109 =>
    (stA h p109.1 (p109.2 + 5) (.int .i64 x2) 1).bind fun b110 =>
    let h111 := AHeap.put h p109.1 (some b110)
    F11_J2' J J call Y lf x3 x6 x8 h111 (nx + 19))
    else
    (F11_J2' J J call Y lf x3 x6 x8 h (nx + 16))))))
    else
    (if ((n3 : Int) == 14) = true then
    (if ((n3 : Int) == 14) = true then
    ((x8).bind fun p112 =>
    (stA h p112.1 (p112.2 + 6) (.int .i64 x1) 1).bind fun b113 =>
    let h114 := AHeap.put h p112.1 (some b113)
    F11_J2' J J call Y lf x3 x6 x8 h114 (nx + 15))
    else
    (if ((n3 : Int) == 15) = true then
    (if ((n3 : Int) == 15) = true then
    ((x8).bind fun p115 =>
    (stA h p115.1 (p115.2 + 5) (.int .i64 x2) 1).bind fun b116 =>
    let h117 := AHeap.put h p115.1 (some b116)
    F11_J2' J J call Y lf x3 x6 x8 h117 (nx + 17))
    else
    (F11_J2' J J call Y lf x3 x6 x8 h (nx + 14)))
    else
    (if ((n3 : Int) == 16) = true then
    (if ((n3 : Int) == 16) = true then
    ((x8).bind fun p118 =>
    (stA h p118.1 (p118.2 + 5) (.int .i64 x2) 1).bind fun b119 =>
    let h120 := AHeap.put h p118.1 (some b119)
    F11_J2' J J call Y lf x3 x6 x8 h120 (nx + 19))
    else
    (F11_J2' J J call Y lf x3 x6 x8 h (nx + 16)))
    else
    (if ((n3 : Int) == 17) = true then
    ((x8).bind fun p121 =>
    (stA h p121.1 (p121.2 + 5) (.int .i64 x2) 1).bind fun b122 =>
    let h123 := AHeap.put h p121.1 (some b122)
    F11_J2' J J call Y lf x3 x6 x8 h123 (nx + 21))
    else
    (F11_J2' J J call Y lf x3 x6 x8 h (nx + 18))))))
    else
    (if ((n3 : Int) == 19) = true then
    ((x8).bind fun p124 =>
    (stA h p124.1 (p124.2 + 6) (.int .i64 x1) 1).bind fun b125 =>
    let h126 := AHeap.put h p124.1 (some b125)
    F11_J2' J J call Y lf x3 x6 x8 h126 (nx + 17))
    else
    (if ((n3 : Int) == 15) = true then
    (if ((n3 : Int) == 15) = true then
    ((x8).bind fun p127 =>
    (stA h p127.1 (p127.2 + 5) (.int .i64 x2) 1).bind fun b128 =>
    let h129 := AHeap.put h p127.1 (some b128)
    F11_J2' J J call Y lf x3 x6 x8 h129 (nx + 19))
    else
    (F11_J2' J J call Y lf x3 x6 x8 h (nx + 16)))
    else
    (if ((n3 : Int) == 16) = true then
    (if ((n3 : Int) == 16) = true then
    ((x8).bind fun p130 =>
    (stA h p130.1 (p130.2 + 5) (.int .i64 x2) 1).bind fun b131 =>
    let h132 := AHeap.put h p130.1 (some b131)
    F11_J2' J J call Y lf x3 x6 x8 h132 (nx + 21))
    else
    (F11_J2' J J call Y lf x3 x6 x8 h (nx + 18)))
    else
    (if ((n3 : Int) == 17) = true then
    ((x8).bind fun p133 =>
    (stA h p133.1 (p133.2 + 5) (.int .i64 x2) 1).bind fun b134 =>
    let h135 := AHeap.put h p133.1 (some b134)
    F11_J2' J J call Y lf x3 x6 x8 h135 (nx + 23))
    else
    (F11_J2' J J call Y lf x3 x6 x8 h (nx + 20)))))))))
    else
    (if ((n3 : Int) == 10) = true then
    ((x3).bind fun p136 =>
    (ldA h p136.1 (p136.2 + 2)).bind fun v137 =>
    (asI .i64 v137).bind fun n138 =>
    (call Y 27 [(.int .i64 n138)] h (nx + 15)).bind fun r139 =>
    (asStr r139.1).bind fun s140 =>
    (x8).bind fun p141 =>
    (stA r139.2.1 p141.1 (p141.2 + 2) (.str s140) 1).bind fun b142 =>
    let h143 := AHeap.put r139.2.1 p141.1 (some b142)
    F11_J2' J J call Y lf x3 x6 x8 h143 r139.2.2)
    else
    (if ((n3 : Int) == 13) = true then
    (if ((n3 : Int) == 13) = true then
    ((x8).bind fun p144 =>
    (stA h p144.1 (p144.2 + 6) (.int .i64 x1) 1).bind fun b145 =>
    let h146 := AHeap.put h p144.1 (some b145)
    F11_J2' J J call Y lf x3 x6 x8 h146 (nx + 15))
    else
    (if ((n3 : Int) == 15) = true then
    (if ((n3 : Int) == 15) = true then
    ((x8).bind fun p147 =>
    (stA h p147.1 (p147.2 + 5) (.int .i64 x2) 1).bind fun b148 =>
    let h149 := AHeap.put h p147.1 (some b148)
    F11_J2' J J call Y lf x3 x6 x8 h149 (nx + 17))
    else
    (F11_J2' J J call Y lf x3 x6 x8 h (nx + 14)))
    else
    (if ((n3 : Int) == 16) = true then
    (if ((n3 : Int) == 16) = true then
    ((x8).bind fun p150 =>
    (stA h p150.1 (p150.2 + 5) (.int .i64 x2) 1).bind fun b151 =>
    let h152 := AHeap.put h p150.1 (some b151)
    F11_J2' J J call Y lf x3 x6 x8 h152 (nx + 19))
    else
    (F11_J2' J J call Y lf x3 x6 x8 h (nx + 16)))
    else
    (if ((n3 : Int) == 17) = true then
    ((x8).bind fun p153 =>
    (stA h p153.1 (p153.2 + 5) (.int .i64 x2) 1).bind fun b154 =>
    let h155 := AHeap.put h p153.1 (some b154)
    F11_J2' J J call Y lf x3 x6 x8 h155 (nx + 21))
    else
    (F11_J2' J J call Y lf x3 x6 x8 h (nx + 18))))))
    else
    (if ((n3 : Int) == 14) = true then
    (if ((n3 : Int) == 14) = true then
    ((x8).bind fun p156 =>
    (stA h p156.1 (p156.2 + 6) (.int .i64 x1) 1).bind fun b157 =>
    let h158 := AHeap.put h p156.1 (some b157)
    F11_J2' J J call Y lf x3 x6 x8 h158 (nx + 17))
    else
    (if ((n3 : Int) == 15) = true then
    (if ((n3 : Int) == 15) = true then
    ((x8).bind fun p159 =>
    (stA h p159.1 (p159.2 + 5) (.int .i64 x2) 1).bind fun b160 =>
    let h161 := AHeap.put h p159.1 (some b160)
    F11_J2' J J call Y lf x3 x6 x8 h161 (nx + 19))
    else
    (F11_J2' J J call Y lf x3 x6 x8 h (nx + 16)))
    else
    (if ((n3 : Int) == 16) = true then
    (if ((n3 : Int) == 16) = true then
    ((x8).bind fun p162 =>
    (stA h p162.1 (p162.2 + 5) (.int .i64 x2) 1).bind fun b163 =>
    let h164 := AHeap.put h p162.1 (some b163)
    F11_J2' J J call Y lf x3 x6 x8 h164 (nx + 21))
    else
    (F11_J2' J J call Y lf x3 x6 x8 h (nx + 18)))
    else
    (if ((n3 : Int) == 17) = true then
    ((x8).bind fun p165 =>
    (stA h p165.1 (p165.2 + 5) (.int .i64 x2) 1).bind fun b166 =>
    let h167 := AHeap.put h p165.1 (some b166)
    F11_J2' J J call Y lf x3 x6 x8 h167 (nx + 23))
    else
    (F11_J2' J J call Y lf x3 x6 x8 h (nx + 20))))))
    else
    (if ((n3 : Int) == 19) = true then
    ((x8).bind fun p168 =>
    (stA h p168.1 (p168.2 + 6) (.int .i64 x1) 1).bind fun b169 =>
    let h170 := AHeap.put h p168.1 (some b169)
    F11_J2' J J call Y lf x3 x6 x8 h170 (nx + 19))
    else
    (if ((n3 : Int) == 15) = true then
    (if ((n3 : Int) == 15) = true then
    ((x8).bind fun p171 =>
    (stA h p171.1 (p171.2 + 5) (.int .i64 x2) 1).bind fun b172 =>
    let h173 := AHeap.put h p171.1 (some b172)
    F11_J2' J J call Y lf x3 x6 x8 h173 (nx + 21))
    else
    (F11_J2' J J call Y lf x3 x6 x8 h (nx + 18)))
    else
    (if ((n3 : Int) == 16) = true then
    (if ((n3 : Int) == 16) = true then
    ((x8).bind fun p174 =>
    (stA h p174.1 (p174.2 + 5) (.int .i64 x2) 1).bind fun b175 =>
    let h176 := AHeap.put h p174.1 (some b175)
    F11_J2' J J call Y lf x3 x6 x8 h176 (nx + 23))
    else
    (F11_J2' J J call Y lf x3 x6 x8 h (nx + 20)))
    else
    (if ((n3 : Int) == 17) = true then
    ((x8).bind fun p177 =>
    (stA h p177.1 (p177.2 + 5) (.int .i64 x2) 1).bind fun b178 =>
    let h179 := AHeap.put h p177.1 (some b178)
    F11_J2' J J call Y lf x3 x6 x8 h179 (nx + 25))
    else
    (F11_J2' J J call Y lf x3 x6 x8 h (nx + 22))))))))))) := by kernel_rfl

theorem F11_J1_eq (call : YldF → CallF) (Y : YldF) (lf : Nat) (x1 : Int) (x2 : Int) (x3 : Option (Nat × Nat)) (x6 : Option (Nat × Nat)) (x8 : Option (Nat × Nat)) (h : AHeap) (nx : Nat) : F11_J1 call Y lf x1 x2 x3 x6 x8 h nx =
    (x8).bind fun p1 =>
    (ldA h p1.1 p1.2).bind fun v2 =>
    (asI .i64 v2).bind fun n3 =>
    if ((n3 : Int) == 7) = true then
    (if ((n3 : Int) == 7) = true then
    ((x3).bind fun p4 =>
    (ldA h p4.1 (p4.2 + 2)).bind fun v5 =>
    (asI .i64 v5).bind fun n6 =>
    (call Y 27 [(.int .i64 n6)] h (nx + 9)).bind fun r7 =>
    (asStr r7.1).bind fun s8 =>
    (x8).bind fun p9 =>
    (stA r7.2.1 p9.1 (p9.2 + 2) (.str s8) 1).bind fun b10 =>
    let h11 := AHeap.put r7.2.1 p9.1 (some b10)
    F11_J2 call Y lf x3 x6 x8 h11 r7.2.2)
    else
    (if ((n3 : Int) == 13) = true then
    (if ((n3 : Int) == 13) = true then
    ((x8).bind fun p12 =>
    (stA h p12.1 (p12.2 + 6) (.int .i64 x1) 1).bind fun b13 =>
    let h14 := AHeap.put h p12.1 (some b13)
    F11_J2 call Y lf x3 x6 x8 h14 (nx + 9))
    else
    (if ((n3 : Int) == 15) = true then
    (if ((n3 : Int) == 15) = true then
    ((x8).bind fun p15 =>
    (stA h p15.1 (p15.2 + 5) (.int .i64 x2) 1).bind fun b16 =>
    let h17 := AHeap.put h p15.1 (some b16)
    F11_J2 call Y lf x3 x6 x8 h17 (nx + 11))
    else
    (F11_J2 call Y lf x3 x6 x8 h (nx + 8)))
    else
    (if ((n3 : Int) == 16) = true then
    (if ((n3 : Int) == 16) = true then
    ((x8).bind fun p18 =>
    (stA h p18.1 (p18.2 + 5) (.int .i64 x2) 1).bind fun b19 =>
    let h20 := AHeap.put h p18.1 (some b19)
    F11_J2 call Y lf x3 x6 x8 h20 (nx + 13))
    else
    (F11_J2 call Y lf x3 x6 x8 h (nx + 10)))
    else
    (if ((n3 : Int) == 17) = true then
    ((x8).bind fun p21 =>
    (stA h p21.1 (p21.2 + 5) (.int .i64 x2) 1).bind fun b22 =>
    let h23 := AHeap.put h p21.1 (some b22)
    F11_J2 call Y lf x3 x6 x8 h23 (nx + 15))
    else
    (F11_J2 call Y lf x3 x6 x8 h (nx + 12))))))
    else
    (if ((n3 : Int) == 14) = true then
    (if ((n3 : Int) == 14) = true then
    ((x8).bind fun p24 =>
    (stA h p24.1 (p24.2 + 6) (.int .i64 x1) 1).bind fun b25 =>
    let h26 := AHeap.put h p24.1 (some b25)
    F11_J2 call Y lf x3 x6 x8 h26 (nx + 11))
    else
    (if ((n3 : Int) == 15) = true then
    (if ((n3 : Int) == 15) = true then
    ((x8).bind fun p27 =>
    (stA h p27.1 (p27.2 + 5) (.int .i64 x2) 1).bind fun b28 =>
    let h29 := AHeap.put h p27.1 (some b28)
    F11_J2 call Y lf x3 x6 x8 h29 (nx + 13))
    else
    (F11_J2 call Y lf x3 x6 x8 h (nx + 10)))
    else
    (if ((n3 : Int) == 16) = true then
    (if ((n3 : Int) == 16) = true then
    ((x8).bind fun p30 =>
    (stA h p30.1 (p30.2 + 5) (.int .i64 x2) 1).bind fun b31 =>
    let h32 := AHeap.put h p30.1 (some b31)
    F11_J2 call Y lf x3 x6 x8 h32 (nx + 15))
    else
    (F11_J2 call Y lf x3 x6 x8 h (nx + 12)))
    else
    (if ((n3 : Int) == 17) = true then
    ((x8).bind fun p33 =>
    (stA h p33.1 (p33.2 + 5) (.int .i64 x2) 1).bind fun b34 =>
    let h35 := AHeap.put h p33.1 (some b34)
    F11_J2 call Y lf x3 x6 x8 h35 (nx + 17))
    else
    (F11_J2 call Y lf x3 x6 x8 h (nx + 14))))))
    else
    (if ((n3 : Int) == 19) = true then
    ((x8).bind fun p36 =>
    (stA h p36.1 (p36.2 + 6) (.int .i64 x1) 1).bind fun b37 =>
    let h38 := AHeap.put h p36.1 (some b37)
    F11_J2 call Y lf x3 x6 x8 h38 (nx + 13))
    else
    (if ((n3 : Int) == 15) = true then
    (if ((n3 : Int) == 15) = true then
    ((x8).bind fun p39 =>
    (stA h p39.1 (p39.2 + 5) (.int .i64 x2) 1).bind fun b40 =>
    let h41 := AHeap.put h p39.1 (some b40)
    F11_J2 call Y lf x3 x6 x8 h41 (nx + 15))
    else
    (F11_J2 call Y lf x3 x6 x8 h (nx + 12)))
    else
    (if ((n3 : Int) == 16) = true then
    (if ((n3 : Int) == 16) = true then
    ((x8).bind fun p42 =>
    (stA h p42.1 (p42.2 + 5) (.int .i64 x2) 1).bind fun b43 =>
    let h44 := AHeap.put h p42.1 (some b43)
    F11_J2 call Y lf x3 x6 x8 h44 (nx + 17))
    else
    (F11_J2 call Y lf x3 x6 x8 h (nx + 14)))
    else
    (if ((n3 : Int) == 17) = true then
    ((x8).bind fun p45 =>
    (stA h p45.1 (p45.2 + 5) (.int .i64 x2) 1).bind fun b46 =>
    let h47 := AHeap.put h p45.1 (some b46)
    F11_J2 call Y lf x3 x6 x8 h47 (nx + 19))
    else
    (F11_J2 call Y lf x3 x6 x8 h (nx + 16)))))))))
    else
    (if ((n3 : Int) == 8) = true then
    (if ((n3 : Int) == 8) = true then
    ((x3).bind fun p48 =>
    (ldA h p48.1 (p48.2 + 2)).bind fun v49 =>
    (asI .i64 v49).bind fun n50 =>
    (call Y 27 [(.int .i64 n50)] h (nx + 11)).bind fun r51 =>
    (asStr r51.1).bind fun s52 =>
    (x8).bind fun p53 =>
    (stA r51.2.1 p53.1 (p53.2 + 2) (.str s52) 1).bind fun b54 =>
    let h55 := AHeap.put r51.2.1 p53.1 (some b54)
    F11_J2 call Y lf x3 x6 x8 h55 r51.2.2)
    else
    (if ((n3 : Int) == 13) = true then
    (if ((n3 : Int) == 13) = true then
    ((x8).bind fun p56 =>
    (stA h p56.1 (p56.2 + 6) (.int .i64 x1) 1).bind fun b57 =>
    let h58 := AHeap.put h p56.1 (some b57)
    F11_J2 call Y lf x3 x6 x8 h58 (nx + 11))
    else
    (if ((n3 : Int) == 15) = true then
    (if ((n3 : Int) == 15) = true then
    ((x8).bind fun p59 =>
    (stA h p59.1 (p59.2 + 5) (.int .i64 x2) 1).bind fun b60 =>
    let h61 := AHeap.put h p59.1 (some b60)
    F11_J2 call Y lf x3 x6 x8 h61 (nx + 13))
    else
    (F11_J2 call Y lf x3 x6 x8 h (nx + 10)))
    else
    (if ((n3 : Int) == 16) = true then
    (if ((n3 : Int) == 16) = true then
    ((x8).bind fun p62 =>
    (stA h p62.1 (p62.2 + 5) (.int .i64 x2) 1).bind fun b63 =>
    let h64 := AHeap.put h p62.1 (some b63)
    F11_J2 call Y lf x3 x6 x8 h64 (nx + 15))
    else
    (F11_J2 call Y lf x3 x6 x8 h (nx + 12)))
    else
    (if ((n3 : Int) == 17) = true then
    ((x8).bind fun p65 =>
    (stA h p65.1 (p65.2 + 5) (.int .i64 x2) 1).bind fun b66 =>
    let h67 := AHeap.put h p65.1 (some b66)
    F11_J2 call Y lf x3 x6 x8 h67 (nx + 17))
    else
    (F11_J2 call Y lf x3 x6 x8 h (nx + 14))))))
    else
    (if ((n3 : Int) == 14) = true then
    (if ((n3 : Int) == 14) = true then
    ((x8).bind fun p68 =>
    (stA h p68.1 (p68.2 + 6) (.int .i64 x1) 1).bind fun b69 =>
    let h70 := AHeap.put h p68.1 (some b69)
    F11_J2 call Y lf x3 x6 x8 h70 (nx + 13))
    else
    (if ((n3 : Int) == 15) = true then
    (if ((n3 : Int) == 15) = true then
    ((x8).bind fun p71 =>
    (stA h p71.1 (p71.2 + 5) (.int .i64 x2) 1).bind fun b72 =>
    let h73 := AHeap.put h p71.1 (some b72)
    F11_J2 call Y lf x3 x6 x8 h73 (nx + 15))
    else
    (F11_J2 call Y lf x3 x6 x8 h (nx + 12)))
    else
    (if ((n3 : Int) == 16) = true then
    (if ((n3 : Int) == 16) = true then
    ((x8).bind fun p74 =>
    (stA h p74.1 (p74.2 + 5) (.int .i64 x2) 1).bind fun b75 =>
    let h76 := AHeap.put h p74.1 (some b75)
    F11_J2 call Y lf x3 x6 x8 h76 (nx + 17))
    else
    (F11_J2 call Y lf x3 x6 x8 h (nx + 14)))
    else
    (if ((n3 : Int) == 17) = true then
    ((x8).bind fun p77 =>
    (stA h p77.1 (p77.2 + 5) (.int .i64 x2) 1).bind fun b78 =>
    let h79 := AHeap.put h p77.1 (some b78)
    F11_J2 call Y lf x3 x6 x8 h79 (nx + 19))
    else
    (F11_J2 call Y lf x3 x6 x8 h (nx + 16))))))
    else
    (if ((n3 : Int) == 19) = true then
    ((x8).bind fun p80 =>
    (stA h p80.1 (p80.2 + 6) (.int .i64 x1) 1).bind fun b81 =>
    let h82 := AHeap.put h p80.1 (some b81)
    F11_J2 call Y lf x3 x6 x8 h82 (nx + 15))
    else
    (if ((n3 : Int) == 15) = true then
    (if ((n3 : Int) == 15) = true then
    ((x8).bind fun p83 =>
    (stA h p83.1 (p83.2 + 5) (.int .i64 x2) 1).bind fun b84 =>
    let h85 := AHeap.put h p83.1 (some b84)
    F11_J2 call Y lf x3 x6 x8 h85 (nx + 17))
    else
    (F11_J2 call Y lf x3 x6 x8 h (nx + 14)))
    else
    (if ((n3 : Int) == 16) = true then
    (if ((n3 : Int) == 16) = true then
    ((x8).bind fun p86 =>
    (stA h p86.1 (p86.2 + 5) (.int .i64 x2) 1).bind fun b87 =>
    let h88 := AHeap.put h p86.1 (some b87)
    F11_J2 call Y lf x3 x6 x8 h88 (nx + 19))
    else
    (F11_J2 call Y lf x3 x6 x8 h (nx + 16)))
    else
    (if ((n3 : Int) == 17) = true then
    ((x8).bind fun p89 =>
    (stA h p89.1 (p89.2 + 5) (.int .i64 x2) 1).bind fun b90 =>
    let h91 := AHeap.put h p89.1 (some b90)
    F11_J2 call Y lf x3 x6 x8 h91 (nx + 21))
    else
    (F11_J2 call Y lf x3 x6 x8 h (nx + 18)))))))))
    else
    (if ((n3 : Int) == 9) = true then
    (if ((n3 : Int) == 9) = true then
    ((x3).bind fun p92 =>
    (ldA h p92.1 (p92.2 + 2)).bind fun v93 =>
    (asI .i64 v93).bind fun n94 =>
    (call Y 27 [(.int .i64 n94)] h (nx + 13)).bind fun r95 =>
    (asStr r95.1).bind fun s96 =>
    (x8).bind fun p97 =>
    (stA r95.2.1 p97.1 (p97.2 + 2) (.str s96) 1).bind fun b98 =>
    let h99 := AHeap.put r95.2.1 p97.1 (some b98)
    F11_J2 call Y lf x3 x6 x8 h99 r95.2.2)
    else
    (if ((n3 : Int) == 13) = true then
    (if ((n3 : Int) == 13) = true then
    ((x8).bind fun p100 =>
    (stA h p100.1 (p100.2 + 6) (.int .i64 x1) 1).bind fun b101 =>
    let h102 := AHeap.put h p100.1 (some b101)
    F11_J2 call Y lf x3 x6 x8 h102 (nx + 13))
    else
    (if ((n3 : Int) == 15) = true then
    (if ((n3 : Int) == 15) = true then
    ((x8).bind fun p103 =>
    (stA h p103.1 (p103.2 + 5) (.int .i64 x2) 1).bind fun b104 =>
    let h105 := AHeap.put h p103.1 (some b104)
    F11_J2 call Y lf x3 x6 x8 h105 (nx + 15))
    else
    (F11_J2 call Y lf x3 x6 x8 h (nx + 12)))
    else
    (if ((n3 : Int) == 16) = true then
    (if ((n3 : Int) == 16) = true then
    ((x8).bind fun p106 =>
    (stA h p106.1 (p106.2 + 5) (.int .i64 x2) 1).bind fun b107 =>
    let h108 := AHeap.put h p106.1 (some b107)
    F11_J2 call Y lf x3 x6 x8 h108 (nx + 17))
    else
    (F11_J2 call Y lf x3 x6 x8 h (nx + 14)))
    else
    (if ((n3 : Int) == 17) = true then
    ((x8).bind fun p109 =>
    (stA h p109.1 (p109.2 + 5) (.int .i64 x2) 1).bind fun b110 =>
    let h111 := AHeap.put h p109.1 (some b110)
    F11_J2 call Y lf x3 x6 x8 h111 (nx + 19))
    else
    (F11_J2 call Y lf x3 x6 x8 h (nx + 16))))))
    else
    (if ((n3 : Int) == 14) = true then
    (if ((n3 : Int) == 14) = true then
    ((x8).bind fun p112 =>
    (stA h p112.1 (p112.2 + 6) (.int .i64 x1) 1).bind fun b113 =>
    let h114 := AHeap.put h p112.1 (some b113)
    F11_J2 call Y lf x3 x6 x8 h114 (nx + 15))
    else
    (if ((n3 : Int) == 15) = true then
    (if ((n3 : Int) == 15) = true then
    ((x8).bind fun p115 =>
    (stA h p115.1 (p115.2 + 5) (.int .i64 x2) 1).bind fun b116 =>
    let h117 := AHeap.put h p115.1 (some b116)
    F11_J2 call Y lf x3 x6 x8 h117 (nx + 17))
    else
    (F11_J2 call Y lf x3 x6 x8 h (nx + 14)))
    else
    (if ((n3 : Int) == 16) = true then
    (if ((n3 : Int) == 16) = true then
    ((x8).bind fun p118 =>
    (stA h p118.1 (p118.2 + 5) (.int .i64 x2) 1).bind fun b119 =>
    let h120 := AHeap.put h p118.1 (some b119)
    F11_J2 call Y lf x3 x6 x8 h120 (nx + 19))
    else
    (F11_J2 call Y lf x3 x6 x8 h (nx + 16)))
    else
    (if ((n3 : Int) == 17) = true then
    ((x8).bind fun p121 =>
    (stA h p121.1 (p121.2 + 5) (.int .i64 x2) 1).bind fun b122 =>
    let h123 := AHeap.put h p121.1 (some b122)
    F11_J2 call Y lf x3 x6 x8 h123 (nx + 21))
    else
    (F11_J2 call Y lf x3 x6 x8 h (nx + 18))))))
    else
    (if ((n3 : Int) == 19) = true then
    ((x8).bind fun p124 =>
    (stA h p124.1 (p124.2 + 6) (.int .i64 x1) 1).bind fun b125 =>
    let h126 := AHeap.put h p124.1 (some b125)
    F11_J2 call Y lf x3 x6 x8 h126 (nx + 17))
    else
    (if ((n3 : Int) == 15) = true then
    (if ((n3 : Int) == 15) = true then
    ((x8).bind fun p127 =>
    (stA h p127.1 (p127.2 + 5) (.int .i64 x2) 1).bind fun b128 =>
    let h129 := AHeap.put h p127.1 (some b128)
    F11_J2 call Y lf x3 x6 x8 h129 (nx + 19))
    else
    (F11_J2 call Y lf x3 x6 x8 h (nx + 16)))
    else
    (if ((n3 : Int) == 16) = true then
    (if ((n3 : Int) == 16) = true then
    ((x8).bind fun p130 =>
    (stA h p130.1 (p130.2 + 5) (.int .i64 x2) 1).bind fun b131 =>
    let h132 := AHeap.put h p130.1 (some b131)
    F11_J2 call Y lf x3 x6 x8 h132 (nx + 21))
    else
    (F11_J2 call Y lf x3 x6 x8 h (nx + 18)))
    else
    (if ((n3 : Int) == 17) = true then
    ((x8).bind fun p133 =>
    (stA h p133.1 (p133.2 + 5) (.int .i64 x2) 1).bind fun b134 =>
    let h135 := AHeap.put h p133.1 (some b134)
    F11_J2 call Y lf x3 x6 x8 h135 (nx + 23))
    else
    (F11_J2 call Y lf x3 x6 x8 h (nx + 20)))))))))
    else
    (if ((n3 : Int) == 10) = true then
    ((x3).bind fun p136 =>
    (ldA h p136.1 (p136.2 + 2)).bind fun v137 =>
    (asI .i64 v137).bind fun n138 =>
    (call Y 27 [(.int .i64 n138)] h (nx + 15)).bind fun r139 =>
    (asStr r139.1).bind fun s140 =>
    (x8).bind fun p141 =>
    (stA r139.2.1 p141.1 (p141.2 + 2) (.str s140) 1).bind fun b142 =>
    let h143 := AHeap.put r139.2.1 p141.1 (some b142)
    F11_J2 call Y lf x3 x6 x8 h143 r139.2.2)
    else
    (if ((n3 : Int) == 13) = true then
    (if ((n3 : Int) == 13) = true then
    ((x8).bind fun p144 =>
    (stA h p144.1 (p144.2 + 6) (.int .i64 x1) 1).bind fun b145 =>
    let h146 := AHeap.put h p144.1 (some b145)
    F11_J2 call Y lf x3 x6 x8 h146 (nx + 15))
    else
    (if ((n3 : Int) == 15) = true then
    (if ((n3 : Int) == 15) = true then
    ((x8).bind fun p147 =>
    (stA h p147.1 (p147.2 + 5) (.int .i64 x2) 1).bind fun b148 =>
    let h149 := AHeap.put h p147.1 (some b148)
    F11_J2 call Y lf x3 x6 x8 h149 (nx + 17))
    else
    (F11_J2 call Y lf x3 x6 x8 h (nx + 14)))
    else
    (if ((n3 : Int) == 16) = true then
    (if ((n3 : Int) == 16) = true then
    ((x8).bind fun p150 =>
    (stA h p150.1 (p150.2 + 5) (.int .i64 x2) 1).bind fun b151 =>
    let h152 := AHeap.put h p150.1 (some b151)
    F11_J2 call Y lf x3 x6 x8 h152 (nx + 19))
    else
    (F11_J2 call Y lf x3 x6 x8 h (nx + 16)))
    else
    (if ((n3 : Int) == 17) = true then
    ((x8).bind fun p153 =>
    (stA h p153.1 (p153.2 + 5) (.int .i64 x2) 1).bind fun b154 =>
    let h155 := AHeap.put h p153.1 (some b154)
    F11_J2 call Y lf x3 x6 x8 h155 (nx + 21))
    else
    (F11_J2 call Y lf x3 x6 x8 h (nx + 18))))))
    else
    (if ((n3 : Int) == 14) = true then
    (if ((n3 : Int) == 14) = true then
    ((x8).bind fun p156 =>
    (stA h p156.1 (p156.2 + 6) (.int .i64 x1) 1).bind fun b157 =>
    let h158 := AHeap.put h p156.1 (some b157)
    F11_J2 call Y lf x3 x6 x8 h158 (nx + 17))
    else
    (if ((n3 : Int) == 15) = true then
    (if ((n3 : Int) == 15) = true then
    ((x8).bind fun p159 =>
    (stA h p159.1 (p159.2 + 5) (.int .i64 x2) 1).bind fun b160 =>
    let h161 := AHeap.put h p159.1 (some b160)
    F11_J2 call Y lf x3 x6 x8 h161 (nx + 19))
    else
    (F11_J2 call Y lf x3 x6 x8 h (nx + 16)))
    else
    (if ((n3 : Int) == 16) = true then
    (if ((n3 : Int) == 16) = true then
    ((x8).bind fun p162 =>
    (stA h p162.1 (p162.2 + 5) (.int .i64 x2) 1).bind fun b163 =>
    let h164 := AHeap.put h p162.1 (some b163)
    F11_J2 call Y lf x3 x6 x8 h164 (nx + 21))
    else
    (F11_J2 call Y lf x3 x6 x8 h (nx + 18)))
    else
    (if ((n3 : Int) == 17) = true then
    ((x8).bind fun p165 =>
    (stA h p165.1 (p165.2 + 5) (.int .i64 x2) 1).bind fun b166 =>
    let h167 := AHeap.put h p165.1 (some b166)
    F11_J2 call Y lf x3 x6 x8 h167 (nx + 23))
    else
    (F11_J2 call Y lf x3 x6 x8 h (nx + 20))))))
    else
    (if ((n3 : Int) == 19) = true then
    ((x8).bind fun p168 =>
    (stA h p168.1 (p168.2 + 6) (.int .i64 x1) 1).bind fun b169 =>
    let h170 := AHeap.put h p168.1 (some b169)
    F11_J2 call Y lf x3 x6 x8 h170 (nx + 19))
    else
    (if ((n3 : Int) == 15) = true then
    (if ((n3 : Int) == 15) = true then
    ((x8).bind fun p171 =>
    (stA h p171.1 (p171.2 + 5) (.int .i64 x2) 1).bind fun b172 =>
    let h173 := AHeap.put h p171.1 (some b172)
    F11_J2 call Y lf x3 x6 x8 h173 (nx + 21))
    else
    (F11_J2 call Y lf x3 x6 x8 h (nx + 18)))
    else
    (if ((n3 : Int) == 16) = true then
    (if ((n3 : Int) == 16) = true then
    ((x8).bind fun p174 =>
    (stA h p174.1 (p174.2 + 5) (.int .i64 x2) 1).bind fun b175 =>
    let h176 := AHeap.put h p174.1 (some b175)
    F11_J2 call Y lf x3 x6 x8 h176 (nx + 23))
    else
    (F11_J2 call Y lf x3 x6 x8 h (nx + 20)))
    else
    (if ((n3 : Int) == 17) = true then
    ((x8).bind fun p177 =>
    (stA h p177.1 (p177.2 + 5) (.int .i64 x2) 1).bind fun b178 =>
    let h179 := AHeap.put h p177.1 (some b178)
    F11_J2 call Y lf x3 x6 x8 h179 (nx + 25))
    else
    (F11_J2 call Y lf x3 x6 x8 h (nx + 22))))))))))) := F11_J1_eq' go1 call Y lf x1 x2 x3 x6 x8 h nx

theorem F11_J2_eq' (J : StepF (AV × AHeap × Nat) → StepF (AV × AHeap × Nat)) (call : YldF → CallF) (Y : YldF) (lf : Nat) (x3 : Option (Nat × Nat)) (x6 : Option (Nat × Nat)) (x8 : Option (Nat × Nat)) (h : AHeap) (nx : Nat) : F11_J2' go1 J call Y lf x3 x6 x8 h nx =
    (x8).bind fun p1 =>
    (ldA h p1.1 p1.2).bind fun v2 =>
    (asI .i64 v2).bind fun n3 =>
    if ((n3 : Int) == 2) = true then
    (if ((n3 : Int) == 2) = true then
    ((x3).bind fun p4 =>
    (ldA h p4.1 (p4.2 + 3)).bind fun v5 =>
    (asI .i64 v5).bind fun n6 =>
    (x8).bind fun p7 =>
    (stA h p7.1 (p7.2 + 3) (.int .i64 n6) 1).bind fun b8 =>
    let h9 := AHeap.put h p7.1 (some b8)
    F11_J3' J J call Y lf x3 x6 x8 h9 (nx + 8))
    else
    (F11_J3' J J call Y lf x3 x6 x8 h (nx + 4)))
    else
    (if ((n3 : Int) == 3) = true then
    (if ((n3 : Int) == 3) = true then
    ((x3).bind fun p10 =>
    (ldA h p10.1 (p10.2 + 3)).bind fun v11 =>
    (asI .i64 v11).bind fun n12 =>
    (x8).bind fun p13 =>
    (stA h p13.1 (p13.2 + 3) (.int .i64 n12) 1).bind fun b14 =>
    let h15 := AHeap.put h p13.1 (some b14)
    F11_J3' J J call Y lf x3 x6 x8 h15 (nx + 10))
    else
    (F11_J3' J J call Y lf x3 x6 x8 h (nx + 6)))
    else
    (if ((n3 : Int) == 8) = true then
    (if ((n3 : Int) == 8) = true then
    ((x3).bind fun p16 =>
    (ldA h p16.1 (p16.2 + 3)).bind fun v17 =>
    (asI .i64 v17).bind fun n18 =>
    (x8).bind fun p19 =>
    (stA h p19.1 (p19.2 + 3) (.int .i64 n18) 1).bind fun b20 =>
    let h21 := AHeap.put h p19.1 (some b20)
    F11_J3' J J call Y lf x3 x6 x8 h21 (nx + 12))
    else
    (F11_J3' J J call Y lf x3 x6 x8 h (nx + 8)))
    else
    (if ((n3 : Int) == 15) = true then
    ((x3).bind fun p22 =>
    (ldA h p22.1 (p22.2 + 3)).bind fun v23 =>
    (asI .i64 v23).bind fun n24 =>
    (x8).bind fun p25 =>
    (stA h p25.1 (p25.2 + 3) (.int .i64 n24) 1).bind fun b26 =>
    let h27 := AHeap.put h p25.1 (some b26)
    F11_J3' J J call Y lf x3 x6 x8 h27 (nx + 14))
    else
    (F11_J3' J J call Y lf x3 x6 x8 h (nx + 10))))) := by kernel_rfl

theorem F11_J2_eq (call : YldF → CallF) (Y : YldF) (lf : Nat) (x3 : Option (Nat × Nat)) (x6 : Option (Nat × Nat)) (x8 : Option (Nat × Nat)) (h : AHeap) (nx : Nat) : F11_J2 call Y lf x3 x6 x8 h nx =
    (x8).bind fun p1 =>
    (ldA h p1.1 p1.2).bind fun v2 =>
    (asI .i64 v2).bind fun n3 =>
    if ((n3 : Int) == 2) = true then
    (if ((n3 : Int) == 2) = true then
    ((x3).bind fun p4 =>
    (ldA h p4.1 (p4.2 + 3)).bind fun v5 =>
    (asI .i64 v5).bind fun n6 =>
    (x8).bind fun p7 =>
    (stA h p7.1 (p7.2 + 3) (.int .i64 n6) 1).bind fun b8 =>
    let h9 := AHeap.put h p7.1 (some b8)
    F11_J3 call Y lf x3 x6 x8 h9 (nx + 8))
    else
    (F11_J3 call Y lf x3 x6 x8 h (nx + 4)))
    else
    (if ((n3 : Int) == 3) = true then
    (if ((n3 : Int) == 3) = true then
    ((x3).bind fun p10 =>
    (ldA h p10.1 (p10.2 + 3)).bind fun v11 =>
    (asI .i64 v11).bind fun n12 =>
    (x8).bind fun p13 =>
    (stA h p13.1 (p13.2 + 3) (.int .i64 n12) 1).bind fun b14 =>
    let h15 := AHeap.put h p13.1 (some b14)
    F11_J3 call Y lf x3 x6 x8 h15 (nx + 10))
    else
    (F11_J3 call Y lf x3 x6 x8 h (nx + 6)))
    else
    (if ((n3 : Int) == 8) = true then
    (if ((n3 : Int) == 8) = true then
    ((x3).bind fun p16 =>
    (ldA h p16.1 (p16.2 + 3)).bind fun v17 =>
    (asI .i64 v17).bind fun n18 =>
    (x8).bind fun p19 =>
    (stA h p19.1 (p19.2 + 3) (.int .i64 n18) 1).bind fun b20 =>
    let h21 := AHeap.put h p19.1 (some b20)
    F11_J3 call Y lf x3 x6 x8 h21 (nx + 12))
    else
    (F11_J3 call Y lf x3 x6 x8 h (nx + 8)))
    else
    (if ((n3 : Int) == 15) = true then
    ((x3).bind fun p22 =>
    (ldA h p22.1 (p22.2 + 3)).bind fun v23 =>
    (asI .i64 v23).bind fun n24 =>
    (x8).bind fun p25 =>
    (stA h p25.1 (p25.2 + 3) (.int .i64 n24) 1).bind fun b26 =>
    let h27 := AHeap.put h p25.1 (some b26)
    F11_J3 call Y lf x3 x6 x8 h27 (nx + 14))
    else
    (F11_J3 call Y lf x3 x6 x8 h (nx + 10))))) := F11_J2_eq' go1 call Y lf x3 x6 x8 h nx

theorem F11_J3_eq' (J : StepF (AV × AHeap × Nat) → StepF (AV × AHeap × Nat)) (call : YldF → CallF) (Y : YldF) (lf : Nat) (x3 : Option (Nat × Nat)) (x6 : Option (Nat × Nat)) (x8 : Option (Nat × Nat)) (h : AHeap) (nx : Nat) : F11_J3' go1 J call Y lf x3 x6 x8 h nx =
    (x8).bind fun p1 =>
    (ldA h p1.1 p1.2).bind fun v2 =>
    (asI .i64 v2).bind fun n3 =>
    if ((n3 : Int) == 3) = true then
    (if ((n3 : Int) == 3) = true then
    ((x3).bind fun p4 =>
    (ldA h p4.1 (p4.2 + 4)).bind fun v5 =>
    (asI .i64 v5).bind fun n6 =>
    (x8).bind fun p7 =>
    (stA h p7.1 (p7.2 + 4) (.int .i64 n6) 1).bind fun b8 =>
    let h9 := AHeap.put h p7.1 (some b8)
    (x8).bind fun p10 =>
    (ldR h9 p10.1 p10.2 8).bind fun l11 =>
    (asAgg 8 (AV.agg l11)).bind fun d12 =>
    (asI .i64 (d12.getD 0 .bad)).bind fun n13 =>
    (asStr (d12.getD 1 .bad)).bind fun s14 =>
    (asStr (d12.getD 2 .bad)).bind fun s15 =>
    (asI .i64 (d12.getD 3 .bad)).bind fun n16 =>
    (asI .i64 (d12.getD 4 .bad)).bind fun n17 =>
    (asI .i64 (d12.getD 5 .bad)).bind fun n18 =>
    (asI .i64 (d12.getD 6 .bad)).bind fun n19 =>
    (asSl (d12.getD 7 .bad)).bind fun s20 =>
    (x6).bind fun p21 =>
    (stA h9 p21.1 p21.2 (.agg [(.int .i64 n13), (.str s14), (.str s15), (.int .i64 n16), (.int .i64 n17), (.int .i64 n18), (.int .i64 n19), (.slice s20.1 s20.2.1 s20.2.2)]) 8).bind fun b22 =>
    let h23 := AHeap.put h9 p21.1 (some b22)
    (x6).bind fun p24 =>
    (ldR h23 p24.1 p24.2 8).bind fun l25 =>
    (asAgg 8 (AV.agg l25)).bind fun d26 =>
    (asI .i64 (d26.getD 0 .bad)).bind fun n27 =>
    (asStr (d26.getD 1 .bad)).bind fun s28 =>
    (asStr (d26.getD 2 .bad)).bind fun s29 =>
    (asI .i64 (d26.getD 3 .bad)).bind fun n30 =>
    (asI .i64 (d26.getD 4 .bad)).bind fun n31 =>
    (asI .i64 (d26.getD 5 .bad)).bind fun n32 =>
    (asI .i64 (d26.getD 6 .bad)).bind fun n33 =>
    (asSl (d26.getD 7 .bad)).bind fun s34 =>
    some ((.agg [(.int .i64 n27), (.str s28), (.str s29), (.int .i64 n30), (.int .i64 n31), (.int .i64 n32), (.int .i64 n33), (.slice s34.1 s34.2.1 s34.2.2)]), h23, (nx + 10)))
    else
    (if ((n3 : Int) == 2) = true then
    ((x3).bind fun p35 =>
    (ldA h p35.1 (p35.2 + 5)).bind fun v36 =>
    (asSl v36).bind fun s37 =>
    (srcS h s37.1 s37.2.1 1).bind fun q38 =>
    (appD h none 0 none 1 1 (nx + 8) q38).bind fun e39 =>
    let h40 := AHeap.puts h e39.sets
    (x8).bind fun p41 =>
    (stA h40 p41.1 (p41.2 + 7) (.slice e39.a e39.n e39.c) 1).bind fun b42 =>
    let h43 := AHeap.put h40 p41.1 (some b42)
    (x8).bind fun p44 =>
    (ldR h43 p44.1 p44.2 8).bind fun l45 =>
    (asAgg 8 (AV.agg l45)).bind fun d46 =>
    (asI .i64 (d46.getD 0 .bad)).bind fun n47 =>
    (asStr (d46.getD 1 .bad)).bind fun s48 =>
    (asStr (d46.getD 2 .bad)).bind fun s49 =>
    (asI .i64 (d46.getD 3 .bad)).bind fun n50 =>
    (asI .i64 (d46.getD 4 .bad)).bind fun n51 =>
    (asI .i64 (d46.getD 5 .bad)).bind fun n52 =>
    (asI .i64 (d46.getD 6 .bad)).bind fun n53 =>
    (asSl (d46.getD 7 .bad)).bind fun s54 =>
    (x6).bind fun p55 =>
    (stA h43 p55.1 p55.2 (.agg [(.int .i64 n47), (.str s48), (.str s49), (.int .i64 n50), (.int .i64 n51), (.int .i64 n52), (.int .i64 n53), (.slice s54.1 s54.2.1 s54.2.2)]) 8).bind fun b56 =>
    let h57 := AHeap.put h43 p55.1 (some b56)
    (x6).bind fun p58 =>
    (ldR h57 p58.1 p58.2 8).bind fun l59 =>
    (asAgg 8 (AV.agg l59)).bind fun d60 =>
    (asI .i64 (d60.getD 0 .bad)).bind fun n61 =>
    (asStr (d60.getD 1 .bad)).bind fun s62 =>
    (asStr (d60.getD 2 .bad)).bind fun s63 =>
    (asI .i64 (d60.getD 3 .bad)).bind fun n64 =>
    (asI .i64 (d60.getD 4 .bad)).bind fun n65 =>
    (asI .i64 (d60.getD 5 .bad)).bind fun n66 =>
    (asI .i64 (d60.getD 6 .bad)).bind fun n67 =>
    (asSl (d60.getD 7 .bad)).bind fun s68 =>
    some ((.agg [(.int .i64 n61), (.str s62), (.str s63), (.int .i64 n64), (.int .i64 n65), (.int .i64 n66), (.int .i64 n67), (.slice s68.1 s68.2.1 s68.2.2)]), h57, (nx + 13)))
    else
    ((x8).bind fun p69 =>
    (ldR h p69.1 p69.2 8).bind fun l70 =>
    (asAgg 8 (AV.agg l70)).bind fun d71 =>
    (asI .i64 (d71.getD 0 .bad)).bind fun n72 =>
    (asStr (d71.getD 1 .bad)).bind fun s73 =>
    (asStr (d71.getD 2 .bad)).bind fun s74 =>
    (asI .i64 (d71.getD 3 .bad)).bind fun n75 =>
    (asI .i64 (d71.getD 4 .bad)).bind fun n76 =>
    (asI .i64 (d71.getD 5 .bad)).bind fun n77 =>
    (asI .i64 (d71.getD 6 .bad)).bind fun n78 =>
    (asSl (d71.getD 7 .bad)).bind fun s79 =>
    (x6).bind fun p80 =>
    (stA h p80.1 p80.2 (.agg [(.int .i64 n72), (.str s73), (.str s74), (.int .i64 n75), (.int .i64 n76), (.int .i64 n77), (.int .i64 n78), (.slice s79.1 s79.2.1 s79.2.2)]) 8).bind fun b81 =>
    let h82 := AHeap.put h p80.1 (some b81)
    (x6).bind fun p83 =>
    (ldR h82 p83.1 p83.2 8).bind fun l84 =>
    (asAgg 8 (AV.agg l84)).bind fun d85 =>
    (asI .i64 (d85.getD 0 .bad)).bind fun n86 =>
    (asStr (d85.getD 1 .bad)).bind fun s87 =>
    (asStr (d85.getD 2 .bad)).bind fun s88 =>
    (asI .i64 (d85.getD 3 .bad)).bind fun n89 =>
    (asI .i64 (d85.getD 4 .bad)).bind fun n90 =>
    (asI .i64 (d85.getD 5 .bad)).bind fun n91 =>
    (asI .i64 (d85.getD 6 .bad)).bind fun n92 =>
    (asSl (d85.getD 7 .bad)).bind fun s93 =>
    some ((.agg [(.int .i64 n86), (.str s87), (.str s88), (.int .i64 n89), (.int .i64 n90), (.int .i64 n91), (.int .i64 n92), (.slice s93.1 s93.2.1 s93.2.2)]), h82, (nx + 8)))))
    else
    (if ((n3 : Int) == 8) = true then
    (if ((n3 : Int) == 8) = true then
    ((x3).bind fun p94 =>
    (ldA h p94.1 (p94.2 + 4)).bind fun v95 =>
    (asI .i64 v95).bind fun n96 =>
    (x8).bind fun p97 =>
    (stA h p97.1 (p97.2 + 4) (.int .i64 n96) 1).bind fun b98 =>
    let h99 := AHeap.put h p97.1 (some b98)
    (x8).bind fun p100 =>
    (ldR h99 p100.1 p100.2 8).bind fun l101 =>
    (asAgg 8 (AV.agg l101)).bind fun d102 =>
    (asI .i64 (d102.getD 0 .bad)).bind fun n103 =>
    (asStr (d102.getD 1 .bad)).bind fun s104 =>
    (asStr (d102.getD 2 .bad)).bind fun s105 =>
    (asI .i64 (d102.getD 3 .bad)).bind fun n106 =>
    (asI .i64 (d102.getD 4 .bad)).bind fun n107 =>
    (asI .i64 (d102.getD 5 .bad)).bind fun n108 =>
    (asI .i64 (d102.getD 6 .bad)).bind fun n109 =>
    (asSl (d102.getD 7 .bad)).bind fun s110 =>
    (x6).bind fun p111 =>
    (stA h99 p111.1 p111.2 (.agg [(.int .i64 n103), (.str s104), (.str s105), (.int .i64 n106), (.int .i64 n107), (.int .i64 n108), (.int .i64 n109), (.slice s110.1 s110.2.1 s110.2.2)]) 8).bind fun b112 =>
    let h113 := AHeap.put h99 p111.1 (some b112)
    (x6).bind fun p114 =>
    (ldR h113 p114.1 p114.2 8).bind fun l115 =>
    (asAgg 8 (AV.agg l115)).bind fun d116 =>
    (asI .i64 (d116.getD 0 .bad)).bind fun n117 =>
    (asStr (d116.getD 1 .bad)).bind fun s118 =>
    (asStr (d116.getD 2 .bad)).bind fun s119 =>
    (asI .i64 (d116.getD 3 .bad)).bind fun n120 =>
    (asI .i64 (d116.getD 4 .bad)).bind fun n121 =>
    (asI .i64 (d116.getD 5 .bad)).bind fun n122 =>
    (asI .i64 (d116.getD 6 .bad)).bind fun n123 =>
    (asSl (d116.getD 7 .bad)).bind fun s124 =>
    some ((.agg [(.int .i64 n117), (.str s118), (.str s119), (.int .i64 n120), (.int .i64 n121), (.int .i64 n122), (.int .i64 n123), (.slice s124.1 s124.2.1 s124.2.2)]), h113, (nx + 12)))
    else
    (if ((n3 : Int) == 2) = true then
    ((x3).bind fun p125 =>
    (ldA h p125.1 (p125.2 + 5)).bind fun v126 =>
    (asSl v126).bind fun s127 =>
    (srcS h s127.1 s127.2.1 1).bind fun q128 =>
    (appD h none 0 none 1 1 (nx + 10) q128).bind fun e129 =>
    let h130 := AHeap.puts h e129.sets
    (x8).bind fun p131 =>
    (stA h130 p131.1 (p131.2 + 7) (.slice e129.a e129.n e129.c) 1).bind fun b132 =>
    let h133 := AHeap.put h130 p131.1 (some b132)
    (x8).bind fun p134 =>
    (ldR h133 p134.1 p134.2 8).bind fun l135 =>
    (asAgg 8 (AV.agg l135)).bind fun d136 =>
    (asI .i64 (d136.getD 0 .bad)).bind fun n137 =>
    (asStr (d136.getD 1 .bad)).bind fun s138 =>
    (asStr (d136.getD 2 .bad)).bind fun s139 =>
    (asI .i64 (d136.getD 3 .bad)).bind fun n140 =>
    (asI .i64 (d136.getD 4 .bad)).bind fun n141 =>
    (asI .i64 (d136.getD 5 .bad)).bind fun n142 =>
    (asI .i64 (d136.getD 6 .bad)).bind fun n143 =>
    (asSl (d136.getD 7 .bad)).bind fun s144 =>
    (x6).bind fun p145 =>
    (stA h133 p145.1 p145.2 (.agg [(.int .i64 n137), (.str s138), (.str s139), (.int .i64 n140), (.int .i64 n141), (.int .i64 n142), (.int .i64 n143), (.slice s144.1 s144.2.1 s144.2.2)]) 8).bind fun b146 =>
    let h147 := AHeap.put h133 p145.1 (some b146)
    (x6).bind fun p148 =>
    (ldR h147 p148.1 p148.2 8).bind fun l149 =>
    (asAgg 8 (AV.agg l149)).bind fun d150 =>
    (asI .i64 (d150.getD 0 .bad)).bind fun n151 =>
    (asStr (d150.getD 1 .bad)).bind fun s152 =>
    (asStr (d150.getD 2 .bad)).bind fun s153 =>
    (asI .i64 (d150.getD 3 .bad)).bind fun n154 =>
    (asI .i64 (d150.getD 4 .bad)).bind fun n155 =>
    (asI .i64 (d150.getD 5 .bad)).bind fun n156 =>
    (asI .i64 (d150.getD 6 .bad)).bind fun n157 =>
    (asSl (d150.getD 7 .bad)).bind fun s158 =>
    some ((.agg [(.int .i64 n151), (.str s152), (.str s153), (.int .i64 n154), (.int .i64 n155), (.int .i64 n156), (.int .i64 n157), (.slice s158.1 s158.2.1 s158.2.2)]), h147, (nx + 15)))
    else
    ((x8).bind fun p159 =>
    (ldR h p159.1 p159.2 8).bind fun l160 =>
    (asAgg 8 (AV.agg l160)).bind fun d161 =>
    (asI .i64 (d161.getD 0 .bad)).bind fun n162 =>
    (asStr (d161.getD 1 .bad)).bind fun s163 =>
    (asStr (d161.getD 2 .bad)).bind fun s164 =>
    (asI .i64 (d161.getD 3 .bad)).bind fun n165 =>
    (asI .i64 (d161.getD 4 .bad)).bind fun n166 =>
    (asI .i64 (d161.getD 5 .bad)).bind fun n167 =>
    (asI .i64 (d161.getD 6 .bad)).bind fun n168 =>
    (asSl (d161.getD 7 .bad)).bind fun s169 =>
    (x6).bind fun p170 =>
    (stA h p170.1 p170.2 (.agg [(.int .i64 n162), (.str s163), (.str s164), (.int .i64 n165), (.int .i64 n166), (.int .i64 n167), (.int .i64 n168), (.slice s169.1 s169.2.1 s169.2.2)]) 8).bind fun b171 =>
    let h172 := AHeap.put h p170.1 (some b171)
    (x6).bind fun p173 =>
    (ldR h172 p173.1 p173.2 8).bind fun l174 =>
    (asAgg 8 (AV.agg l174)).bind fun d175 =>
    (asI .i64 (d175.getD 0 .bad)).bind fun n176 =>
    (asStr (d175.getD 1 .bad)).bind fun s177 =>
    (asStr (d175.getD 2 .bad)).bind fun s178 =>
    (asI .i64 (d175.getD 3 .bad)).bind fun n179 =>
    (asI .i64 (d175.getD 4 .bad)).bind fun n180 =>
    (asI .i64 (d175.getD 5 .bad)).bind fun n181 =>
    (asI .i64 (d175.getD 6 .bad)).bind fun n182 =>
    (asSl (d175.getD 7 .bad)).bind fun s183 =>
    some ((.agg [(.int .i64 n176), (.str s177), (.str s178), (.int .i64 n179), (.int .i64 n180), (.int .i64 n181), (.int .i64 n182), (.slice s183.1 s183.2.1 s183.2.2)]), h172, (nx + 10)))))
    else
    (if ((n3 : Int) == 4) = true then
    (if ((n3 : Int) == 4) = true then
    ((x3).bind fun p184 =>
    (ldA h p184.1 (p184.2 + 4)).bind fun v185 =>
    (asI .i64 v185).bind fun n186 =>
    (x8).bind fun p187 =>
    (stA h p187.1 (p187.2 + 4) (.int .i64 n186) 1).bind fun b188 =>
    let h189 := AHeap.put h p187.1 (some b188)
    (x8).bind fun p190 =>
    (ldR h189 p190.1 p190.2 8).bind fun l191 =>
    (asAgg 8 (AV.agg l191)).bind fun d192 =>
    (asI .i64 (d192.getD 0 .bad)).bind fun n193 =>
    (asStr (d192.getD 1 .bad)).bind fun s194 =>
    (asStr (d192.getD 2 .bad)).bind fun s195 =>
    (asI .i64 (d192.getD 3 .bad)).bind fun n196 =>
    (asI .i64 (d192.getD 4 .bad)).bind fun n197 =>
    (asI .i64 (d192.getD 5 .bad)).bind fun n198 =>
    (asI .i64 (d192.getD 6 .bad)).bind fun n199 =>
    (asSl (d192.getD 7 .bad)).bind fun s200 =>
    (x6).bind fun p201 =>
    (stA h189 p201.1 p201.2 (.agg [(.int .i64 n193), (.str s194), (.str s195), (.int .i64 n196), (.int .i64 n197), (.int .i64 n198), (.int .i64 n199), (.slice s200.1 s200.2.1 s200.2.2)]) 8).bind fun b202 =>
    let h203 := AHeap.put h189 p201.1 (some b202)
    (x6).bind fun p204 =>
    (ldR h203 p204.1 p204.2 8).bind fun l205 =>
    (asAgg 8 (AV.agg l205)).bind fun d206 =>
    (asI .i64 (d206.getD 0 .bad)).bind fun n207 =>
    (asStr (d206.getD 1 .bad)).bind fun s208 =>
    (asStr (d206.getD 2 .bad)).bind fun s209 =>
    (asI .i64 (d206.getD 3 .bad)).bind fun n210 =>
    (asI .i64 (d206.getD 4 .bad)).bind fun n211 =>
    (asI .i64 (d206.getD 5 .bad)).bind fun n212 =>
    (asI .i64 (d206.getD 6 .bad)).bind fun n213 =>
    (asSl (d206.getD 7 .bad)).bind fun s214 =>
    some ((.agg [(.int .i64 n207), (.str s208), (.str s209), (.int .i64 n210), (.int .i64 n211), (.int .i64 n212), (.int .i64 n213), (.slice s214.1 s214.2.1 s214.2.2)]), h203, (nx + 14)))
    else
    (if ((n3 : Int) == 2) = true then
    ((x3).bind fun p215 =>
    (ldA h p215.1 (p215.2 + 5)).bind fun v216 =>
    (asSl v216).bind fun s217 =>
    (srcS h s217.1 s217.2.1 1).bind fun q218 =>
    (appD h none 0 none 1 1 (nx + 12) q218).bind fun e219 =>
    let h220 := AHeap.puts h e219.sets
    (x8).bind fun p221 =>
    (stA h220 p221.1 (p221.2 + 7) (.slice e219.a e219.n e219.c) 1).bind fun b222 =>
    let h223 := AHeap.put h220 p221.1 (some b222)
    (x8).bind fun p224 =>
    (ldR h223 p224.1 p224.2 8).bind fun l225 =>
    (asAgg 8 (AV.agg l225)).bind fun d226 =>
    (asI .i64 (d226.getD 0 .bad)).bind fun n227 =>
    (asStr (d226.getD 1 .bad)).bind fun s228 =>
    (asStr (d226.getD 2 .bad)).bind fun s229 =>
    (asI .i64 (d226.getD 3 .bad)).bind fun n230 =>
    (asI .i64 (d226.getD 4 .bad)).bind fun n231 =>
    (asI .i64 (d226.getD 5 .bad)).bind fun n232 =>
    (asI .i64 (d226.getD 6 .bad)).bind fun n233 =>
    (asSl (d226.getD 7 .bad)).bind fun s234 =>
    (x6).bind fun p235 =>
    (stA h223 p235.1 p235.2 (.agg [(.int .i64 n227), (.str s228), (.str s229), (.int .i64 n230), (.int .i64 n231), (.int .i64 n232), (.int .i64 n233), (.slice s234.1 s234.2.1 s234.2.2)]) 8).bind fun b236 =>
    let h237 := AHeap.put h223 p235.1 (some b236)
    (x6).bind fun p238 =>
    (ldR h237 p238.1 p238.2 8).bind fun l239 =>
    (asAgg 8 (AV.agg l239)).bind fun d240 =>
    (asI .i64 (d240.getD 0 .bad)).bind fun n241 =>
    (asStr (d240.getD 1 .bad)).bind fun s242 =>
    (asStr (d240.getD 2 .bad)).bind fun s243 =>
    (asI .i64 (d240.getD 3 .bad)).bind fun n244 =>
    (asI .i64 (d240.getD 4 .bad)).bind fun n245 =>
    (asI .i64 (d240.getD 5 .bad)).bind fun n246 =>
    (asI .i64 (d240.getD 6 .bad)).bind fun n247 =>
    (asSl (d240.getD 7 .bad)).bind fun s248 =>
    some ((.agg [(.int .i64 n241), (.str s242), (.str s243), (.int .i64 n244), (.int .i64 n245), (.int .i64 n246), (.int .i64 n247), (.slice s248.1 s248.2.1 s248.2.2)]), h237, (nx + 17)))
    else
    ((x8).bind fun p249 =>
    (ldR h p249.1 p249.2 8).bind fun l250 =>
    (asAgg 8 (AV.agg l250)).bind fun d251 =>
    (asI .i64 (d251.getD 0 .bad)).bind fun n252 =>
    (asStr (d251.getD 1 .bad)).bind fun s253 =>
    (asStr (d251.getD 2 .bad)).bind fun s254 =>
    (asI .i64 (d251.getD 3 .bad)).bind fun n255 =>
    (asI .i64 (d251.getD 4 .bad)).bind fun n256 =>
    (asI .i64 (d251.getD 5 .bad)).bind fun n257 =>
    (asI .i64 (d251.getD 6 .bad)).bind fun n258 =>
    (asSl (d251.getD 7 .bad)).bind fun s259 =>
    (x6).bind fun p260 =>
    (stA h p260.1 p260.2 (.agg [(.int .i64 n252), (.str s253), (.str s254), (.int .i64 n255), (.int .i64 n256), (.int .i64 n257), (.int .i64 n258), (.slice s259.1 s259.2.1 s259.2.2)]) 8).bind fun b261 =>
    let h262 := AHeap.put h p260.1 (some b261)
    (x6).bind fun p263 =>
    (ldR h262 p263.1 p263.2 8).bind fun l264 =>
    (asAgg 8 (AV.agg l264)).bind fun d265 =>
    (asI .i64 (d265.getD 0 .bad)).bind fun n266 =>
    (asStr (d265.getD 1 .bad)).bind fun s267 =>
    (asStr (d265.getD 2 .bad)).bind fun s268 =>
    (asI .i64 (d265.getD 3 .bad)).bind fun n269 =>
    (asI .i64 (d265.getD 4 .bad)).bind fun n270 =>
    (asI .i64 (d265.getD 5 .bad)).bind fun n271 =>
    (asI .i64 (d265.getD 6 .bad)).bind fun n272 =>
    (asSl (d265.getD 7 .bad)).bind fun s273 =>
    some ((.agg [(.int .i64 n266), (.str s267), (.str s268), (.int .i64 n269), (.int .i64 n270), (.int .i64 n271), (.int .i64 n272), (.slice s273.1 s273.2.1 s273.2.2)]), h262, (nx + 12)))))
    else
    (if ((n3 : Int) == 14) = true then
    (if ((n3 : Int) == 14) = true then
    ((x3).bind fun p274 =>
    (ldA h p274.1 (p274.2 + 4)).bind fun v275 =>
    (asI .i64 v275).bind fun n276 =>
    (x8).bind fun p277 =>
    (stA h p277.1 (p277.2 + 4) (.int .i64 n276) 1).bind fun b278 =>
    let h279 := AHeap.put h p277.1 (some b278)
    (x8).bind fun p280 =>
    (ldR h279 p280.1 p280.2 8).bind fun l281 =>
    (asAgg 8 (AV.agg l281)).bind fun d282 =>
    (asI .i64 (d282.getD 0 .bad)).bind fun n283 =>
    (asStr (d282.getD 1 .bad)).bind fun s284 =>
    (asStr (d282.getD 2 .bad)).bind fun s285 =>
    (asI .i64 (d282.getD 3 .bad)).bind fun n286 =>
    (asI .i64 (d282.getD 4 .bad)).bind fun n287 =>
    (asI .i64 (d282.getD 5 .bad)).bind fun n288 =>
    (asI .i64 (d282.getD 6 .bad)).bind fun n289 =>
    (asSl (d282.getD 7 .bad)).bind fun s290 =>
    (x6).bind fun p291 =>
    (stA h279 p291.1 p291.2 (.agg [(.int .i64 n283), (.str s284), (.str s285), (.int .i64 n286), (.int .i64 n287), (.int .i64 n288), (.int .i64 n289), (.slice s290.1 s290.2.1 s290.2.2)]) 8).bind fun b292 =>
    let h293 := AHeap.put h279 p291.1 (some b292)
    (x6).bind fun p294 =>
    (ldR h293 p294.1 p294.2 8).bind fun l295 =>
    (asAgg 8 (AV.agg l295)).bind fun d296 =>
    (asI .i64 (d296.getD 0 .bad)).bind fun n297 =>
    (asStr (d296.getD 1 .bad)).bind fun s298 =>
    (asStr (d296.getD 2 .bad)).bind fun s299 =>
    (asI .i64 (d296.getD 3 .bad)).bind fun n300 =>
    (asI .i64 (d296.getD 4 .bad)).bind fun n301 =>
    (asI .i64 (d296.getD 5 .bad)).bind fun n302 =>
    (asI .i64 (d296.getD 6 .bad)).bind fun n303 =>
    (asSl (d296.getD 7 .bad)).bind fun s304 =>
    some ((.agg [(.int .i64 n297), (.str s298), (.str s299), (.int .i64 n300), (.int .i64 n301), (.int .i64 n302), (.int .i64 n303), (.slice s304.1 s304.2.1 s304.2.2)]), h293, (nx + 16)))
    else
    (if ((n3 : Int) == 2) = true then
    ((x3).bind fun p305 =>
    (ldA h p305.1 (p305.2 + 5)).bind fun v306 =>
    (asSl v306).bind fun s307 =>
    (srcS h s307.1 s307.2.1 1).bind fun q308 =>
    (appD h none 0 none 1 1 (nx + 14) q308).bind fun e309 =>
    let h310 := AHeap.puts h e309.sets
    (x8).bind fun p311 =>
    (stA h310 p311.1 (p311.2 + 7) (.slice e309.a e309.n e309.c) 1).bind fun b312 =>
    let h313 := AHeap.put h310 p311.1 (some b312)
    (x8).bind fun p314 =>
    (ldR h313 p314.1 p314.2 8).bind fun l315 =>
    (asAgg 8 (AV.agg l315)).bind fun d316 =>
    (asI .i64 (d316.getD 0 .bad)).bind fun n317 =>
    (asStr (d316.getD 1 .bad)).bind fun s318 =>
    (asStr (d316.getD 2 .bad)).bind fun s319 =>
    (asI .i64 (d316.getD 3 .bad)).bind fun n320 =>
    (asI .i64 (d316.getD 4 .bad)).bind fun n321 =>
    (asI .i64 (d316.getD 5 .bad)).bind fun n322 =>
    (asI .i64 (d316.getD 6 .bad)).bind fun n323 =>
    (asSl (d316.getD 7 .bad)).bind fun s324 =>
    (x6).bind fun p325 =>
    (stA h313 p325.1 p325.2 (.agg [(.int .i64 n317), (.str s318), (.str s319), (.int .i64 n320), (.int .i64 n321), (.int .i64 n322), (.int .i64 n323), (.slice s324.1 s324.2.1 s324.2.2)]) 8).bind fun b326 =>
    let h327 := AHeap.put h313 p325.1 (some b326)
    (x6).bind fun p328 =>
    (ldR h327 p328.1 p328.2 8).bind fun l329 =>
    (asAgg 8 (AV.agg l329)).bind fun d330 =>
    (asI .i64 (d330.getD 0 .bad)).bind fun n331 =>
    (asStr (d330.getD 1 .bad)).bind fun s332 =>
    (asStr (d330.getD 2 .bad)).bind fun s333 =>
    (asI .i64 (d330.getD 3 .bad)).bind fun n334 =>
    (asI .i64 (d330.getD 4 .bad)).bind fun n335 =>
    (asI .i64 (d330.getD 5 .bad)).bind fun n336 =>
    (asI .i64 (d330.getD 6 .bad)).bind fun n337 =>
    (asSl (d330.getD 7 .bad)).bind fun s338 =>
    some ((.agg [(.int .i64 n331), (.str s332), (.str s333), (.int .i64 n334), (.int .i64 n335), (.int .i64 n336), (.int .i64 n337), (.slice s338.1 s338.2.1 s338.2.2)]), h327, (nx + 19)))
    else
    ((x8).bind fun p339 =>
    (ldR h p339.1 p339.2 8).bind fun l340 =>
    (asAgg 8 (AV.agg l340)).bind fun d341 =>
    (asI .i64 (d341.getD 0 .bad)).bind fun n342 =>
    (asStr (d341.getD 1 .bad)).bind fun s343 =>
    (asStr (d341.getD 2 .bad)).bind fun s344 =>
    (asI .i64 (d341.getD 3 .bad)).bind fun n345 =>
    (asI .i64 (d341.getD 4 .bad)).bind fun n346 =>
    (asI .i64 (d341.getD 5 .bad)).bind fun n347 =>
    (asI .i64 (d341.getD 6 .bad)).bind fun n348 =>
    (asSl (d341.getD 7 .bad)).bind fun s349 =>
    (x6).bind fun p350 =>
    (stA h p350.1 p350.2 (.agg [(.int .i64 n342), (.str s343), (.str s344), (.int .i64 n345), (.int .i64 n346), (.int .i64 n347), (.int .i64 n348), (.slice s349.1 s349.2.1 s349.2.2)]) 8).bind fun b351 =>
    let h352 := AHeap.put h p350.1 (some b351)
    (x6).bind fun p353 =>
    (ldR h352 p353.1 p353.2 8).bind fun l354 =>
    (asAgg 8 (AV.agg l354)).bind fun d355 =>
    (asI .i64 (d355.getD 0 .bad)).bind fun n356 =>
    (asStr (d355.getD 1 .bad)).bind fun s357 =>
    (asStr (d355.getD 2 .bad)).bind fun s358 =>
    (asI .i64 (d355.getD 3 .bad)).bind fun n359 =>
    (asI .i64 (d355.getD 4 .bad)).bind fun n360 =>
    (asI .i64 (d355.getD 5 .bad)).bind fun n361 =>
    (asI .i64 (d355.getD 6 .bad)).bind fun n362 =>
    (asSl (d355.getD 7 .bad)).bind fun s363 =>
    some ((.agg [(.int .i64 n356), (.str s357), (.str s358), (.int .i64 n359), (.int .i64 n360), (.int .i64 n361), (.int .i64 n362), (.slice s363.1 s363.2.1 s363.2.2)]), h352, (nx + 14)))))
    else
    (if ((n3 : Int) == 19) = true then
    ((x3).bind fun p364 =>
    (ldA h p364.1 (p364.2 + 4)).bind fun v365 =>
    (asI .i64 v365).bind fun n366 =>
    (x8).bind fun p367 =>
    (stA h p367.1 (p367.2 + 4) (.int .i64 n366) 1).bind fun b368 =>
    let h369 := AHeap.put h p367.1 (some b368)
    (x8).bind fun p370 =>
    (ldR h369 p370.1 p370.2 8).bind fun l371 =>
    (asAgg 8 (AV.agg l371)).bind fun d372 =>
    (asI .i64 (d372.getD 0 .bad)).bind fun n373 =>
    (asStr (d372.getD 1 .bad)).bind fun s374 =>
    (asStr (d372.getD 2 .bad)).bind fun s375 =>
    (asI .i64 (d372.getD 3 .bad)).bind fun n376 =>
    (asI .i64 (d372.getD 4 .bad)).bind fun n377 =>
    (asI .i64 (d372.getD 5 .bad)).bind fun n378 =>
    (asI .i64 (d372.getD 6 .bad)).bind fun n379 =>
    (asSl (d372.getD 7 .bad)).bind fun s380 =>
    (x6).bind fun p381 =>
    (stA h369 p381.1 p381.2 (.agg [(.int .i64 n373), (.str s374), (.str s375), (.int .i64 n376), (.int .i64 n377), (.int .i64 n378), (.int .i64 n379), (.slice s380.1 s380.2.1 s380.2.2)]) 8).bind fun b382 =>
    let h383 := AHeap.put h369 p381.1 (some b382)
    (x6).bind fun p384 =>
    (ldR h383 p384.1 p384.2 8).bind fun l385 =>
    (asAgg 8 (AV.agg l385)).bind fun d386 =>
    (asI .i64 (d386.getD 0 .bad)).bind fun n387 =>
    (asStr (d386.getD 1 .bad)).bind fun s388 =>
    (asStr (d386.getD 2 .bad)).bind fun s389 =>
    (asI .i64 (d386.getD 3 .bad)).bind fun n390 =>
    (asI .i64 (d386.getD 4 .bad)).bind fun n391 =>
    (asI .i64 (d386.getD 5 .bad)).bind fun n392 =>
    (asI .i64 (d386.getD 6 .bad)).bind fun n393 =>
    (asSl (d386.getD 7 .bad)).bind fun s394 =>
    some ((.agg [(.int .i64 n387), (.str s388), (.str s389), (.int .i64 n390), (.int .i64 n391), (.int .i64 n392), (.int .i64 n393), (.slice s394.1 s394.2.1 s394.2.2)]), h383, (nx + 18)))
    else
    (if ((n3 : Int) == 2) = true then
    ((x3).bind fun p395 =>
    (ldA h p395.1 (p395.2 + 5)).bind fun v396 =>
    (asSl v396).bind fun s397 =>
    (srcS h s397.1 s397.2.1 1).bind fun q398 =>
    (appD h none 0 none 1 1 (nx + 16) q398).bind fun e399 =>
    let h400 := AHeap.puts h e399.sets
    (x8).bind fun p401 =>
    (stA h400 p401.1 (p401.2 + 7) (.slice e399.a e399.n e399.c) 1).bind fun b402 =>
    let h403 := AHeap.put h400 p401.1 (some b402)
    (x8).bind fun p404 =>
    (ldR h403 p404.1 p404.2 8).bind fun l405 =>
    (asAgg 8 (AV.agg l405)).bind fun d406 =>
    (asI .i64 (d406.getD 0 .bad)).bind fun n407 =>
    (asStr (d406.getD 1 .bad)).bind fun s408 =>
    (asStr (d406.getD 2 .bad)).bind fun s409 =>
    (asI .i64 (d406.getD 3 .bad)).bind fun n410 =>
    (asI .i64 (d406.getD 4 .bad)).bind fun n411 =>
    (asI .i64 (d406.getD 5 .bad)).bind fun n412 =>
    (asI .i64 (d406.getD 6 .bad)).bind fun n413 =>
    (asSl (d406.getD 7 .bad)).bind fun s414 =>
    (x6).bind fun p415 =>
    (stA h403 p415.1 p415.2 (.agg [(.int .i64 n407), (.str s408), (.str s409), (.int .i64 n410), (.int .i64 n411), (.int .i64 n412), (.int .i64 n413), (.slice s414.1 s414.2.1 s414.2.2)]) 8).bind fun b416 =>
    let h417 := AHeap.put h403 p415.1 (some b416)
    (x6).bind fun p418 =>
    (ldR h417 p418.1 p418.2 8).bind fun l419 =>
    (asAgg 8 (AV.agg l419)).bind fun d420 =>
    (asI .i64 (d420.getD 0 .bad)).bind fun n421 =>
    (asStr (d420.getD 1 .bad)).bind fun s422 =>
    (asStr (d420.getD 2 .bad)).bind fun s423 =>
    (asI .i64 (d420.getD 3 .bad)).bind fun n424 =>
    (asI .i64 (d420.getD 4 .bad)).bind fun n425 =>
    (asI .i64 (d420.getD 5 .bad)).bind fun n426 =>
    (asI .i64 (d420.getD 6 .bad)).bind fun n427 =>
    (asSl (d420.getD 7 .bad)).bind fun s428 =>
    some ((.agg [(.int .i64 n421), (.str s422), (.str s423), (.int .i64 n424), (.int .i64 n425), (.int .i64 n426), (.int .i64 n427), (.slice s428.1 s428.2.1 s428.2.2)]), h417, (nx + 21)))
    else
    ((x8).bind fun p429 =>
    (ldR h p429.1 p429.2 8).bind fun l430 =>
    (asAgg 8 (AV.agg l430)).bind fun d431 =>
    (asI .i64 (d431.getD 0 .bad)).bind fun n432 =>
    (asStr (d431.getD 1 .bad)).bind fun s433 =>
    (asStr (d431.getD 2 .bad)).bind fun s434 =>
    (asI .i64 (d431.getD 3 .bad)).bind fun n435 =>
    (asI .i64 (d431.getD 4 .bad)).bind fun n436 =>
    (asI .i64 (d431.getD 5 .bad)).bind fun n437 =>
    (asI .i64 (d431.getD 6 .bad)).bind fun n438 =>
    (asSl (d431.getD 7 .bad)).bind fun s439 =>
    (x6).bind fun p440 =>
    (stA h p440.1 p440.2 (.agg [(.int .i64 n432), (.str s433), (.str s434), (.int .i64 n435), (.int .i64 n436), (.int .i64 n437), (.int .i64 n438), (.slice s439.1 s439.2.1 s439.2.2)]) 8).bind fun b441 =>
    let h442 := AHeap.put h p440.1 (some b441)
    (x6).bind fun p443 =>
    (ldR h442 p443.1 p443.2 8).bind fun l444 =>
    (asAgg 8 (AV.agg l444)).bind fun d445 =>
    (asI .i64 (d445.getD 0 .bad)).bind fun n446 =>
    (asStr (d445.getD 1 .bad)).bind fun s447 =>
    (asStr (d445.getD 2 .bad)).bind fun s448 =>
    (asI .i64 (d445.getD 3 .bad)).bind fun n449 =>
    (asI .i64 (d445.getD 4 .bad)).bind fun n450 =>
    (asI .i64 (d445.getD 5 .bad)).bind fun n451 =>
    (asI .i64 (d445.getD 6 .bad)).bind fun n452 =>
    (asSl (d445.getD 7 .bad)).bind fun s453 =>
    some ((.agg [(.int .i64 n446), (.str s447), (.str s448), (.int .i64 n449), (.int .i64 n450), (.int .i64 n451), (.int .i64 n452), (.slice s453.1 s453.2.1 s453.2.2)]), h442, (nx + 16)))))))) := by kernel_rfl

theorem F11_J3_eq (call : YldF → CallF) (Y : YldF) (lf : Nat) (x3 : Option (Nat × Nat)) (x6 : Option (Nat × Nat)) (x8 : Option (Nat × Nat)) (h : AHeap) (nx : Nat) : F11_J3 call Y lf x3 x6 x8 h nx =
    (x8).bind fun p1 =>
    (ldA h p1.1 p1.2).bind fun v2 =>
    (asI .i64 v2).bind fun n3 =>
    if ((n3 : Int) == 3) = true then
    (if ((n3 : Int) == 3) = true then
    ((x3).bind fun p4 =>
    (ldA h p4.1 (p4.2 + 4)).bind fun v5 =>
    (asI .i64 v5).bind fun n6 =>
    (x8).bind fun p7 =>
    (stA h p7.1 (p7.2 + 4) (.int .i64 n6) 1).bind fun b8 =>
    let h9 := AHeap.put h p7.1 (some b8)
    (x8).bind fun p10 =>
    (ldR h9 p10.1 p10.2 8).bind fun l11 =>
    (asAgg 8 (AV.agg l11)).bind fun d12 =>
    (asI .i64 (d12.getD 0 .bad)).bind fun n13 =>
    (asStr (d12.getD 1 .bad)).bind fun s14 =>
    (asStr (d12.getD 2 .bad)).bind fun s15 =>
    (asI .i64 (d12.getD 3 .bad)).bind fun n16 =>
    (asI .i64 (d12.getD 4 .bad)).bind fun n17 =>
    (asI .i64 (d12.getD 5 .bad)).bind fun n18 =>
    (asI .i64 (d12.getD 6 .bad)).bind fun n19 =>
    (asSl (d12.getD 7 .bad)).bind fun s20 =>
    (x6).bind fun p21 =>
    (stA h9 p21.1 p21.2 (.agg [(.int .i64 n13), (.str s14), (.str s15), (.int .i64 n16), (.int .i64 n17), (.int .i64 n18), (.int .i64 n19), (.slice s20.1 s20.2.1 s20.2.2)]) 8).bind fun b22 =>
    let h23 := AHeap.put h9 p21.1 (some b22)
    (x6).bind fun p24 =>
    (ldR h23 p24.1 p24.2 8).bind fun l25 =>
    (asAgg 8 (AV.agg l25)).bind fun d26 =>
    (asI .i64 (d26.getD 0 .bad)).bind fun n27 =>
    (asStr (d26.getD 1 .bad)).bind fun s28 =>
    (asStr (d26.getD 2 .bad)).bind fun s29 =>
    (asI .i64 (d26.getD 3 .bad)).bind fun n30 =>
    (asI .i64 (d26.getD 4 .bad)).bind fun n31 =>
    (asI .i64 (d26.getD 5 .bad)).bind fun n32 =>
    (asI .i64 (d26.getD 6 .bad)).bind fun n33 =>
    (asSl (d26.getD 7 .bad)).bind fun s34 =>
    some ((.agg [(.int .i64 n27), (.str s28), (.str s29), (.int .i64 n30), (.int .i64 n31), (.int .i64 n32), (.int .i64 n33), (.slice s34.1 s34.2.1 s34.2.2)]), h23, (nx + 10)))
    else
    (if ((n3 : Int) == 2) = true then
    ((x3).bind fun p35 =>
    (ldA h p35.1 (p35.2 + 5)).bind fun v36 =>
    (asSl v36).bind fun s37 =>
    (srcS h s37.1 s37.2.1 1).bind fun q38 =>
    (appD h none 0 none 1 1 (nx + 8) q38).bind fun e39 =>
    let h40 := AHeap.puts h e39.sets
    (x8).bind fun p41 =>
    (stA h40 p41.1 (p41.2 + 7) (.slice e39.a e39.n e39.c) 1).bind fun b42 =>
    let h43 := AHeap.put h40 p41.1 (some b42)
    (x8).bind fun p44 =>
    (ldR h43 p44.1 p44.2 8).bind fun l45 =>
    (asAgg 8 (AV.agg l45)).bind fun d46 =>
    (asI .i64 (d46.getD 0 .bad)).bind fun n47 =>
    (asStr (d46.getD 1 .bad)).bind fun s48 =>
    (asStr (d46.getD 2 .bad)).bind fun s49 =>
    (asI .i64 (d46.getD 3 .bad)).bind fun n50 =>
    (asI .i64 (d46.getD 4 .bad)).bind fun n51 =>
    (asI .i64 (d46.getD 5 .bad)).bind fun n52 =>
    (asI .i64 (d46.getD 6 .bad)).bind fun n53 =>
    (asSl (d46.getD 7 .bad)).bind fun s54 =>
    (x6).bind fun p55 =>
    (stA h43 p55.1 p55.2 (.agg [(.int .i64 n47), (.str s48), (.str s49), (.int .i64 n50), (.int .i64 n51), (.int .i64 n52), (.int .i64 n53), (.slice s54.1 s54.2.1 s54.2.2)]) 8).bind fun b56 =>
    let h57 := AHeap.put h43 p55.1 (some b56)
    (x6).bind fun p58 =>
    (ldR h57 p58.1 p58.2 8).bind fun l59 =>
    (asAgg 8 (AV.agg l59)).bind fun d60 =>
    (asI .i64 (d60.getD 0 .bad)).bind fun n61 =>
    (asStr (d60.getD 1 .bad)).bind fun s62 =>
    (asStr (d60.getD 2 .bad)).bind fun s63 =>
    (asI .i64 (d60.getD 3 .bad)).bind fun n64 =>
    (asI .i64 (d60.getD 4 .bad)).bind fun n65 =>
    (asI .i64 (d60.getD 5 .bad)).bind fun n66 =>
    (asI .i64 (d60.getD 6 .bad)).bind fun n67 =>
    (asSl (d60.getD 7 .bad)).bind fun s68 =>
    some ((.agg [(.int .i64 n61), (.str s62), (.str s63), (.int .i64 n64), (.int .i64 n65), (.int .i64 n66), (.int .i64 n67), (.slice s68.1 s68.2.1 s68.2.2)]), h57, (nx + 13)))
    else
    ((x8).bind fun p69 =>
    (ldR h p69.1 p69.2 8).bind fun l70 =>
    (asAgg 8 (AV.agg l70)).bind fun d71 =>
    (asI .i64 (d71.getD 0 .bad)).bind fun n72 =>
    (asStr (d71.getD 1 .bad)).bind fun s73 =>
    (asStr (d71.getD 2 .bad)).bind fun s74 =>
    (asI .i64 (d71.getD 3 .bad)).bind fun n75 =>
    (asI .i64 (d71.getD 4 .bad)).bind fun n76 =>
    (asI .i64 (d71.getD 5 .bad)).bind fun n77 =>
    (asI .i64 (d71.getD 6 .bad)).bind fun n78 =>
    (asSl (d71.getD 7 .bad)).bind fun s79 =>
    (x6).bind fun p80 =>
    (stA h p80.1 p80.2 (.agg [(.int .i64 n72), (.str s73), (.str s74), (.int .i64 n75), (.int .i64 n76), (.int .i64 n77), (.int .i64 n78), (.slice s79.1 s79.2.1 s79.2.2)]) 8).bind fun b81 =>
    let h82 := AHeap.put h p80.1 (some b81)
    (x6).bind fun p83 =>
    (ldR h82 p83.1 p83.2 8).bind fun l84 =>
    (asAgg 8 (AV.agg l84)).bind fun d85 =>
    (asI .i64 (d85.getD 0 .bad)).bind fun n86 =>
    (asStr (d85.getD 1 .bad)).bind fun s87 =>
    (asStr (d85.getD 2 .bad)).bind fun s88 =>
    (asI .i64 (d85.getD 3 .bad)).bind fun n89 =>
    (asI .i64 (d85.getD 4 .bad)).bind fun n90 =>
    (asI .i64 (d85.getD 5 .bad)).bind fun n91 =>
    (asI .i64 (d85.getD 6 .bad)).bind fun n92 =>
    (asSl (d85.getD 7 .bad)).bind fun s93 =>
    some ((.agg [(.int .i64 n86), (.str s87), (.str s88), (.int .i64 n89), (.int .i64 n90), (.int .i64 n91), (.int .i64 n92), (.slice s93.1 s93.2.1 s93.2.2)]), h82, (nx + 8)))))
    else
    (if ((n3 : Int) == 8) = true then
    (if ((n3 : Int) == 8) = true then
    ((x3).bind fun p94 =>
    (ldA h p94.1 (p94.2 + 4)).bind fun v95 =>
    (asI .i64 v95).bind fun n96 =>
    (x8).bind fun p97 =>
    (stA h p97.1 (p97.2 + 4) (.int .i64 n96) 1).bind fun b98 =>
    let h99 := AHeap.put h p97.1 (some b98)
    (x8).bind fun p100 =>
    (ldR h99 p100.1 p100.2 8).bind fun l101 =>
    (asAgg 8 (AV.agg l101)).bind fun d102 =>
    (asI .i64 (d102.getD 0 .bad)).bind fun n103 =>
    (asStr (d102.getD 1 .bad)).bind fun s104 =>
    (asStr (d102.getD 2 .bad)).bind fun s105 =>
    (asI .i64 (d102.getD 3 .bad)).bind fun n106 =>
    (asI .i64 (d102.getD 4 .bad)).bind fun n107 =>
    (asI .i64 (d102.getD 5 .bad)).bind fun n108 =>
    (asI .i64 (d102.getD 6 .bad)).bind fun n109 =>
    (asSl (d102.getD 7 .bad)).bind fun s110 =>
    (x6).bind fun p111 =>
    (stA h99 p111.1 p111.2 (.agg [(.int .i64 n103), (.str s104), (.str s105), (.int .i64 n106), (.int .i64 n107), (.int .i64 n108), (.int .i64 n109), (.slice s110.1 s110.2.1 s110.2.2)]) 8).bind fun b112 =>
    let h113 := AHeap.put h99 p111.1 (some b112)
    (x6).bind fun p114 =>
    (ldR h113 p114.1 p114.2 8).bind fun l115 =>
    (asAgg 8 (AV.agg l115)).bind fun d116 =>
    (asI .i64 (d116.getD 0 .bad)).bind fun n117 =>
    (asStr (d116.getD 1 .bad)).bind fun s118 =>
    (asStr (d116.getD 2 .bad)).bind fun s119 =>
    (asI .i64 (d116.getD 3 .bad)).bind fun n120 =>
    (asI .i64 (d116.getD 4 .bad)).bind fun n121 =>
    (asI .i64 (d116.getD 5 .bad)).bind fun n122 =>
    (asI .i64 (d116.getD 6 .bad)).bind fun n123 =>
    (asSl (d116.getD 7 .bad)).bind fun s124 =>
    some ((.agg [(.int .i64 n117), (.str s118), (.str s119), (.int .i64 n120), (.int .i64 n121), (.int .i64 n122), (.int .i64 n123), (.slice s124.1 s124.2.1 s124.2.2)]), h113, (nx + 12)))
    else
    (if ((n3 : Int) == 2) = true then
    ((x3).bind fun p125 =>
    (ldA h p125.1 (p125.2 + 5)).bind fun v126 =>
    (asSl v126).bind fun s127 =>
    (srcS h s127.1 s127.2.1 1).bind fun q128 =>
    (appD h none 0 none 1 1 (nx + 10) q128).bind fun e129 =>
    let h130 := AHeap.puts h e129.sets
    (x8).bind fun p131 =>
    (stA h130 p131.1 (p131.2 + 7) (.slice e129.a e129.n e129.c) 1).bind fun b132 =>
    let h133 := AHeap.put h130 p131.1 (some b132)
    (x8).bind fun p134 =>
    (ldR h133 p134.1 p134.2 8).bind fun l135 =>
    (asAgg 8 (AV.agg l135)).bind fun d136 =>
    (asI .i64 (d136.getD 0 .bad)).bind fun n137 =>
    (asStr (d136.getD 1 .bad)).bind fun s138 =>
    (asStr (d136.getD 2 .bad)).bind fun s139 =>
    (asI .i64 (d136.getD 3 .bad)).bind fun n140 =>
    (asI .i64 (d136.getD 4 .bad)).bind fun n141 =>
    (asI .i64 (d136.getD 5 .bad)).bind fun n142 =>
    (asI .i64 (d136.getD 6 .bad)).bind fun n143 =>
    (asSl (d136.getD 7 .bad)).bind fun s144 =>
    (x6).bind fun p145 =>
    (stA h133 p145.1 p145.2 (.agg [(.int .i64 n137), (.str s138), (.str s139), (.int .i64 n140), (.int .i64 n141), (.int .i64 n142), (.int .i64 n143), (.slice s144.1 s144.2.1 s144.2.2)]) 8).bind fun b146 =>
    let h147 := AHeap.put h133 p145.1 (some b146)
    (x6).bind fun p148 =>
    (ldR h147 p148.1 p148.2 8).bind fun l149 =>
    (asAgg 8 (AV.agg l149)).bind fun d150 =>
    (asI .i64 (d150.getD 0 .bad)).bind fun n151 =>
    (asStr (d150.getD 1 .bad)).bind fun s152 =>
    (asStr (d150.getD 2 .bad)).bind fun s153 =>
    (asI .i64 (d150.getD 3 .bad)).bind fun n154 =>
    (asI .i64 (d150.getD 4 .bad)).bind fun n155 =>
    (asI .i64 (d150.getD 5 .bad)).bind fun n156 =>
    (asI .i64 (d150.getD 6 .bad)).bind fun n157 =>
    (asSl (d150.getD 7 .bad)).bind fun s158 =>
    some ((.agg [(.int .i64 n151), (.str s152), (.str s153), (.int .i64 n154), (.int .i64 n155), (.int .i64 n156), (.int .i64 n157), (.slice s158.1 s158.2.1 s158.2.2)]), h147, (nx + 15)))
    else
    ((x8).bind fun p159 =>
    (ldR h p159.1 p159.2 8).bind fun l160 =>
    (asAgg 8 (AV.agg l160)).bind fun d161 =>
    (asI .i64 (d161.getD 0 .bad)).bind fun n162 =>
    (asStr (d161.getD 1 .bad)).bind fun s163 =>
    (asStr (d161.getD 2 .bad)).bind fun s164 =>
    (asI .i64 (d161.getD 3 .bad)).bind fun n165 =>
    (asI .i64 (d161.getD 4 .bad)).bind fun n166 =>
    (asI .i64 (d161.getD 5 .bad)).bind fun n167 =>
    (asI .i64 (d161.getD 6 .bad)).bind fun n168 =>
    (asSl (d161.getD 7 .bad)).bind fun s169 =>
    (x6).bind fun p170 =>
    (stA h p170.1 p170.2 (.agg [(.int .i64 n162), (.str s163), (.str s164), (.int .i64 n165), (.int .i64 n166), (.int .i64 n167), (.int .i64 n168), (.slice s169.1 s169.2.1 s169.2.2)]) 8).bind fun b171 =>
    let h172 := AHeap.put h p170.1 (some b171)
    (x6).bind fun p173 =>
    (ldR h172 p173.1 p173.2 8).bind fun l174 =>
    (asAgg 8 (AV.agg l174)).bind fun d175 =>
    (asI .i64 (d175.getD 0 .bad)).bind fun n176 =>
    (asStr (d175.getD 1 .bad)).bind fun s177 =>
    (asStr (d175.getD 2 .bad)).bind fun s178 =>
    (asI .i64 (d175.getD 3 .bad)).bind fun n179 =>
    (asI .i64 (d175.getD 4 .bad)).bind fun n180 =>
    (asI .i64 (d175.getD 5 .bad)).bind fun n181 =>
    (asI .i64 (d175.getD 6 .bad)).bind fun n182 =>
    (asSl (d175.getD 7 .bad)).bind fun s183 =>
    some ((.agg [(.int .i64 n176), (.str s177), (.str s178), (.int .i64 n179), (.int .i64 n180), (.int .i64 n181), (.int .i64 n182), (.slice s183.1 s183.2.1 s183.2.2)]), h172, (nx + 10)))))
    else
    (if ((n3 : Int) == 4) = true then
    (if ((n3 : Int) == 4) = true then
    ((x3).bind fun p184 =>
    (ldA h p184.1 (p184.2 + 4)).bind fun v185 =>
    (asI .i64 v185).bind fun n186 =>
    (x8).bind fun p187 =>
    (stA h p187.1 (p187.2 + 4) (.int .i64 n186) 1).bind fun b188 =>
    let h189 := AHeap.put h p187.1 (some b188)
    (x8).bind fun p190 =>
    (ldR h189 p190.1 p190.2 8).bind fun l191 =>
    (asAgg 8 (AV.agg l191)).bind fun d192 =>
    (asI .i64 (d192.getD 0 .bad)).bind fun n193 =>
    (asStr (d192.getD 1 .bad)).bind fun s194 =>
    (asStr (d192.getD 2 .bad)).bind fun s195 =>
    (asI .i64 (d192.getD 3 .bad)).bind fun n196 =>
    (asI .i64 (d192.getD 4 .bad)).bind fun n197 =>
    (asI .i64 (d192.getD 5 .bad)).bind fun n198 =>
    (asI .i64 (d192.getD 6 .bad)).bind fun n199 =>
    (asSl (d192.getD 7 .bad)).bind fun s200 =>
    (x6).bind fun p201 =>
    (stA h189 p201.1 p201.2 (.agg [(.int .i64 n193), (.str s194), (.str s195), (.int .i64 n196), (.int .i64 n197), (.int .i64 n198), (.int .i64 n199), (.slice s200.1 s200.2.1 s200.2.2)]) 8).bind fun b202 =>
    let h203 := AHeap.put h189 p201.1 (some b202)
    (x6).bind fun p204 =>
    (ldR h203 p204.1 p204.2 8).bind fun l205 =>
    (asAgg 8 (AV.agg l205)).bind fun d206 =>
    (asI .i64 (d206.getD 0 .bad)).bind fun n207 =>
    (asStr (d206.getD 1 .bad)).bind fun s208 =>
    (asStr (d206.getD 2 .bad)).bind fun s209 =>
    (asI .i64 (d206.getD 3 .bad)).bind fun n210 =>
    (asI .i64 (d206.getD 4 .bad)).bind fun n211 =>
    (asI .i64 (d206.getD 5 .bad)).bind fun n212 =>
    (asI .i64 (d206.getD 6 .bad)).bind fun n213 =>
    (asSl (d206.getD 7 .bad)).bind fun s214 =>
    some ((.agg [(.int .i64 n207), (.str s208), (.str s209), (.int .i64 n210), (.int .i64 n211), (.int .i64 n212), (.int .i64 n213), (.slice s214.1 s214.2.1 s214.2.2)]), h203, (nx + 14)))
    else
    (if ((n3 : Int) == 2) = true then
    ((x3).bind fun p215 =>
    (ldA h p215.1 (p215.2 + 5)).bind fun v216 =>
    (asSl v216).bind fun s217 =>
    (srcS h s217.1 s217.2.1 1).bind fun q218 =>
    (appD h none 0 none 1 1 (nx + 12) q218).bind fun e219 =>
    let h220 := AHeap.puts h e219.sets
    (x8).bind fun p221 =>
    (stA h220 p221.1 (p221.2 + 7) (.slice e219.a e219.n e219.c) 1).bind fun b222 =>
    let h223 := AHeap.put h220 p221.1 (some b222)
    (x8).bind fun p224 =>
    (ldR h223 p224.1 p224.2 8).bind fun l225 =>
    (asAgg 8 (AV.agg l225)).bind fun d226 =>
    (asI .i64 (d226.getD 0 .bad)).bind fun n227 =>
    (asStr (d226.getD 1 .bad)).bind fun s228 =>
    (asStr (d226.getD 2 .bad)).bind fun s229 =>
    (asI .i64 (d226.getD 3 .bad)).bind fun n230 =>
    (asI .i64 (d226.getD 4 .bad)).bind fun n231 =>
    (asI .i64 (d226.getD 5 .bad)).bind fun n232 =>
    (asI .i64 (d226.getD 6 .bad)).bind fun n233 =>
    (asSl (d226.getD 7 .bad)).bind fun s234 =>
    (x6).bind fun p235 =>
    (stA h223 p235.1 p235.2 (.agg [(.int .i64 n227), (.str s228), (.str s229), (.int .i64 n230), (.int .i64 n231), (.int .i64 n232), (.int .i64 n233), (.slice s234.1 s234.2.1 s234.2.2)]) 8).bind fun b236 =>
    let h237 := AHeap.put h223 p235.1 (some b236)
    (x6).bind fun p238 =>
    (ldR h237 p238.1 p238.2 8).bind fun l239 =>
    (asAgg 8 (AV.agg l239)).bind fun d240 =>
    (asI .i64 (d240.getD 0 .bad)).bind fun n241 =>
    (asStr (d240.getD 1 .bad)).bind fun s242 =>
    (asStr (d240.getD 2 .bad)).bind fun s243 =>
    (asI .i64 (d240.getD 3 .bad)).bind fun n244 =>
    (asI .i64 (d240.getD 4 .bad)).bind fun n245 =>
    (asI .i64 (d240.getD 5 .bad)).bind fun n246 =>
    (asI .i64 (d240.getD 6 .bad)).bind fun n247 =>
    (asSl (d240.getD 7 .bad)).bind fun s248 =>
    some ((.agg [(.int .i64 n241), (.str s242), (.str s243), (.int .i64 n244), (.int .i64 n245), (.int .i64 n246), (.int .i64 n247), (.slice s248.1 s248.2.1 s248.2.2)]), h237, (nx + 17)))
    else
    ((x8).bind fun p249 =>
    (ldR h p249.1 p249.2 8).bind fun l250 =>
    (asAgg 8 (AV.agg l250)).bind fun d251 =>
    (asI .i64 (d251.getD 0 .bad)).bind fun n252 =>
    (asStr (d251.getD 1 .bad)).bind fun s253 =>
    (asStr (d251.getD 2 .bad)).bind fun s254 =>
    (asI .i64 (d251.getD 3 .bad)).bind fun n255 =>
    (asI .i64 (d251.getD 4 .bad)).bind fun n256 =>
    (asI .i64 (d251.getD 5 .bad)).bind fun n257 =>
    (asI .i64 (d251.getD 6 .bad)).bind fun n258 =>
    (asSl (d251.getD 7 .bad)).bind fun s259 =>
    (x6).bind fun p260 =>
    (stA h p260.1 p260.2 (.agg [(.int .i64 n252), (.str s253), (.str s254), (.int .i64 n255), (.int .i64 n256), (.int .i64 n257), (.int .i64 n258), (.slice s259.1 s259.2.1 s259.2.2)]) 8).bind fun b261 =>
    let h262 := AHeap.put h p260.1 (some b261)
    (x6).bind fun p263 =>
    (ldR h262 p263.1 p263.2 8).bind fun l264 =>
    (asAgg 8 (AV.agg l264)).bind fun d265 =>
    (asI .i64 (d265.getD 0 .bad)).bind fun n266 =>
    (asStr (d265.getD 1 .bad)).bind fun s267 =>
    (asStr (d265.getD 2 .bad)).bind fun s268 =>
    (asI .i64 (d265.getD 3 .bad)).bind fun n269 =>
    (asI .i64 (d265.getD 4 .bad)).bind fun n270 =>
    (asI .i64 (d265.getD 5 .bad)).bind fun n271 =>
    (asI .i64 (d265.getD 6 .bad)).bind fun n272 =>
    (asSl (d265.getD 7 .bad)).bind fun s273 =>
    some ((.agg [(.int .i64 n266), (.str s267), (.str s268), (.int .i64 n269), (.int .i64 n270), (.int .i64 n271), (.int .i64 n272), (.slice s273.1 s273.2.1 s273.2.2)]), h262, (nx + 12)))))
    else
    (if ((n3 : Int) == 14) = true then
    (if ((n3 : Int) == 14) = true then
    ((x3).bind fun p274 =>
    (ldA h p274.1 (p274.2 + 4)).bind fun v275 =>
    (asI .i64 v275).bind fun n276 =>
    (x8).bind fun p277 =>
    (stA h p277.1 (p277.2 + 4) (.int .i64 n276) 1).bind fun b278 =>
    let h279 := AHeap.put h p277.1 (some b278)
    (x8).bind fun p280 =>
    (ldR h279 p280.1 p280.2 8).bind fun l281 =>
    (asAgg 8 (AV.agg l281)).bind fun d282 =>
    (asI .i64 (d282.getD 0 .bad)).bind fun n283 =>
    (asStr (d282.getD 1 .bad)).bind fun s284 =>
    (asStr (d282.getD 2 .bad)).bind fun s285 =>
    (asI .i64 (d282.getD 3 .bad)).bind fun n286 =>
    (asI .i64 (d282.getD 4 .bad)).bind fun n287 =>
    (asI .i64 (d282.getD 5 .bad)).bind fun n288 =>
    (asI .i64 (d282.getD 6 .bad)).bind fun n289 =>
    (asSl (d282.getD 7 .bad)).bind fun s290 =>
    (x6).bind fun p291 =>
    (stA h279 p291.1 p291.2 (.agg [(.int .i64 n283), (.str s284), (.str s285), (.int .i64 n286), (.int .i64 n287), (.int .i64 n288), (.int .i64 n289), (.slice s290.1 s290.2.1 s290.2.2)]) 8).bind fun b292 =>
    let h293 := AHeap.put h279 p291.1 (some b292)
    (x6).bind fun p294 =>
    (ldR h293 p294.1 p294.2 8).bind fun l295 =>
    (asAgg 8 (AV.agg l295)).bind fun d296 =>
    (asI .i64 (d296.getD 0 .bad)).bind fun n297 =>
    (asStr (d296.getD 1 .bad)).bind fun s298 =>
    (asStr (d296.getD 2 .bad)).bind fun s299 =>
    (asI .i64 (d296.getD 3 .bad)).bind fun n300 =>
    (asI .i64 (d296.getD 4 .bad)).bind fun n301 =>
    (asI .i64 (d296.getD 5 .bad)).bind fun n302 =>
    (asI .i64 (d296.getD 6 .bad)).bind fun n303 =>
    (asSl (d296.getD 7 .bad)).bind fun s304 =>
    some ((.agg [(.int .i64 n297), (.str s298), (.str s299), (.int .i64 n300), (.int .i64 n301), (.int .i64 n302), (.int .i64 n303), (.slice s304.1 s304.2.1 s304.2.2)]), h293, (nx + 16)))
    else
    (if ((n3 : Int) == 2) = true then
    ((x3).bind fun p305 =>
    (ldA h p305.1 (p305.2 + 5)).bind fun v306 =>
    (asSl v306).bind fun s307 =>
    (srcS h s307.1 s307.2.1 1).bind fun q308 =>
    (appD h none 0 none 1 1 (nx + 14) q308).bind fun e309 =>
    let h310 := AHeap.puts h e309.sets
    (x8).bind fun p311 =>
    (stA h310 p311.1 (p311.2 + 7) (.slice e309.a e309.n e309.c) 1).bind fun b312 =>
    let h313 := AHeap.put h310 p311.1 (some b312)
    (x8).bind fun p314 =>
    (ldR h313 p314.1 p314.2 8).bind fun l315 =>
    (asAgg 8 (AV.agg l315)).bind fun d316 =>
    (asI .i64 (d316.getD 0 .bad)).bind fun n317 =>
    (asStr (d316.getD 1 .bad)).bind fun s318 =>
    (asStr (d316.getD 2 .bad)).bind fun s319 =>
    (asI .i64 (d316.getD 3 .bad)).bind fun n320 =>
    (asI .i64 (d316.getD 4 .bad)).bind fun n321 =>
    (asI .i64 (d316.getD 5 .bad)).bind fun n322 =>
    (asI .i64 (d316.getD 6 .bad)).bind fun n323 =>
    (asSl (d316.getD 7 .bad)).bind fun s324 =>
    (x6).bind fun p325 =>
    (stA h313 p325.1 p325.2 (.agg [(.int .i64 n317), (.str s318), (.str s319), (.int .i64 n320), (.int .i64 n321), (.int .i64 n322), (.int .i64 n323), (.slice s324.1 s324.2.1 s324.2.2)]) 8).bind fun b326 =>
    let h327 := AHeap.put h313 p325.1 (some b326)
    (x6).bind fun p328 =>
    (ldR h327 p328.1 p328.2 8).bind fun l329 =>
    (asAgg 8 (AV.agg l329)).bind fun d330 =>
    (asI .i64 (d330.getD 0 .bad)).bind fun n331 =>
    (asStr (d330.getD 1 .bad)).bind fun s332 =>
    (asStr (d330.getD 2 .bad)).bind fun s333 =>
    (asI .i64 (d330.getD 3 .bad)).bind fun n334 =>
    (asI .i64 (d330.getD 4 .bad)).bind fun n335 =>
    (asI .i64 (d330.getD 5 .bad)).bind fun n336 =>
    (asI .i64 (d330.getD 6 .bad)).bind fun n337 =>
    (asSl (d330.getD 7 .bad)).bind fun s338 =>
    some ((.agg [(.int .i64 n331), (.str s332), (.str s333), (.int .i64 n334), (.int .i64 n335), (.int .i64 n336), (.int .i64 n337), (.slice s338.1 s338.2.1 s338.2.2)]), h327, (nx + 19)))
    else
    ((x8).bind fun p339 =>
    (ldR h p339.1 p339.2 8).bind fun l340 =>
    (asAgg 8 (AV.agg l340)).bind fun d341 =>
    (asI .i64 (d341.getD 0 .bad)).bind fun n342 =>
    (asStr (d341.getD 1 .bad)).bind fun s343 =>
    (asStr (d341.getD 2 .bad)).bind fun s344 =>
    (asI .i64 (d341.getD 3 .bad)).bind fun n345 =>
    (asI .i64 (d341.getD 4 .bad)).bind fun n346 =>
    (asI .i64 (d341.getD 5 .bad)).bind fun n347 =>
    (asI .i64 (d341.getD 6 .bad)).bind fun n348 =>
    (asSl (d341.getD 7 .bad)).bind fun s349 =>
    (x6).bind fun p350 =>
    (stA h p350.1 p350.2 (.agg [(.int .i64 n342), (.str s343), (.str s344), (.int .i64 n345), (.int .i64 n346), (.int .i64 n347), (.int .i64 n348), (.slice s349.1 s349.2.1 s349.2.2)]) 8).bind fun b351 =>
    let h352 := AHeap.put h p350.1 (some b351)
    (x6).bind fun p353 =>
    (ldR h352 p353.1 p353.2 8).bind fun l354 =>
    (asAgg 8 (AV.agg l354)).bind fun d355 =>
    (asI .i64 (d355.getD 0 .bad)).bind fun n356 =>
    (asStr (d355.getD 1 .bad)).bind fun s357 =>
    (asStr (d355.getD 2 .bad)).bind fun s358 =>
    (asI .i64 (d355.getD 3 .bad)).bind fun n359 =>
    (asI .i64 (d355.getD 4 .bad)).bind fun n360 =>
    (asI .i64 (d355.getD 5 .bad)).bind fun n361 =>
    (asI .i64 (d355.getD 6 .bad)).bind fun n362 =>
    (asSl (d355.getD 7 .bad)).bind fun s363 =>
    some ((.agg [(.int .i64 n356), (.str s357), (.str s358), (.int .i64 n359), (.int .i64 n360), (.int .i64 n361), (.int .i64 n362), (.slice s363.1 s363.2.1 s363.2.2)]), h352, (nx + 14)))))
    else
    (if ((n3 : Int) == 19) = true then
    ((x3).bind fun p364 =>
    (ldA h p364.1 (p364.2 + 4)).bind fun v365 =>
    (asI .i64 v365).bind fun n366 =>
    (x8).bind fun p367 =>
    (stA h p367.1 (p367.2 + 4) (.int .i64 n366) 1).bind fun b368 =>
    let h369 := AHeap.put h p367.1 (some b368)
    (x8).bind fun p370 =>
    (ldR h369 p370.1 p370.2 8).bind fun l371 =>
    (asAgg 8 (AV.agg l371)).bind fun d372 =>
    (asI .i64 (d372.getD 0 .bad)).bind fun n373 =>
    (asStr (d372.getD 1 .bad)).bind fun s374 =>
    (asStr (d372.getD 2 .bad)).bind fun s375 =>
    (asI .i64 (d372.getD 3 .bad)).bind fun n376 =>
    (asI .i64 (d372.getD 4 .bad)).bind fun n377 =>
    (asI .i64 (d372.getD 5 .bad)).bind fun n378 =>
    (asI .i64 (d372.getD 6 .bad)).bind fun n379 =>
    (asSl (d372.getD 7 .bad)).bind fun s380 =>
    (x6).bind fun p381 =>
    (stA h369 p381.1 p381.2 (.agg [(.int .i64 n373), (.str s374), (.str s375), (.int .i64 n376), (.int .i64 n377), (.int .i64 n378), (.int .i64 n379), (.slice s380.1 s380.2.1 s380.2.2)]) 8).bind fun b382 =>
    let h383 := AHeap.put h369 p381.1 (some b382)
    (x6).bind fun p384 =>
    (ldR h383 p384.1 p384.2 8).bind fun l385 =>
    (asAgg 8 (AV.agg l385)).bind fun d386 =>
    (asI .i64 (d386.getD 0 .bad)).bind fun n387 =>
    (asStr (d386.getD 1 .bad)).bind fun s388 =>
    (asStr (d386.getD 2 .bad)).bind fun s389 =>
    (asI .i64 (d386.getD 3 .bad)).bind fun n390 =>
    (asI .i64 (d386.getD 4 .bad)).bind fun n391 =>
    (asI .i64 (d386.getD 5 .bad)).bind fun n392 =>
    (asI .i64 (d386.getD 6 .bad)).bind fun n393 =>
    (asSl (d386.getD 7 .bad)).bind fun s394 =>
    some ((.agg [(.int .i64 n387), (.str s388), (.str s389), (.int .i64 n390), (.int .i64 n391), (.int .i64 n392), (.int .i64 n393), (.slice s394.1 s394.2.1 s394.2.2)]), h383, (nx + 18)))
    else
    (if ((n3 : Int) == 2) = true then
    ((x3).bind fun p395 =>
    (ldA h p395.1 (p395.2 + 5)).bind fun v396 =>
    (asSl v396).bind fun s397 =>
    (srcS h s397.1 s397.2.1 1).bind fun q398 =>
    (appD h none 0 none 1 1 (nx + 16) q398).bind fun e399 =>
    let h400 := AHeap.puts h e399.sets
    (x8).bind fun p401 =>
    (stA h400 p401.1 (p401.2 + 7) (.slice e399.a e399.n e399.c) 1).bind fun b402 =>
    let h403 := AHeap.put h400 p401.1 (some b402)
    (x8).bind fun p404 =>
    (ldR h403 p404.1 p404.2 8).bind fun l405 =>
    (asAgg 8 (AV.agg l405)).bind fun d406 =>
    (asI .i64 (d406.getD 0 .bad)).bind fun n407 =>
    (asStr (d406.getD 1 .bad)).bind fun s408 =>
    (asStr (d406.getD 2 .bad)).bind fun s409 =>
    (asI .i64 (d406.getD 3 .bad)).bind fun n410 =>
    (asI .i64 (d406.getD 4 .bad)).bind fun n411 =>
    (asI .i64 (d406.getD 5 .bad)).bind fun n412 =>
    (asI .i64 (d406.getD 6 .bad)).bind fun n413 =>
    (asSl (d406.getD 7 .bad)).bind fun s414 =>
    (x6).bind fun p415 =>
    (stA h403 p415.1 p415.2 (.agg [(.int .i64 n407), (.str s408), (.str s409), (.int .i64 n410), (.int .i64 n411), (.int .i64 n412), (.int .i64 n413), (.slice s414.1 s414.2.1 s414.2.2)]) 8).bind fun b416 =>
    let h417 := AHeap.put h403 p415.1 (some b416)
    (x6).bind fun p418 =>
    (ldR h417 p418.1 p418.2 8).bind fun l419 =>
    (asAgg 8 (AV.agg l419)).bind fun d420 =>
    (asI .i64 (d420.getD 0 .bad)).bind fun n421 =>
    (asStr (d420.getD 1 .bad)).bind fun s422 =>
    (asStr (d420.getD 2 .bad)).bind fun s423 =>
    (asI .i64 (d420.getD 3 .bad)).bind fun n424 =>
    (asI .i64 (d420.getD 4 .bad)).bind fun n425 =>
    (asI .i64 (d420.getD 5 .bad)).bind fun n426 =>
    (asI .i64 (d420.getD 6 .bad)).bind fun n427 =>
    (asSl (d420.getD 7 .bad)).bind fun s428 =>
    some ((.agg [(.int .i64 n421), (.str s422), (.str s423), (.int .i64 n424), (.int .i64 n425), (.int .i64 n426), (.int .i64 n427), (.slice s428.1 s428.2.1 s428.2.2)]), h417, (nx + 21)))
    else
    ((x8).bind fun p429 =>
    (ldR h p429.1 p429.2 8).bind fun l430 =>
    (asAgg 8 (AV.agg l430)).bind fun d431 =>
    (asI .i64 (d431.getD 0 .bad)).bind fun n432 =>
    (asStr (d431.getD 1 .bad)).bind fun s433 =>
    (asStr (d431.getD 2 .bad)).bind fun s434 =>
    (asI .i64 (d431.getD 3 .bad)).bind fun n435 =>
    (asI .i64 (d431.getD 4 .bad)).bind fun n436 =>
    (asI .i64 (d431.getD 5 .bad)).bind fun n437 =>
    (asI .i64 (d431.getD 6 .bad)).bind fun n438 =>
    (asSl (d431.getD 7 .bad)).bind fun s439 =>
    (x6).bind fun p440 =>
    (stA h p440.1 p440.2 (.agg [(.int .i64 n432), (.str s433), (.str s434), (.int .i64 n435), (.int .i64 n436), (.int .i64 n437), (.int .i64 n438), (.slice s439.1 s439.2.1 s439.2.2)]) 8).bind fun b441 =>
    let h442 := AHeap.put h p440.1 (some b441)
    (x6).bind fun p443 =>
    (ldR h442 p443.1 p443.2 8).bind fun l444 =>
    (asAgg 8 (AV.agg l444)).bind fun d445 =>
    (asI .i64 (d445.getD 0 .bad)).bind fun n446 =>
    (asStr (d445.getD 1 .bad)).bind fun s447 =>
    (asStr (d445.getD 2 .bad)).bind fun s448 =>
    (asI .i64 (d445.getD 3 .bad)).bind fun n449 =>
    (asI .i64 (d445.getD 4 .bad)).bind fun n450 =>
    (asI .i64 (d445.getD 5 .bad)).bind fun n451 =>
    (asI .i64 (d445.getD 6 .bad)).bind fun n452 =>
    (asSl (d445.getD 7 .bad)).bind fun s453 =>
    some ((.agg [(.int .i64 n446), (.str s447), (.str s448), (.int .i64 n449), (.int .i64 n450), (.int .i64 n451), (.int .i64 n452), (.slice s453.1 s453.2.1 s453.2.2)]), h442, (nx + 16)))))))) := F11_J3_eq' go1 call Y lf x3 x6 x8 h nx

theorem F11_eq' (J : StepF (AV × AHeap × Nat) → StepF (AV × AHeap × Nat)) (n : Nat) (Y : YldF) (x0_0 : Int) (x0_1 : Int) (x0_2 : Int) (x0_3 : Int) (x0_4 : Int) (x0_5a : Option (Nat × Nat)) (x0_5n : Nat) (x0_5c : Option Nat) (x1 : Int) (x2 : Int) (h : AHeap) (nx : Nat) : rootJ J Tryd.prog keepT (callP Tryd.prog keepT n) Y n 11 [(.agg [(.int .i64 x0_0), (.int .i64 x0_1), (.int .i64 x0_2), (.int .i64 x0_3), (.int .i64 x0_4), (.slice x0_5a x0_5n x0_5c)]), (.int .i64 x1), (.int .i64 x2)] h nx =
    let h1 := AHeap.put h nx (some ⟨[(.int .i64 x0_0), (.int .i64 x0_1), (.int .i64 x0_2), (.int .i64 x0_3), (.int .i64 x0_4), (.slice x0_5a x0_5n x0_5c)], 6, true⟩)
    let h2 := AHeap.put h1 (nx + 1) (some ⟨[(.int .i64 0), (.str (ByteArray.mk #[])), (.str (ByteArray.mk #[])), (.int .i64 0), (.int .i64 0), (.int .i64 0), (.int .i64 0), (.slice none 0 none)], 8, true⟩)
    let h3 := AHeap.put h2 (nx + 2) (some ⟨[(.int .i64 1), (.int .i64 2), (.int .i64 3), (.int .i64 4), (.int .i64 5), (.int .i64 6), (.int .i64 7), (.int .i64 8), (.int .i64 9), (.int .i64 10), (.int .i64 11), (.int .i64 12), (.int .i64 13), (.int .i64 14), (.int .i64 15), (.int .i64 16), (.int .i64 17), (.int .i64 18), (.int .i64 19)], 1, true⟩)
    (ldA h3 nx 0).bind fun v4 =>
    (asI .i64 v4).bind fun n5 =>
    ((callP Tryd.prog keepT n) Y 6 [(.int .i64 n5), (.int .i64 19)] h3 (nx + 15)).bind fun r6 =>
    (asI .i64 r6.1).bind fun n7 =>
    if 0 ≤ (n7 : Int) ∧ n7 < ((19 : Nat) : Int) then
    ((ldA r6.2.1 (nx + 2) (0 + Int.toNat n7 * 1)).bind fun v8 =>
    (asI .i64 v8).bind fun n9 =>
    let h10 := AHeap.put r6.2.1 (nx + 13) (some ⟨[(.int .i64 0), (.str (ByteArray.mk #[])), (.str (ByteArray.mk #[])), (.int .i64 0), (.int .i64 0), (.int .i64 0), (.int .i64 0), (.slice none 0 none)], 8, true⟩)
    (stA h10 (nx + 13) 0 (.agg [(.int .i64 n9), (.str (ByteArray.mk #[])), (.str (ByteArray.mk #[])), (.int .i64 0), (.int .i64 0), (.int .i64 0), (.int .i64 0), (.slice none 0 none)]) 8).bind fun b11 =>
    let h12 := AHeap.put h10 (nx + 13) (some b11)
    (ldA h12 (nx + 13) 0).bind fun v13 =>
    (asI .i64 v13).bind fun n14 =>
    if ((n14 : Int) == 1) = true then
    (if ((n14 : Int) == 1) = true then
    ((ldA h12 nx 1).bind fun v15 =>
    (asI .i64 v15).bind fun n16 =>
    ((callP Tryd.prog keepT n) Y 7 [(.int .i64 n16)] h12 (r6.2.2 + 9)).bind fun r17 =>
    (asStr r17.1).bind fun s18 =>
    (stA r17.2.1 (nx + 13) 1 (.str s18) 1).bind fun b19 =>
    let h20 := AHeap.put r17.2.1 (nx + 13) (some b19)
    F11_J1' J J (callP Tryd.prog keepT n) Y n x1 x2 (some (nx, 0)) (some ((nx + 1), 0)) (some ((nx + 13), 0)) h20 r17.2.2)
    else
    (F11_J1' J J (callP Tryd.prog keepT n) Y n x1 x2 (some (nx, 0)) (some ((nx + 1), 0)) (some ((nx + 13), 0)) h12 (r6.2.2 + 4)))
    else
    (if ((n14 : Int) == 5) = true then
    (if ((n14 : Int) == 5) = true then
    ((ldA h12 nx 1).bind fun v21 =>
    (asI .i64 v21).bind fun n22 =>
    ((callP Tryd.prog keepT n) Y 7 [(.int .i64 n22)] h12 (r6.2.2 + 11)).bind fun r23 =>
    (asStr r23.1).bind fun s24 =>
    (stA r23.2.1 (nx + 13) 1 (.str s24) 1).bind fun b25 =>
    let h26 := AHeap.put r23.2.1 (nx + 13) (some b25)
    F11_J1' J J (callP Tryd.prog keepT n) Y n x1 x2 (some (nx, 0)) (some ((nx + 1), 0)) (some ((nx + 13), 0)) h26 r23.2.2)
    else
    (F11_J1' J J (callP Tryd.prog keepT n) Y n x1 x2 (some (nx, 0)) (some ((nx + 1), 0)) (some ((nx + 13), 0)) h12 (r6.2.2 + 6)))
    else
    (if ((n14 : Int) == 2) = true then
    (if ((n14 : Int) == 2) = true then
    ((ldA h12 nx 1).bind fun v27 =>
    (asI .i64 v27).bind fun n28 =>
    ((callP Tryd.prog keepT n) Y 7 [(.int .i64 n28)] h12 (r6.2.2 + 13)).bind fun r29 =>
    (asStr r29.1).bind fun s30 =>
    (stA r29.2.1 (nx + 13) 1 (.str s30) 1).bind fun b31 =>
    let h32 := AHeap.put r29.2.1 (nx + 13) (some b31)
    F11_J1' J J (callP Tryd.prog keepT n) Y n x1 x2 (some (nx, 0)) (some ((nx + 1), 0)) (some ((nx + 13), 0)) h32 r29.2.2)
    else
    (F11_J1' J J (callP Tryd.prog keepT n) Y n x1 x2 (some (nx, 0)) (some ((nx + 1), 0)) (some ((nx + 13), 0)) h12 (r6.2.2 + 8)))
    else
    (if ((n14 : Int) == 3) = true then
    (if ((n14 : Int) == 3) = true then
    ((ldA h12 nx 1).bind fun v33 =>
    (asI .i64 v33).bind fun n34 =>
    ((callP Tryd.prog keepT n) Y 7 [(.int .i64 n34)] h12 (r6.2.2 + 15)).bind fun r35 =>
    (asStr r35.1).bind fun s36 =>
    (stA r35.2.1 (nx + 13) 1 (.str s36) 1).bind fun b37 =>
    let h38 := AHeap.put r35.2.1 (nx + 13) (some b37)
    F11_J1' J J (callP Tryd.prog keepT n) Y n x1 x2 (some (nx, 0)) (some ((nx + 1), 0)) (some ((nx + 13), 0)) h38 r35.2.2)
    else
    (F11_J1' J J (callP Tryd.prog keepT n) Y n x1 x2 (some (nx, 0)) (some ((nx + 1), 0)) (some ((nx + 13), 0)) h12 (r6.2.2 + 10)))
    else
    (if ((n14 : Int) == 4) = true then
    (if ((n14 : Int) == 4) = true then
    ((ldA h12 nx 1).bind fun v39 =>
    (asI .i64 v39).bind fun n40 =>
    ((callP Tryd.prog keepT n) Y 7 [(.int .i64 n40)] h12 (r6.2.2 + 17)).bind fun r41 =>
    (asStr r41.1).bind fun s42 =>
    (stA r41.2.1 (nx + 13) 1 (.str s42) 1).bind fun b43 =>
    let h44 := AHeap.put r41.2.1 (nx + 13) (some b43)
    F11_J1' J J (callP Tryd.prog keepT n) Y n x1 x2 (some (nx, 0)) (some ((nx + 1), 0)) (some ((nx + 13), 0)) h44 r41.2.2)
    else
    (F11_J1' J J (callP Tryd.prog keepT n) Y n x1 x2 (some (nx, 0)) (some ((nx + 1), 0)) (some ((nx + 13), 0)) h12 (r6.2.2 + 12)))
    else
    (if ((n14 : Int) == 8) = true then
    ((ldA h12 nx 1).bind fun v45 =>
    (asI .i64 v45).bind fun n46 =>
    ((callP Tryd.prog keepT n) Y 7 [(.int .i64 n46)] h12 (r6.2.2 + 19)).bind fun r47 =>
    (asStr r47.1).bind fun s48 =>
    (stA r47.2.1 (nx + 13) 1 (.str s48) 1).bind fun b49 =>
    let h50 := AHeap.put r47.2.1 (nx + 13) (some b49)
    F11_J1' J J (callP Tryd.prog keepT n) Y n x1 x2 (some (nx, 0)) (some ((nx + 1), 0)) (some ((nx + 13), 0)) h50 r47.2.2)
    else
    (F11_J1' J J (callP Tryd.prog keepT n) Y n x1 x2 (some (nx, 0)) (some ((nx + 1), 0)) (some ((nx + 13), 0)) h12 (r6.2.2 + 14))))))))
    else none := by kernel_rfl

/-- quickset/quicksetkeep.LineCommand -/
theorem F11_eq (n : Nat) (Y : YldF) (x0_0 : Int) (x0_1 : Int) (x0_2 : Int) (x0_3 : Int) (x0_4 : Int) (x0_5a : Option (Nat × Nat)) (x0_5n : Nat) (x0_5c : Option Nat) (x1 : Int) (x2 : Int) (h : AHeap) (nx : Nat) : callP Tryd.prog keepT (n + 1) Y 11 [(.agg [(.int .i64 x0_0), (.int .i64 x0_1), (.int .i64 x0_2), (.int .i64 x0_3), (.int .i64 x0_4), (.slice x0_5a x0_5n x0_5c)]), (.int .i64 x1), (.int .i64 x2)] h nx =
    let h1 := AHeap.put h nx (some ⟨[(.int .i64 x0_0), (.int .i64 x0_1), (.int .i64 x0_2), (.int .i64 x0_3), (.int .i64 x0_4), (.slice x0_5a x0_5n x0_5c)], 6, true⟩)
    let h2 := AHeap.put h1 (nx + 1) (some ⟨[(.int .i64 0), (.str (ByteArray.mk #[])), (.str (ByteArray.mk #[])), (.int .i64 0), (.int .i64 0), (.int .i64 0), (.int .i64 0), (.slice none 0 none)], 8, true⟩)
    let h3 := AHeap.put h2 (nx + 2) (some ⟨[(.int .i64 1), (.int .i64 2), (.int .i64 3), (.int .i64 4), (.int .i64 5), (.int .i64 6), (.int .i64 7), (.int .i64 8), (.int .i64 9), (.int .i64 10), (.int .i64 11), (.int .i64 12), (.int .i64 13), (.int .i64 14), (.int .i64 15), (.int .i64 16), (.int .i64 17), (.int .i64 18), (.int .i64 19)], 1, true⟩)
    (ldA h3 nx 0).bind fun v4 =>
    (asI .i64 v4).bind fun n5 =>
    ((callP Tryd.prog keepT n) Y 6 [(.int .i64 n5), (.int .i64 19)] h3 (nx + 15)).bind fun r6 =>
    (asI .i64 r6.1).bind fun n7 =>
    if 0 ≤ (n7 : Int) ∧ n7 < ((19 : Nat) : Int) then
    ((ldA r6.2.1 (nx + 2) (0 + Int.toNat n7 * 1)).bind fun v8 =>
    (asI .i64 v8).bind fun n9 =>
    let h10 := AHeap.put r6.2.1 (nx + 13) (some ⟨[(.int .i64 0), (.str (ByteArray.mk #[])), (.str (ByteArray.mk #[])), (.int .i64 0), (.int .i64 0), (.int .i64 0), (.int .i64 0), (.slice none 0 none)], 8, true⟩)
    (stA h10 (nx + 13) 0 (.agg [(.int .i64 n9), (.str (ByteArray.mk #[])), (.str (ByteArray.mk #[])), (.int .i64 0), (.int .i64 0), (.int .i64 0), (.int .i64 0), (.slice none 0 none)]) 8).bind fun b11 =>
    let h12 := AHeap.put h10 (nx + 13) (some b11)
    (ldA h12 (nx + 13) 0).bind fun v13 =>
    (asI .i64 v13).bind fun n14 =>
    if ((n14 : Int) == 1) = true then
    (if ((n14 : Int) == 1) = true then
    ((ldA h12 nx 1).bind fun v15 =>
    (asI .i64 v15).bind fun n16 =>
    ((callP Tryd.prog keepT n) Y 7 [(.int .i64 n16)] h12 (r6.2.2 + 9)).bind fun r17 =>
    (asStr r17.1).bind fun s18 =>
    (stA r17.2.1 (nx + 13) 1 (.str s18) 1).bind fun b19 =>
    let h20 := AHeap.put r17.2.1 (nx + 13) (some b19)
    F11_J1 (callP Tryd.prog keepT n) Y n x1 x2 (some (nx, 0)) (some ((nx + 1), 0)) (some ((nx + 13), 0)) h20 r17.2.2)
    else
    (F11_J1 (callP Tryd.prog keepT n) Y n x1 x2 (some (nx, 0)) (some ((nx + 1), 0)) (some ((nx + 13), 0)) h12 (r6.2.2 + 4)))
    else
    (if ((n14 : Int) == 5) = true then
    (if ((n14 : Int) == 5) = true then
    ((ldA h12 nx 1).bind fun v21 =>
    (asI .i64 v21).bind fun n22 =>
    ((callP Tryd.prog keepT n) Y 7 [(.int .i64 n22)] h12 (r6.2.2 + 11)).bind fun r23 =>
    (asStr r23.1).bind fun s24 =>
    (stA r23.2.1 (nx + 13) 1 (.str s24) 1).bind fun b25 =>
    let h26 := AHeap.put r23.2.1 (nx + 13) (some b25)
    F11_J1 (callP Tryd.prog keepT n) Y n x1 x2 (some (nx, 0)) (some ((nx + 1), 0)) (some ((nx + 13), 0)) h26 r23.2.2)
    else
    (F11_J1 (callP Tryd.prog keepT n) Y n x1 x2 (some (nx, 0)) (some ((nx + 1), 0)) (some ((nx + 13), 0)) h12 (r6.2.2 + 6)))
    else
    (if ((n14 : Int) == 2) = true then
    (if ((n14 : Int) == 2) = true then
    ((ldA h12 nx 1).bind fun v27 =>
    (asI .i64 v27).bind fun n28 =>
    ((callP Tryd.prog keepT n) Y 7 [(.int .i64 n28)] h12 (r6.2.2 + 13)).bind fun r29 =>
    (asStr r29.1).bind fun s30 =>
    (stA r29.2.1 (nx + 13) 1 (.str s30) 1).bind fun b31 =>
    let h32 := AHeap.put r29.2.1 (nx + 13) (some b31)
    F11_J1 (callP Tryd.prog keepT n) Y n x1 x2 (some (nx, 0)) (some ((nx + 1), 0)) (some ((nx + 13), 0)) h32 r29.2.2)
    else
    (F11_J1 (callP Tryd.prog keepT n) Y n x1 x2 (some (nx, 0)) (some ((nx + 1), 0)) (some ((nx + 13), 0)) h12 (r6.2.2 + 8)))
    else
    (if ((n14 : Int) == 3) = true then
    (if ((n14 : Int) == 3) = true then
    ((ldA h12 nx 1).bind fun v33 =>
    (asI .i64 v33).bind fun n34 =>
    ((callP Tryd.prog keepT n) Y 7 [(.int .i64 n34)] h12 (r6.2.2 + 15)).bind fun r35 =>
    (asStr r35.1).bind fun s36 =>
    (stA r35.2.1 (nx + 13) 1 (.str s36) 1).bind fun b37 =>
    let h38 := AHeap.put r35.2.1 (nx + 13) (some b37)
    F11_J1 (callP Tryd.prog keepT n) Y n x1 x2 (some (nx, 0)) (some ((nx + 1), 0)) (some ((nx + 13), 0)) h38 r35.2.2)
    else
    (F11_J1 (callP Tryd.prog keepT n) Y n x1 x2 (some (nx, 0)) (some ((nx + 1), 0)) (some ((nx + 13), 0)) h12 (r6.2.2 + 10)))
    else
    (if ((n14 : Int) == 4) = true then
    (if ((n14 : Int) == 4) = true then
    ((ldA h12 nx 1).bind fun v39 =>
    (asI .i64 v39).bind fun n40 =>
    ((callP Tryd.prog keepT n) Y 7 [(.int .i64 n40)] h12 (r6.2.2 + 17)).bind fun r41 =>
    (asStr r41.1).bind fun s42 =>
    (stA r41.2.1 (nx + 13) 1 (.str s42) 1).bind fun b43 =>
    let h44 := AHeap.put r41.2.1 (nx + 13) (some b43)
    F11_J1 (callP Tryd.prog keepT n) Y n x1 x2 (some (nx, 0)) (some ((nx + 1), 0)) (some ((nx + 13), 0)) h44 r41.2.2)
    else
    (F11_J1 (callP Tryd.prog keepT n) Y n x1 x2 (some (nx, 0)) (some ((nx + 1), 0)) (some ((nx + 13), 0)) h12 (r6.2.2 + 12)))
    else
    (if ((n14 : Int) == 8) = true then
    ((ldA h12 nx 1).bind fun v45 =>
    (asI .i64 v45).bind fun n46 =>
    ((callP Tryd.prog keepT n) Y 7 [(.int .i64 n46)] h12 (r6.2.2 + 19)).bind fun r47 =>
    (asStr r47.1).bind fun s48 =>
    (stA r47.2.1 (nx + 13) 1 (.str s48) 1).bind fun b49 =>
    let h50 := AHeap.put r47.2.1 (nx + 13) (some b49)
    F11_J1 (callP Tryd.prog keepT n) Y n x1 x2 (some (nx, 0)) (some ((nx + 1), 0)) (some ((nx + 13), 0)) h50 r47.2.2)
    else
    (F11_J1 (callP Tryd.prog keepT n) Y n x1 x2 (some (nx, 0)) (some ((nx + 1), 0)) (some ((nx + 13), 0)) h12 (r6.2.2 + 14))))))))
    else none := F11_eq' go1 n Y x0_0 x0_1 x0_2 x0_3 x0_4 x0_5a x0_5n x0_5c x1 x2 h nx

noncomputable def c12 : Code := (Tryd.f12.body).getD .skip

noncomputable def r12 : List ResultVar := Tryd.f12.results.toList

noncomputable def F12_J1' (W J : StepF (AV × AHeap × Nat) → StepF (AV × AHeap × Nat)) (call : YldF → CallF) (Y : YldF) (lf : Nat) (x1 : Option (Nat × Nat)) (h : AHeap) (nx : Nat) : Option (AV × AHeap × Nat) :=
  goK W J drawK (machOf Tryd.prog) call Y (keepT 12) lf c12 [1, 1] [] (retK (machOf Tryd.prog) ⟨c12, 107, r12, keepT 12⟩) ⟨107, mkL [(1, (.ptr x1))], (machOf Tryd.prog).gk⟩ h nx

noncomputable def F12_J1 (call : YldF → CallF) (Y : YldF) (lf : Nat) (x1 : Option (Nat × Nat)) (h : AHeap) (nx : Nat) : Option (AV × AHeap × Nat) := F12_J1' go1 go1 call Y lf x1 h nx

noncomputable def F12_L2' (W J : StepF (AV × AHeap × Nat) → StepF (AV × AHeap × Nat)) (call : YldF → CallF) (Y : YldF) (lf : Nat) (n0 : Nat) (x1 : Option (Nat × Nat)) (x5a : Option (Nat × Nat)) (x5n : Nat) (x5c : Option Nat) (x29 : Option (Nat × Nat)) (h : AHeap) (nx : Nat) : Option (AV × AHeap × Nat) :=
  goK W J drawK (machOf Tryd.prog) call Y (keepT 12) lf c12 [1, 1, 1, 1, 0, 1, 0, 9] [n0] (retK (machOf Tryd.prog) ⟨c12, 107, r12, keepT 12⟩) ⟨107, mkL [(1, (.ptr x1)), (5, (.slice x5a x5n x5c)), (29, (.ptr x29))], (machOf Tryd.prog).gk⟩ h nx

noncomputable def F12_L2 (call : YldF → CallF) (Y : YldF) (lf : Nat) (n0 : Nat) (x1 : Option (Nat × Nat)) (x5a : Option (Nat × Nat)) (x5n : Nat) (x5c : Option Nat) (x29 : Option (Nat × Nat)) (h : AHeap) (nx : Nat) : Option (AV × AHeap × Nat) := F12_L2' go1 go1 call Y lf n0 x1 x5a x5n x5c x29 h nx

noncomputable def F12_J3' (W J : StepF (AV × AHeap × Nat) → StepF (AV × AHeap × Nat)) (call : YldF → CallF) (Y : YldF) (lf : Nat) (x5a : Option (Nat × Nat)) (x5n : Nat) (x5c : Option Nat) (h : AHeap) (nx : Nat) : Option (AV × AHeap × Nat) :=
  goK W J drawK (machOf Tryd.prog) call Y (keepT 12) lf c12 [1, 1, 1, 1, 1, 1] [] (retK (machOf Tryd.prog) ⟨c12, 107, r12, keepT 12⟩) ⟨107, mkL [(5, (.slice x5a x5n x5c))], (machOf Tryd.prog).gk⟩ h nx

noncomputable def F12_J3 (call : YldF → CallF) (Y : YldF) (lf : Nat) (x5a : Option (Nat × Nat)) (x5n : Nat) (x5c : Option Nat) (h : AHeap) (nx : Nat) : Option (AV × AHeap × Nat) := F12_J3' go1 go1 call Y lf x5a x5n x5c h nx

theorem F12_J1_eq' (J : StepF (AV × AHeap × Nat) → StepF (AV × AHeap × Nat)) (call : YldF → CallF) (Y : YldF) (lf : Nat) (x1 : Option (Nat × Nat)) (h : AHeap) (nx : Nat) : F12_J1' go1 J call Y lf x1 h nx =
    (x1).bind fun p1 =>
    (ldA h p1.1 p1.2).bind fun v2 =>
    (asI .i64 v2).bind fun n3 =>
    if 0 ≤ ((wrapA .i64 (n3 - 1)) : Int) ∧ (wrapA .i64 (n3 - 1)) < ((19 : Nat) : Int) then
    ((ldR h 0 (0 + Int.toNat (wrapA .i64 (n3 - 1)) * 2) 2).bind fun l4 =>
    let h5 := AHeap.put h (nx + 5) (some ⟨[(.str (ByteArray.mk #[])), (.str (ByteArray.mk #[]))], 1, true⟩)
    (stA h5 (nx + 5) 0 (.agg l4) 2).bind fun b6 =>
    let h7 := AHeap.put h5 (nx + 5) (some b6)
    if 0 ≤ (0 : Int) ∧ 0 < ((2 : Nat) : Int) then
    ((ldA h7 (nx + 5) (0 + Int.toNat 0 * 1)).bind fun v8 =>
    (asStr v8).bind fun s9 =>
    let h10 := AHeap.put h7 (nx + 9) (some ⟨[(.str s9)], 1, true⟩)
    if 0 ≤ (1 : Int) ∧ 1 < ((2 : Nat) : Int) then
    ((ldA h10 (nx + 5) (0 + Int.toNat 1 * 1)).bind fun v11 =>
    (asStr v11).bind fun s12 =>
    let h13 := AHeap.put h10 (nx + 13) (some ⟨itC s12 0, MB, true⟩)
    F12_L2' J J call Y lf lf x1 (some ((nx + 9), 0)) 1 (some 1) (some ((nx + 13), 0)) h13 (nx + 14))
    else none)
    else none)
    else none := by kernel_rfl

theorem F12_J1_eq (call : YldF → CallF) (Y : YldF) (lf : Nat) (x1 : Option (Nat × Nat)) (h : AHeap) (nx : Nat) : F12_J1 call Y lf x1 h nx =
    (x1).bind fun p1 =>
    (ldA h p1.1 p1.2).bind fun v2 =>
    (asI .i64 v2).bind fun n3 =>
    if 0 ≤ ((wrapA .i64 (n3 - 1)) : Int) ∧ (wrapA .i64 (n3 - 1)) < ((19 : Nat) : Int) then
    ((ldR h 0 (0 + Int.toNat (wrapA .i64 (n3 - 1)) * 2) 2).bind fun l4 =>
    let h5 := AHeap.put h (nx + 5) (some ⟨[(.str (ByteArray.mk #[])), (.str (ByteArray.mk #[]))], 1, true⟩)
    (stA h5 (nx + 5) 0 (.agg l4) 2).bind fun b6 =>
    let h7 := AHeap.put h5 (nx + 5) (some b6)
    if 0 ≤ (0 : Int) ∧ 0 < ((2 : Nat) : Int) then
    ((ldA h7 (nx + 5) (0 + Int.toNat 0 * 1)).bind fun v8 =>
    (asStr v8).bind fun s9 =>
    let h10 := AHeap.put h7 (nx + 9) (some ⟨[(.str s9)], 1, true⟩)
    if 0 ≤ (1 : Int) ∧ 1 < ((2 : Nat) : Int) then
    ((ldA h10 (nx + 5) (0 + Int.toNat 1 * 1)).bind fun v11 =>
    (asStr v11).bind fun s12 =>
    let h13 := AHeap.put h10 (nx + 13) (some ⟨itC s12 0, MB, true⟩)
    F12_L2 call Y lf lf x1 (some ((nx + 9), 0)) 1 (some 1) (some ((nx + 13), 0)) h13 (nx + 14))
    else none)
    else none)
    else none := F12_J1_eq' go1 call Y lf x1 h nx

theorem F12_L2_eq' (J : StepF (AV × AHeap × Nat) → StepF (AV × AHeap × Nat)) (call : YldF → CallF) (Y : YldF) (lf : Nat) (n0 : Nat) (x1 : Option (Nat × Nat)) (x5a : Option (Nat × Nat)) (x5n : Nat) (x5c : Option Nat) (x29 : Option (Nat × Nat)) (h : AHeap) (nx : Nat) : F12_L2' go1 J call Y lf (n0 + 1) x1 x5a x5n x5c x29 h nx =
    (x29).bind fun p1 =>
    if Nat.beq p1.2 0 = true then
    ((itD h p1.1).bind fun q2 =>
    if Nat.blt q2.2 (ByteArray.size q2.1) = true then
    (let h3 := AHeap.put h p1.1 (some ⟨itC q2.1 (q2.2 + (Utf8.decode q2.1 q2.2).2), MB, true⟩)
    (call Y 28 [(.ptr x1), (.int .i32 (((Utf8.decode q2.1 q2.2).1 : Nat) : Int))] h3 (nx + 13)).bind fun r4 =>
    (asTup 3 r4.1).bind fun d5 =>
    (asP (d5.getD 0 .bad)).bind fun p6 =>
    (asP (d5.getD 1 .bad)).bind fun p7 =>
    (asP (d5.getD 2 .bad)).bind fun p8 =>
    if (!(Option.isNone p6)) = true then
    ((p6).bind fun p9 =>
    (ldA r4.2.1 p9.1 p9.2).bind fun v10 =>
    (asStr v10).bind fun s11 =>
    (call Y 17 [(.str s11)] r4.2.1 (r4.2.2 + 8)).bind fun r12 =>
    (asB r12.1).bind fun t13 =>
    if (!t13) = true then
    (some ((.tuple [(.str (ByteArray.mk #[])), (.int .i64 4)]), r12.2.1, (r12.2.2 + 2)))
    else
    ((p6).bind fun p14 =>
    (ldA r12.2.1 p14.1 p14.2).bind fun v15 =>
    (asStr v15).bind fun s16 =>
    let h17 := AHeap.put r12.2.1 (r12.2.2 + 5) (some ⟨[(.str s16)], 1, true⟩)
    (srcS h17 (some ((r12.2.2 + 5), 0)) 1 1).bind fun q18 =>
    (appD h17 x5a x5n x5c 1 16 (r12.2.2 + 6) q18).bind fun e19 =>
    let h20 := AHeap.puts h17 e19.sets
    (p6).bind fun p21 =>
    (stA h20 p21.1 p21.2 (.str (ByteArray.mk #[])) 1).bind fun b22 =>
    let h23 := AHeap.put h20 p21.1 (some b22)
    F12_L2' J J call Y lf n0 x1 e19.a e19.n e19.c x29 h23 (r12.2.2 + 10)))
    else
    (if (!(Option.isNone p7)) = true then
    ((p7).bind fun p24 =>
    (ldA r4.2.1 p24.1 p24.2).bind fun v25 =>
    (asI .i64 v25).bind fun n26 =>
    (call Y 19 [(.int .i64 n26)] r4.2.1 (r4.2.2 + 17)).bind fun r27 =>
    (asStr r27.1).bind fun s28 =>
    let h29 := AHeap.put r27.2.1 (r4.2.2 + 12) (some ⟨[(.str s28)], 1, true⟩)
    (srcS h29 (some ((r4.2.2 + 12), 0)) 1 1).bind fun q30 =>
    (appD h29 x5a x5n x5c 1 16 (r4.2.2 + 13) q30).bind fun e31 =>
    let h32 := AHeap.puts h29 e31.sets
    (p7).bind fun p33 =>
    (stA h32 p33.1 p33.2 (.int .i64 0) 1).bind fun b34 =>
    let h35 := AHeap.put h32 p33.1 (some b34)
    F12_L2' J J call Y lf n0 x1 e31.a e31.n e31.c x29 h35 r27.2.2)
    else
    (if (!(Option.isNone p8)) = true then
    ((p8).bind fun p36 =>
    (ldA r4.2.1 p36.1 p36.2).bind fun v37 =>
    (asSl v37).bind fun s38 =>
    (call Y 20 [(.slice s38.1 s38.2.1 s38.2.2)] r4.2.1 (r4.2.2 + 20)).bind fun r39 =>
    (asStr r39.1).bind fun s40 =>
    let h41 := AHeap.put r39.2.1 (r4.2.2 + 15) (some ⟨[(.str s40)], 1, true⟩)
    (srcS h41 (some ((r4.2.2 + 15), 0)) 1 1).bind fun q42 =>
    (appD h41 x5a x5n x5c 1 16 (r4.2.2 + 16) q42).bind fun e43 =>
    let h44 := AHeap.puts h41 e43.sets
    (p8).bind fun p45 =>
    (stA h44 p45.1 p45.2 (.slice none 0 none) 1).bind fun b46 =>
    let h47 := AHeap.put h44 p45.1 (some b46)
    F12_L2' J J call Y lf n0 x1 e43.a e43.n e43.c x29 h47 r39.2.2)
    else
    (F12_L2' J J call Y lf n0 x1 x5a x5n x5c x29 r4.2.1 (r4.2.2 + 9)))))
    else
    ((x1).bind fun p48 =>
    (ldA h p48.1 (p48.2 + 1)).bind fun v49 =>
    (asStr v49).bind fun s50 =>
    (x1).bind fun p51 =>
    (ldA h p51.1 (p51.2 + 2)).bind fun v52 =>
    (asStr v52).bind fun s53 =>
    if (((s50.size + s53.size : Nat) : Int)) > 9223372036854775807 then none else
    (if (!((s50 ++ s53).toList == (ByteArray.mk #[]).toList)) = true then
    (some ((.tuple [(.str (ByteArray.mk #[])), (.int .i64 4)]), h, (nx + 30)))
    else
    ((x1).bind fun p54 =>
    (ldA h p54.1 (p54.2 + 3)).bind fun v55 =>
    (asI .i64 v55).bind fun n56 =>
    (x1).bind fun p57 =>
    (ldA h p57.1 (p57.2 + 4)).bind fun v58 =>
    (asI .i64 v58).bind fun n59 =>
    (x1).bind fun p60 =>
    (ldA h p60.1 (p60.2 + 5)).bind fun v61 =>
    (asI .i64 v61).bind fun n62 =>
    (x1).bind fun p63 =>
    (ldA h p63.1 (p63.2 + 6)).bind fun v64 =>
    (asI .i64 v64).bind fun n65 =>
    if (((bits .or .i64 (bits .or .i64 (bits .or .i64 n56 n59) n62) n65) : Int) != 0) = true then
    (some ((.tuple [(.str (ByteArray.mk #[])), (.int .i64 4)]), h, (nx + 30)))
    else
    ((x1).bind fun p66 =>
    (ldA h p66.1 (p66.2 + 7)).bind fun v67 =>
    (asSl v67).bind fun s68 =>
    if (decide ((((s68.2.1 : Nat) : Int) : Int) > 0)) = true then
    (some ((.tuple [(.str (ByteArray.mk #[])), (.int .i64 4)]), h, (nx + 30)))
    else
    (F12_J3' J J call Y lf x5a x5n x5c h (nx + 28)))))))
    else none := by kernel_rfl

theorem F12_L2_eq (call : YldF → CallF) (Y : YldF) (lf : Nat) (n0 : Nat) (x1 : Option (Nat × Nat)) (x5a : Option (Nat × Nat)) (x5n : Nat) (x5c : Option Nat) (x29 : Option (Nat × Nat)) (h : AHeap) (nx : Nat) : F12_L2 call Y lf (n0 + 1) x1 x5a x5n x5c x29 h nx =
    (x29).bind fun p1 =>
    if Nat.beq p1.2 0 = true then
    ((itD h p1.1).bind fun q2 =>
    if Nat.blt q2.2 (ByteArray.size q2.1) = true then
    (let h3 := AHeap.put h p1.1 (some ⟨itC q2.1 (q2.2 + (Utf8.decode q2.1 q2.2).2), MB, true⟩)
    (call Y 28 [(.ptr x1), (.int .i32 (((Utf8.decode q2.1 q2.2).1 : Nat) : Int))] h3 (nx + 13)).bind fun r4 =>
    (asTup 3 r4.1).bind fun d5 =>
    (asP (d5.getD 0 .bad)).bind fun p6 =>
    (asP (d5.getD 1 .bad)).bind fun p7 =>
    (asP (d5.getD 2 .bad)).bind fun p8 =>
    if (!(Option.isNone p6)) = true then
    ((p6).bind fun p9 =>
    (ldA r4.2.1 p9.1 p9.2).bind fun v10 =>
    (asStr v10).bind fun s11 =>
    (call Y 17 [(.str s11)] r4.2.1 (r4.2.2 + 8)).bind fun r12 =>
    (asB r12.1).bind fun t13 =>
    if (!t13) = true then
    (some ((.tuple [(.str (ByteArray.mk #[])), (.int .i64 4)]), r12.2.1, (r12.2.2 + 2)))
    else
    ((p6).bind fun p14 =>
    (ldA r12.2.1 p14.1 p14.2).bind fun v15 =>
    (asStr v15).bind fun s16 =>
    let h17 := AHeap.put r12.2.1 (r12.2.2 + 5) (some ⟨[(.str s16)], 1, true⟩)
    (srcS h17 (some ((r12.2.2 + 5), 0)) 1 1).bind fun q18 =>
    (appD h17 x5a x5n x5c 1 16 (r12.2.2 + 6) q18).bind fun e19 =>
    let h20 := AHeap.puts h17 e19.sets
    (p6).bind fun p21 =>
    (stA h20 p21.1 p21.2 (.str (ByteArray.mk #[])) 1).bind fun b22 =>
    let h23 := AHeap.put h20 p21.1 (some b22)
    F12_L2 call Y lf n0 x1 e19.a e19.n e19.c x29 h23 (r12.2.2 + 10)))
    else
    (if (!(Option.isNone p7)) = true then
    ((p7).bind fun p24 =>
    (ldA r4.2.1 p24.1 p24.2).bind fun v25 =>
    (asI .i64 v25).bind fun n26 =>
    (call Y 19 [(.int .i64 n26)] r4.2.1 (r4.2.2 + 17)).bind fun r27 =>
    (asStr r27.1).bind fun s28 =>
    let h29 := AHeap.put r27.2.1 (r4.2.2 + 12) (some ⟨[(.str s28)], 1, true⟩)
    (srcS h29 (some ((r4.2.2 + 12), 0)) 1 1).bind fun q30 =>
    (appD h29 x5a x5n x5c 1 16 (r4.2.2 + 13) q30).bind fun e31 =>
    let h32 := AHeap.puts h29 e31.sets
    (p7).bind fun p33 =>
    (stA h32 p33.1 p33.2 (.int .i64 0) 1).bind fun b34 =>
    let h35 := AHeap.put h32 p33.1 (some b34)
    F12_L2 call Y lf n0 x1 e31.a e31.n e31.c x29 h35 r27.2.2)
    else
    (if (!(Option.isNone p8)) = true then
    ((p8).bind fun p36 =>
    (ldA r4.2.1 p36.1 p36.2).bind fun v37 =>
    (asSl v37).bind fun s38 =>
    (call Y 20 [(.slice s38.1 s38.2.1 s38.2.2)] r4.2.1 (r4.2.2 + 20)).bind fun r39 =>
    (asStr r39.1).bind fun s40 =>
    let h41 := AHeap.put r39.2.1 (r4.2.2 + 15) (some ⟨[(.str s40)], 1, true⟩)
    (srcS h41 (some ((r4.2.2 + 15), 0)) 1 1).bind fun q42 =>
    (appD h41 x5a x5n x5c 1 16 (r4.2.2 + 16) q42).bind fun e43 =>
    let h44 := AHeap.puts h41 e43.sets
    (p8).bind fun p45 =>
    (stA h44 p45.1 p45.2 (.slice none 0 none) 1).bind fun b46 =>
    let h47 := AHeap.put h44 p45.1 (some b46)
    F12_L2 call Y lf n0 x1 e43.a e43.n e43.c x29 h47 r39.2.2)
    else
    (F12_L2 call Y lf n0 x1 x5a x5n x5c x29 r4.2.1 (r4.2.2 + 9)))))
    else
    ((x1).bind fun p48 =>
    (ldA h p48.1 (p48.2 + 1)).bind fun v49 =>
    (asStr v49).bind fun s50 =>
    (x1).bind fun p51 =>
    (ldA h p51.1 (p51.2 + 2)).bind fun v52 =>
    (asStr v52).bind fun s53 =>
    if (((s50.size + s53.size : Nat) : Int)) > 9223372036854775807 then none else
    (if (!((s50 ++ s53).toList == (ByteArray.mk #[]).toList)) = true then
    (some ((.tuple [(.str (ByteArray.mk #[])), (.int .i64 4)]), h, (nx + 30)))
    else
    ((x1).bind fun p54 =>
    (ldA h p54.1 (p54.2 + 3)).bind fun v55 =>
    (asI .i64 v55).bind fun n56 =>
    (x1).bind fun p57 =>
    (ldA h p57.1 (p57.2 + 4)).bind fun v58 =>
    (asI .i64 v58).bind fun n59 =>
    (x1).bind fun p60 =>
    (ldA h p60.1 (p60.2 + 5)).bind fun v61 =>
    (asI .i64 v61).bind fun n62 =>
    (x1).bind fun p63 =>
    (ldA h p63.1 (p63.2 + 6)).bind fun v64 =>
    (asI .i64 v64).bind fun n65 =>
    if (((bits .or .i64 (bits .or .i64 (bits .or .i64 n56 n59) n62) n65) : Int) != 0) = true then
    (some ((.tuple [(.str (ByteArray.mk #[])), (.int .i64 4)]), h, (nx + 30)))
    else
    ((x1).bind fun p66 =>
    (ldA h p66.1 (p66.2 + 7)).bind fun v67 =>
    (asSl v67).bind fun s68 =>
    if (decide ((((s68.2.1 : Nat) : Int) : Int) > 0)) = true then
    (some ((.tuple [(.str (ByteArray.mk #[])), (.int .i64 4)]), h, (nx + 30)))
    else
    (F12_J3 call Y lf x5a x5n x5c h (nx + 28)))))))
    else none := F12_L2_eq' go1 call Y lf n0 x1 x5a x5n x5c x29 h nx

theorem F12_L2_zero (call : YldF → CallF) (Y : YldF) (lf : Nat) (x1 : Option (Nat × Nat)) (x5a : Option (Nat × Nat)) (x5n : Nat) (x5c : Option Nat) (x29 : Option (Nat × Nat)) (h : AHeap) (nx : Nat) : F12_L2 call Y lf 0 x1 x5a x5n x5c x29 h nx = none := by kernel_rfl

theorem F12_J3_eq' (J : StepF (AV × AHeap × Nat) → StepF (AV × AHeap × Nat)) (call : YldF → CallF) (Y : YldF) (lf : Nat) (x5a : Option (Nat × Nat)) (x5n : Nat) (x5c : Option Nat) (h : AHeap) (nx : Nat) : F12_J3' go1 J call Y lf x5a x5n x5c h nx =
    (call Y 21 [(.slice x5a x5n x5c), (.str (ByteArray.mk #[32]))] h (nx + 4)).bind fun r1 =>
    (asStr r1.1).bind fun s2 =>
    some ((.tuple [(.str s2), (.int .i64 0)]), r1.2.1, r1.2.2) := by kernel_rfl

theorem F12_J3_eq (call : YldF → CallF) (Y : YldF) (lf : Nat) (x5a : Option (Nat × Nat)) (x5n : Nat) (x5c : Option Nat) (h : AHeap) (nx : Nat) : F12_J3 call Y lf x5a x5n x5c h nx =
    (call Y 21 [(.slice x5a x5n x5c), (.str (ByteArray.mk #[32]))] h (nx + 4)).bind fun r1 =>
    (asStr r1.1).bind fun s2 =>
    some ((.tuple [(.str s2), (.int .i64 0)]), r1.2.1, r1.2.2) := F12_J3_eq' go1 call Y lf x5a x5n x5c h nx

theorem F12_eq' (J : StepF (AV × AHeap × Nat) → StepF (AV × AHeap × Nat)) (n : Nat) (Y : YldF) (x0_0 : Int) (x0_1 : ByteArray) (x0_2 : ByteArray) (x0_3 : Int) (x0_4 : Int) (x0_5 : Int) (x0_6 : Int) (x0_7a : Option (Nat × Nat)) (x0_7n : Nat) (x0_7c : Option Nat) (h : AHeap) (nx : Nat) : rootJ J Tryd.prog keepT (callP Tryd.prog keepT n) Y n 12 [(.agg [(.int .i64 x0_0), (.str x0_1), (.str x0_2), (.int .i64 x0_3), (.int .i64 x0_4), (.int .i64 x0_5), (.int .i64 x0_6), (.slice x0_7a x0_7n x0_7c)])] h nx =
    let h1 := AHeap.put h nx (some ⟨[(.int .i64 x0_0), (.str x0_1), (.str x0_2), (.int .i64 x0_3), (.int .i64 x0_4), (.int .i64 x0_5), (.int .i64 x0_6), (.slice x0_7a x0_7n x0_7c)], 8, true⟩)
    (ldA h1 nx 0).bind fun v2 =>
    (asI .i64 v2).bind fun n3 =>
    if (decide ((n3 : Int) < 1)) = true then
    (some ((.tuple [(.str (ByteArray.mk #[])), (.int .i64 3)]), h1, (nx + 13)))
    else
    ((ldA h1 nx 0).bind fun v4 =>
    (asI .i64 v4).bind fun n5 =>
    if (decide ((n5 : Int) > 19)) = true then
    (some ((.tuple [(.str (ByteArray.mk #[])), (.int .i64 3)]), h1, (nx + 13)))
    else
    (F12_J1' J J (callP Tryd.prog keepT n) Y n (some (nx, 0)) h1 (nx + 11))) := by kernel_rfl

/-- quickset/desk.Show -/
theorem F12_eq (n : Nat) (Y : YldF) (x0_0 : Int) (x0_1 : ByteArray) (x0_2 : ByteArray) (x0_3 : Int) (x0_4 : Int) (x0_5 : Int) (x0_6 : Int) (x0_7a : Option (Nat × Nat)) (x0_7n : Nat) (x0_7c : Option Nat) (h : AHeap) (nx : Nat) : callP Tryd.prog keepT (n + 1) Y 12 [(.agg [(.int .i64 x0_0), (.str x0_1), (.str x0_2), (.int .i64 x0_3), (.int .i64 x0_4), (.int .i64 x0_5), (.int .i64 x0_6), (.slice x0_7a x0_7n x0_7c)])] h nx =
    let h1 := AHeap.put h nx (some ⟨[(.int .i64 x0_0), (.str x0_1), (.str x0_2), (.int .i64 x0_3), (.int .i64 x0_4), (.int .i64 x0_5), (.int .i64 x0_6), (.slice x0_7a x0_7n x0_7c)], 8, true⟩)
    (ldA h1 nx 0).bind fun v2 =>
    (asI .i64 v2).bind fun n3 =>
    if (decide ((n3 : Int) < 1)) = true then
    (some ((.tuple [(.str (ByteArray.mk #[])), (.int .i64 3)]), h1, (nx + 13)))
    else
    ((ldA h1 nx 0).bind fun v4 =>
    (asI .i64 v4).bind fun n5 =>
    if (decide ((n5 : Int) > 19)) = true then
    (some ((.tuple [(.str (ByteArray.mk #[])), (.int .i64 3)]), h1, (nx + 13)))
    else
    (F12_J1 (callP Tryd.prog keepT n) Y n (some (nx, 0)) h1 (nx + 11))) := F12_eq' go1 n Y x0_0 x0_1 x0_2 x0_3 x0_4 x0_5 x0_6 x0_7a x0_7n x0_7c h nx

noncomputable def c13 : Code := (Tryd.f13.body).getD .skip

noncomputable def r13 : List ResultVar := Tryd.f13.results.toList

noncomputable def F13_J1' (W J : StepF (AV × AHeap × Nat) → StepF (AV × AHeap × Nat)) (call : YldF → CallF) (Y : YldF) (lf : Nat) (x2 : Option (Nat × Nat)) (x4 : Option (Nat × Nat)) (x5 : Int) (h : AHeap) (nx : Nat) : Option (AV × AHeap × Nat) :=
  goK W J drawK (machOf Tryd.prog) call Y (keepT 13) lf c13 [1, 1, 1, 1] [] (retK (machOf Tryd.prog) ⟨c13, 90, r13, keepT 13⟩) ⟨90, mkL [(2, (.ptr x2)), (4, (.ptr x4)), (5, (.int .i64 x5))], (machOf Tryd.prog).gk⟩ h nx

noncomputable def F13_J1 (call : YldF → CallF) (Y : YldF) (lf : Nat) (x2 : Option (Nat × Nat)) (x4 : Option (Nat × Nat)) (x5 : Int) (h : AHeap) (nx : Nat) : Option (AV × AHeap × Nat) := F13_J1' go1 go1 call Y lf x2 x4 x5 h nx

noncomputable def F13_L2' (W J : StepF (AV × AHeap × Nat) → StepF (AV × AHeap × Nat)) (call : YldF → CallF) (Y : YldF) (lf : Nat) (n0 : Nat) (x2 : Option (Nat × Nat)) (x4 : Option (Nat × Nat)) (x6 : Option (Nat × Nat)) (x7 : Bool) (x41 : Option (Nat × Nat)) (h : AHeap) (nx : Nat) : Option (AV × AHeap × Nat) :=
  goK W J drawK (machOf Tryd.prog) call Y (keepT 13) lf c13 [1, 1, 1, 1, 1, 1, 0, 1, 0, 9] [n0] (retK (machOf Tryd.prog) ⟨c13, 90, r13, keepT 13⟩) ⟨90, mkL [(2, (.ptr x2)), (4, (.ptr x4)), (6, (.ptr x6)), (7, (.bool x7)), (41, (.ptr x41))], (machOf Tryd.prog).gk⟩ h nx

noncomputable def F13_L2 (call : YldF → CallF) (Y : YldF) (lf : Nat) (n0 : Nat) (x2 : Option (Nat × Nat)) (x4 : Option (Nat × Nat)) (x6 : Option (Nat × Nat)) (x7 : Bool) (x41 : Option (Nat × Nat)) (h : AHeap) (nx : Nat) : Option (AV × AHeap × Nat) := F13_L2' go1 go1 call Y lf n0 x2 x4 x6 x7 x41 h nx

noncomputable def F13_J3' (W J : StepF (AV × AHeap × Nat) → StepF (AV × AHeap × Nat)) (call : YldF → CallF) (Y : YldF) (lf : Nat) (n0 : Nat) (x2 : Option (Nat × Nat)) (x4 : Option (Nat × Nat)) (x6 : Option (Nat × Nat)) (x7 : Bool) (x10 : Bool) (x41 : Option (Nat × Nat)) (h : AHeap) (nx : Nat) : Option (AV × AHeap × Nat) :=
  goK W J drawK (machOf Tryd.prog) call Y (keepT 13) lf c13 [1, 1, 1, 1, 1, 1, 0, 1, 0, 0, 1, 1, 0, 1, 1, 1, 1] [n0] (retK (machOf Tryd.prog) ⟨c13, 90, r13, keepT 13⟩) ⟨90, mkL [(2, (.ptr x2)), (4, (.ptr x4)), (6, (.ptr x6)), (7, (.bool x7)), (10, (.bool x10)), (41, (.ptr x41))], (machOf Tryd.prog).gk⟩ h nx

noncomputable def F13_J3 (call : YldF → CallF) (Y : YldF) (lf : Nat) (n0 : Nat) (x2 : Option (Nat × Nat)) (x4 : Option (Nat × Nat)) (x6 : Option (Nat × Nat)) (x7 : Bool) (x10 : Bool) (x41 : Option (Nat × Nat)) (h : AHeap) (nx : Nat) : Option (AV × AHeap × Nat) := F13_J3' go1 go1 call Y lf n0 x2 x4 x6 x7 x10 x41 h nx

theorem F13_J1_eq' (J : StepF (AV × AHeap × Nat) → StepF (AV × AHeap × Nat)) (call : YldF → CallF) (Y : YldF) (lf : Nat) (x2 : Option (Nat × Nat)) (x4 : Option (Nat × Nat)) (x5 : Int) (h : AHeap) (nx : Nat) : F13_J1' go1 J call Y lf x2 x4 x5 h nx =
    let h1 := AHeap.put h (nx + 3) (some ⟨[(.int .i64 0), (.str (ByteArray.mk #[])), (.str (ByteArray.mk #[])), (.int .i64 0), (.int .i64 0), (.int .i64 0), (.int .i64 0), (.slice none 0 none)], 8, true⟩)
    (stA h1 (nx + 3) 0 (.agg [(.int .i64 (wrapA .i64 (1 + x5))), (.str (ByteArray.mk #[])), (.str (ByteArray.mk #[])), (.int .i64 0), (.int .i64 0), (.int .i64 0), (.int .i64 0), (.slice none 0 none)]) 8).bind fun b2 =>
    let h3 := AHeap.put h1 (nx + 3) (some b2)
    if 0 ≤ (x5 : Int) ∧ x5 < ((19 : Nat) : Int) then
    (if 0 ≤ (1 : Int) ∧ 1 < ((2 : Nat) : Int) then
    ((ldA h3 0 ((0 + Int.toNat x5 * 2) + Int.toNat 1 * 1)).bind fun v4 =>
    (asStr v4).bind fun s5 =>
    let h6 := AHeap.put h3 (nx + 10) (some ⟨itC s5 0, MB, true⟩)
    F13_L2' J J call Y lf lf x2 x4 (some ((nx + 3), 0)) true (some ((nx + 10), 0)) h6 (nx + 11))
    else none)
    else none := by kernel_rfl

theorem F13_J1_eq (call : YldF → CallF) (Y : YldF) (lf : Nat) (x2 : Option (Nat × Nat)) (x4 : Option (Nat × Nat)) (x5 : Int) (h : AHeap) (nx : Nat) : F13_J1 call Y lf x2 x4 x5 h nx =
    let h1 := AHeap.put h (nx + 3) (some ⟨[(.int .i64 0), (.str (ByteArray.mk #[])), (.str (ByteArray.mk #[])), (.int .i64 0), (.int .i64 0), (.int .i64 0), (.int .i64 0), (.slice none 0 none)], 8, true⟩)
    (stA h1 (nx + 3) 0 (.agg [(.int .i64 (wrapA .i64 (1 + x5))), (.str (ByteArray.mk #[])), (.str (ByteArray.mk #[])), (.int .i64 0), (.int .i64 0), (.int .i64 0), (.int .i64 0), (.slice none 0 none)]) 8).bind fun b2 =>
    let h3 := AHeap.put h1 (nx + 3) (some b2)
    if 0 ≤ (x5 : Int) ∧ x5 < ((19 : Nat) : Int) then
    (if 0 ≤ (1 : Int) ∧ 1 < ((2 : Nat) : Int) then
    ((ldA h3 0 ((0 + Int.toNat x5 * 2) + Int.toNat 1 * 1)).bind fun v4 =>
    (asStr v4).bind fun s5 =>
    let h6 := AHeap.put h3 (nx + 10) (some ⟨itC s5 0, MB, true⟩)
    F13_L2 call Y lf lf x2 x4 (some ((nx + 3), 0)) true (some ((nx + 10), 0)) h6 (nx + 11))
    else none)
    else none := F13_J1_eq' go1 call Y lf x2 x4 x5 h nx

theorem F13_L2_eq' (J : StepF (AV × AHeap × Nat) → StepF (AV × AHeap × Nat)) (call : YldF → CallF) (Y : YldF) (lf : Nat) (n0 : Nat) (x2 : Option (Nat × Nat)) (x4 : Option (Nat × Nat)) (x6 : Option (Nat × Nat)) (x7 : Bool) (x41 : Option (Nat × Nat)) (h : AHeap) (nx : Nat) : F13_L2' go1 J call Y lf (n0 + 1) x2 x4 x6 x7 x41 h nx =
    (x41).bind fun p1 =>
    if Nat.beq p1.2 0 = true then
    ((itD h p1.1).bind fun q2 =>
    if Nat.blt q2.2 (ByteArray.size q2.1) = true then
    (let h3 := AHeap.put h p1.1 (some ⟨itC q2.1 (q2.2 + (Utf8.decode q2.1 q2.2).2), MB, true⟩)
    (x4).bind fun p4 =>
    (ldA h3 p4.1 p4.2).bind fun v5 =>
    (asSl v5).bind fun s6 =>
    (s6.1).bind fun p7 =>
    if 0 ≤ ((wrapA .i64 (((q2.2 : Nat) : Int) + 1)) : Int) ∧ (wrapA .i64 (((q2.2 : Nat) : Int) + 1)) < ((s6.2.1 : Nat) : Int) then
    ((ldA h3 p7.1 (p7.2 + Int.toNat (wrapA .i64 (((q2.2 : Nat) : Int) + 1)) * 1)).bind fun v8 =>
    (asStr v8).bind fun s9 =>
    (call Y 28 [(.ptr x6), (.int .i32 (((Utf8.decode q2.1 q2.2).1 : Nat) : Int))] h3 (nx + 22)).bind fun r10 =>
    (asTup 3 r10.1).bind fun d11 =>
    (asP (d11.getD 0 .bad)).bind fun p12 =>
    (asP (d11.getD 1 .bad)).bind fun p13 =>
    (asP (d11.getD 2 .bad)).bind fun p14 =>
    if (!(Option.isNone p12)) = true then
    ((call Y 17 [(.str s9)] r10.2.1 (r10.2.2 + 10)).bind fun r15 =>
    (asB r15.1).bind fun t16 =>
    (p12).bind fun p17 =>
    (stA r15.2.1 p17.1 p17.2 (.str s9) 1).bind fun b18 =>
    let h19 := AHeap.put r15.2.1 p17.1 (some b18)
    F13_J3' J J call Y lf n0 x2 x4 x6 x7 t16 x41 h19 r15.2.2)
    else
    (if (!(Option.isNone p13)) = true then
    ((call Y 23 [(.str s9)] r10.2.1 (r10.2.2 + 15)).bind fun r20 =>
    (asTup 2 r20.1).bind fun d21 =>
    (asI .i64 (d21.getD 0 .bad)).bind fun n22 =>
    (asB (d21.getD 1 .bad)).bind fun t23 =>
    (p13).bind fun p24 =>
    (stA r20.2.1 p24.1 p24.2 (.int .i64 n22) 1).bind fun b25 =>
    let h26 := AHeap.put r20.2.1 p24.1 (some b25)
    F13_J3' J J call Y lf n0 x2 x4 x6 x7 t23 x41 h26 r20.2.2)
    else
    ((call Y 24 [(.str s9)] r10.2.1 (r10.2.2 + 15)).bind fun r27 =>
    (asTup 2 r27.1).bind fun d28 =>
    (asSl (d28.getD 0 .bad)).bind fun s29 =>
    (asB (d28.getD 1 .bad)).bind fun t30 =>
    (p14).bind fun p31 =>
    (stA r27.2.1 p31.1 p31.2 (.slice s29.1 s29.2.1 s29.2.2) 1).bind fun b32 =>
    let h33 := AHeap.put r27.2.1 p31.1 (some b32)
    F13_J3' J J call Y lf n0 x2 x4 x6 x7 t30 x41 h33 r27.2.2)))
    else none)
    else
    (if (!x7) = true then
    ((x2).bind fun p34 =>
    (stA h p34.1 p34.2 (.agg [(.int .i64 0), (.str (ByteArray.mk #[])), (.str (ByteArray.mk #[])), (.int .i64 0), (.int .i64 0), (.int .i64 0), (.int .i64 0), (.slice none 0 none)]) 8).bind fun b35 =>
    let h36 := AHeap.put h p34.1 (some b35)
    (x2).bind fun p37 =>
    (ldR h36 p37.1 p37.2 8).bind fun l38 =>
    (asAgg 8 (AV.agg l38)).bind fun d39 =>
    (asI .i64 (d39.getD 0 .bad)).bind fun n40 =>
    (asStr (d39.getD 1 .bad)).bind fun s41 =>
    (asStr (d39.getD 2 .bad)).bind fun s42 =>
    (asI .i64 (d39.getD 3 .bad)).bind fun n43 =>
    (asI .i64 (d39.getD 4 .bad)).bind fun n44 =>
    (asI .i64 (d39.getD 5 .bad)).bind fun n45 =>
    (asI .i64 (d39.getD 6 .bad)).bind fun n46 =>
    (asSl (d39.getD 7 .bad)).bind fun s47 =>
    some ((.tuple [(.agg [(.int .i64 n40), (.str s41), (.str s42), (.int .i64 n43), (.int .i64 n44), (.int .i64 n45), (.int .i64 n46), (.slice s47.1 s47.2.1 s47.2.2)]), (.int .i64 4)]), h36, (nx + 7)))
    else
    ((x6).bind fun p48 =>
    (ldR h p48.1 p48.2 8).bind fun l49 =>
    (asAgg 8 (AV.agg l49)).bind fun d50 =>
    (asI .i64 (d50.getD 0 .bad)).bind fun n51 =>
    (asStr (d50.getD 1 .bad)).bind fun s52 =>
    (asStr (d50.getD 2 .bad)).bind fun s53 =>
    (asI .i64 (d50.getD 3 .bad)).bind fun n54 =>
    (asI .i64 (d50.getD 4 .bad)).bind fun n55 =>
    (asI .i64 (d50.getD 5 .bad)).bind fun n56 =>
    (asI .i64 (d50.getD 6 .bad)).bind fun n57 =>
    (asSl (d50.getD 7 .bad)).bind fun s58 =>
    (x2).bind fun p59 =>
    (stA h p59.1 p59.2 (.agg [(.int .i64 n51), (.str s52), (.str s53), (.int .i64 n54), (.int .i64 n55), (.int .i64 n56), (.int .i64 n57), (.slice s58.1 s58.2.1 s58.2.2)]) 8).bind fun b60 =>
    let h61 := AHeap.put h p59.1 (some b60)
    (x2).bind fun p62 =>
    (ldR h61 p62.1 p62.2 8).bind fun l63 =>
    (asAgg 8 (AV.agg l63)).bind fun d64 =>
    (asI .i64 (d64.getD 0 .bad)).bind fun n65 =>
    (asStr (d64.getD 1 .bad)).bind fun s66 =>
    (asStr (d64.getD 2 .bad)).bind fun s67 =>
    (asI .i64 (d64.getD 3 .bad)).bind fun n68 =>
    (asI .i64 (d64.getD 4 .bad)).bind fun n69 =>
    (asI .i64 (d64.getD 5 .bad)).bind fun n70 =>
    (asI .i64 (d64.getD 6 .bad)).bind fun n71 =>
    (asSl (d64.getD 7 .bad)).bind fun s72 =>
    some ((.tuple [(.agg [(.int .i64 n65), (.str s66), (.str s67), (.int .i64 n68), (.int .i64 n69), (.int .i64 n70), (.int .i64 n71), (.slice s72.1 s72.2.1 s72.2.2)]), (.int .i64 0)]), h61, (nx + 7)))))
    else none := by kernel_rfl

theorem F13_L2_eq (call : YldF → CallF) (Y : YldF) (lf : Nat) (n0 : Nat) (x2 : Option (Nat × Nat)) (x4 : Option (Nat × Nat)) (x6 : Option (Nat × Nat)) (x7 : Bool) (x41 : Option (Nat × Nat)) (h : AHeap) (nx : Nat) : F13_L2 call Y lf (n0 + 1) x2 x4 x6 x7 x41 h nx =
    (x41).bind fun p1 =>
    if Nat.beq p1.2 0 = true then
    ((itD h p1.1).bind fun q2 =>
    if Nat.blt q2.2 (ByteArray.size q2.1) = true then
    (let h3 := AHeap.put h p1.1 (some ⟨itC q2.1 (q2.2 + (Utf8.decode q2.1 q2.2).2), MB, true⟩)
    (x4).bind fun p4 =>
    (ldA h3 p4.1 p4.2).bind fun v5 =>
    (asSl v5).bind fun s6 =>
    (s6.1).bind fun p7 =>
    if 0 ≤ ((wrapA .i64 (((q2.2 : Nat) : Int) + 1)) : Int) ∧ (wrapA .i64 (((q2.2 : Nat) : Int) + 1)) < ((s6.2.1 : Nat) : Int) then
    ((ldA h3 p7.1 (p7.2 + Int.toNat (wrapA .i64 (((q2.2 : Nat) : Int) + 1)) * 1)).bind fun v8 =>
    (asStr v8).bind fun s9 =>
    (call Y 28 [(.ptr x6), (.int .i32 (((Utf8.decode q2.1 q2.2).1 : Nat) : Int))] h3 (nx + 22)).bind fun r10 =>
    (asTup 3 r10.1).bind fun d11 =>
    (asP (d11.getD 0 .bad)).bind fun p12 =>
    (asP (d11.getD 1 .bad)).bind fun p13 =>
    (asP (d11.getD 2 .bad)).bind fun p14 =>
    if (!(Option.isNone p12)) = true then
    ((call Y 17 [(.str s9)] r10.2.1 (r10.2.2 + 10)).bind fun r15 =>
    (asB r15.1).bind fun t16 =>
    (p12).bind fun p17 =>
    (stA r15.2.1 p17.1 p17.2 (.str s9) 1).bind fun b18 =>
    let h19 := AHeap.put r15.2.1 p17.1 (some b18)
    F13_J3 call Y lf n0 x2 x4 x6 x7 t16 x41 h19 r15.2.2)
    else
    (if (!(Option.isNone p13)) = true then
    ((call Y 23 [(.str s9)] r10.2.1 (r10.2.2 + 15)).bind fun r20 =>
    (asTup 2 r20.1).bind fun d21 =>
    (asI .i64 (d21.getD 0 .bad)).bind fun n22 =>
    (asB (d21.getD 1 .bad)).bind fun t23 =>
    (p13).bind fun p24 =>
    (stA r20.2.1 p24.1 p24.2 (.int .i64 n22) 1).bind fun b25 =>
    let h26 := AHeap.put r20.2.1 p24.1 (some b25)
    F13_J3 call Y lf n0 x2 x4 x6 x7 t23 x41 h26 r20.2.2)
    else
    ((call Y 24 [(.str s9)] r10.2.1 (r10.2.2 + 15)).bind fun r27 =>
    (asTup 2 r27.1).bind fun d28 =>
    (asSl (d28.getD 0 .bad)).bind fun s29 =>
    (asB (d28.getD 1 .bad)).bind fun t30 =>
    (p14).bind fun p31 =>
    (stA r27.2.1 p31.1 p31.2 (.slice s29.1 s29.2.1 s29.2.2) 1).bind fun b32 =>
    let h33 := AHeap.put r27.2.1 p31.1 (some b32)
    F13_J3 call Y lf n0 x2 x4 x6 x7 t30 x41 h33 r27.2.2)))
    else none)
    else
    (if (!x7) = true then
    ((x2).bind fun p34 =>
    (stA h p34.1 p34.2 (.agg [(.int .i64 0), (.str (ByteArray.mk #[])), (.str (ByteArray.mk #[])), (.int .i64 0), (.int .i64 0), (.int .i64 0), (.int .i64 0), (.slice none 0 none)]) 8).bind fun b35 =>
    let h36 := AHeap.put h p34.1 (some b35)
    (x2).bind fun p37 =>
    (ldR h36 p37.1 p37.2 8).bind fun l38 =>
    (asAgg 8 (AV.agg l38)).bind fun d39 =>
    (asI .i64 (d39.getD 0 .bad)).bind fun n40 =>
    (asStr (d39.getD 1 .bad)).bind fun s41 =>
    (asStr (d39.getD 2 .bad)).bind fun s42 =>
    (asI .i64 (d39.getD 3 .bad)).bind fun n43 =>
    (asI .i64 (d39.getD 4 .bad)).bind fun n44 =>
    (asI .i64 (d39.getD 5 .bad)).bind fun n45 =>
    (asI .i64 (d39.getD 6 .bad)).bind fun n46 =>
    (asSl (d39.getD 7 .bad)).bind fun s47 =>
    some ((.tuple [(.agg [(.int .i64 n40), (.str s41), (.str s42), (.int .i64 n43), (.int .i64 n44), (.int .i64 n45), (.int .i64 n46), (.slice s47.1 s47.2.1 s47.2.2)]), (.int .i64 4)]), h36, (nx + 7)))
    else
    ((x6).bind fun p48 =>
    (ldR h p48.1 p48.2 8).bind fun l49 =>
    (asAgg 8 (AV.agg l49)).bind fun d50 =>
    (asI .i64 (d50.getD 0 .bad)).bind fun n51 =>
    (asStr (d50.getD 1 .bad)).bind fun s52 =>
    (asStr (d50.getD 2 .bad)).bind fun s53 =>
    (asI .i64 (d50.getD 3 .bad)).bind fun n54 =>
    (asI .i64 (d50.getD 4 .bad)).bind fun n55 =>
    (asI .i64 (d50.getD 5 .bad)).bind fun n56 =>
    (asI .i64 (d50.getD 6 .bad)).bind fun n57 =>
    (asSl (d50.getD 7 .bad)).bind fun s58 =>
    (x2).bind fun p59 =>
    (stA h p59.1 p59.2 (.agg [(.int .i64 n51), (.str s52), (.str s53), (.int .i64 n54), (.int .i64 n55), (.int .i64 n56), (.int .i64 n57), (.slice s58.1 s58.2.1 s58.2.2)]) 8).bind fun b60 =>
    let h61 := AHeap.put h p59.1 (some b60)
    (x2).bind fun p62 =>
    (ldR h61 p62.1 p62.2 8).bind fun l63 =>
    (asAgg 8 (AV.agg l63)).bind fun d64 =>
    (asI .i64 (d64.getD 0 .bad)).bind fun n65 =>
    (asStr (d64.getD 1 .bad)).bind fun s66 =>
    (asStr (d64.getD 2 .bad)).bind fun s67 =>
    (asI .i64 (d64.getD 3 .bad)).bind fun n68 =>
    (asI .i64 (d64.getD 4 .bad)).bind fun n69 =>
    (asI .i64 (d64.getD 5 .bad)).bind fun n70 =>
    (asI .i64 (d64.getD 6 .bad)).bind fun n71 =>
    (asSl (d64.getD 7 .bad)).bind fun s72 =>
    some ((.tuple [(.agg [(.int .i64 n65), (.str s66), (.str s67), (.int .i64 n68), (.int .i64 n69), (.int .i64 n70), (.int .i64 n71), (.slice s72.1 s72.2.1 s72.2.2)]), (.int .i64 0)]), h61, (nx + 7)))))
    else none := F13_L2_eq' go1 call Y lf n0 x2 x4 x6 x7 x41 h nx

theorem F13_L2_zero (call : YldF → CallF) (Y : YldF) (lf : Nat) (x2 : Option (Nat × Nat)) (x4 : Option (Nat × Nat)) (x6 : Option (Nat × Nat)) (x7 : Bool) (x41 : Option (Nat × Nat)) (h : AHeap) (nx : Nat) : F13_L2 call Y lf 0 x2 x4 x6 x7 x41 h nx = none := by kernel_rfl

theorem F13_J3_eq' (J : StepF (AV × AHeap × Nat) → StepF (AV × AHeap × Nat)) (call : YldF → CallF) (Y : YldF) (lf : Nat) (n0 : Nat) (x2 : Option (Nat × Nat)) (x4 : Option (Nat × Nat)) (x6 : Option (Nat × Nat)) (x7 : Bool) (x10 : Bool) (x41 : Option (Nat × Nat)) (h : AHeap) (nx : Nat) : F13_J3' go1 J call Y lf n0 x2 x4 x6 x7 x10 x41 h nx =
    if x7 = true then
    (F13_L2' J J call Y lf n0 x2 x4 x6 x10 x41 h (nx + 5))
    else
    (F13_L2' J J call Y lf n0 x2 x4 x6 false x41 h (nx + 5)) := by kernel_rfl

theorem F13_J3_eq (call : YldF → CallF) (Y : YldF) (lf : Nat) (n0 : Nat) (x2 : Option (Nat × Nat)) (x4 : Option (Nat × Nat)) (x6 : Option (Nat × Nat)) (x7 : Bool) (x10 : Bool) (x41 : Option (Nat × Nat)) (h : AHeap) (nx : Nat) : F13_J3 call Y lf n0 x2 x4 x6 x7 x10 x41 h nx =
    if x7 = true then
    (F13_L2 call Y lf n0 x2 x4 x6 x10 x41 h (nx + 5))
    else
    (F13_L2 call Y lf n0 x2 x4 x6 false x41 h (nx + 5)) := F13_J3_eq' go1 call Y lf n0 x2 x4 x6 x7 x10 x41 h nx

theorem F13_eq' (J : StepF (AV × AHeap × Nat) → StepF (AV × AHeap × Nat)) (n : Nat) (Y : YldF) (x0 : ByteArray) (h : AHeap) (nx : Nat) : rootJ J Tryd.prog keepT (callP Tryd.prog keepT n) Y n 13 [(.str x0)] h nx =
    let h1 := AHeap.put h nx (some ⟨[(.int .i64 0), (.str (ByteArray.mk #[])), (.str (ByteArray.mk #[])), (.int .i64 0), (.int .i64 0), (.int .i64 0), (.int .i64 0), (.slice none 0 none)], 8, true⟩)
    ((callP Tryd.prog keepT n) Y 22 [(.str x0), (.str (ByteArray.mk #[32]))] h1 (nx + 6)).bind fun r2 =>
    (asSl r2.1).bind fun s3 =>
    let h4 := AHeap.put r2.2.1 (nx + 4) (some ⟨[(.slice none 0 none)], 1, true⟩)
    (stA h4 (nx + 4) 0 (.slice s3.1 s3.2.1 s3.2.2) 1).bind fun b5 =>
    let h6 := AHeap.put h4 (nx + 4) (some b5)
    (cutR h6 (some (0, 0)) 19 2 none none none).bind fun s7 =>
    ((callP Tryd.prog keepT n) Y 29 [(.slice s7.1 s7.2.1 s7.2.2), (.fn 30 [] [(.ptr (some ((nx + 4), 0)))])] h6 (r2.2.2 + 4)).bind fun r8 =>
    (asI .i64 r8.1).bind fun n9 =>
    if (decide ((n9 : Int) < 0)) = true then
    ((stA r8.2.1 nx 0 (.agg [(.int .i64 0), (.str (ByteArray.mk #[])), (.str (ByteArray.mk #[])), (.int .i64 0), (.int .i64 0), (.int .i64 0), (.int .i64 0), (.slice none 0 none)]) 8).bind fun b10 =>
    let h11 := AHeap.put r8.2.1 nx (some b10)
    (ldR h11 nx 0 8).bind fun l12 =>
    (asAgg 8 (AV.agg l12)).bind fun d13 =>
    (asI .i64 (d13.getD 0 .bad)).bind fun n14 =>
    (asStr (d13.getD 1 .bad)).bind fun s15 =>
    (asStr (d13.getD 2 .bad)).bind fun s16 =>
    (asI .i64 (d13.getD 3 .bad)).bind fun n17 =>
    (asI .i64 (d13.getD 4 .bad)).bind fun n18 =>
    (asI .i64 (d13.getD 5 .bad)).bind fun n19 =>
    (asI .i64 (d13.getD 6 .bad)).bind fun n20 =>
    (asSl (d13.getD 7 .bad)).bind fun s21 =>
    some ((.tuple [(.agg [(.int .i64 n14), (.str s15), (.str s16), (.int .i64 n17), (.int .i64 n18), (.int .i64 n19), (.int .i64 n20), (.slice s21.1 s21.2.1 s21.2.2)]), (.int .i64 4)]), h11, (r8.2.2 + 16)))
    else
    ((ldA r8.2.1 (nx + 4) 0).bind fun v22 =>
    (asSl v22).bind fun s23 =>
    if 0 ≤ (n9 : Int) ∧ n9 < ((19 : Nat) : Int) then
    (if 0 ≤ (1 : Int) ∧ 1 < ((2 : Nat) : Int) then
    ((ldA r8.2.1 0 ((0 + Int.toNat n9 * 2) + Int.toNat 1 * 1)).bind fun v24 =>
    (asStr v24).bind fun s25 =>
    if ((((s23.2.1 : Nat) : Int) : Int) != (wrapA .i64 (((ByteArray.size s25 : Nat) : Int) + 1))) = true then
    ((stA r8.2.1 nx 0 (.agg [(.int .i64 0), (.str (ByteArray.mk #[])), (.str (ByteArray.mk #[])), (.int .i64 0), (.int .i64 0), (.int .i64 0), (.int .i64 0), (.slice none 0 none)]) 8).bind fun b26 =>
    let h27 := AHeap.put r8.2.1 nx (some b26)
    (ldR h27 nx 0 8).bind fun l28 =>
    (asAgg 8 (AV.agg l28)).bind fun d29 =>
    (asI .i64 (d29.getD 0 .bad)).bind fun n30 =>
    (asStr (d29.getD 1 .bad)).bind fun s31 =>
    (asStr (d29.getD 2 .bad)).bind fun s32 =>
    (asI .i64 (d29.getD 3 .bad)).bind fun n33 =>
    (asI .i64 (d29.getD 4 .bad)).bind fun n34 =>
    (asI .i64 (d29.getD 5 .bad)).bind fun n35 =>
    (asI .i64 (d29.getD 6 .bad)).bind fun n36 =>
    (asSl (d29.getD 7 .bad)).bind fun s37 =>
    some ((.tuple [(.agg [(.int .i64 n30), (.str s31), (.str s32), (.int .i64 n33), (.int .i64 n34), (.int .i64 n35), (.int .i64 n36), (.slice s37.1 s37.2.1 s37.2.2)]), (.int .i64 4)]), h27, (r8.2.2 + 16)))
    else
    (F13_J1' J J (callP Tryd.prog keepT n) Y n (some (nx, 0)) (some ((nx + 4), 0)) n9 r8.2.1 (r8.2.2 + 13)))
    else none)
    else none) := by kernel_rfl

/-- quickset/desk.Read -/
theorem F13_eq (n : Nat) (Y : YldF) (x0 : ByteArray) (h : AHeap) (nx : Nat) : callP Tryd.prog keepT (n + 1) Y 13 [(.str x0)] h nx =
    let h1 := AHeap.put h nx (some ⟨[(.int .i64 0), (.str (ByteArray.mk #[])), (.str (ByteArray.mk #[])), (.int .i64 0), (.int .i64 0), (.int .i64 0), (.int .i64 0), (.slice none 0 none)], 8, true⟩)
    ((callP Tryd.prog keepT n) Y 22 [(.str x0), (.str (ByteArray.mk #[32]))] h1 (nx + 6)).bind fun r2 =>
    (asSl r2.1).bind fun s3 =>
    let h4 := AHeap.put r2.2.1 (nx + 4) (some ⟨[(.slice none 0 none)], 1, true⟩)
    (stA h4 (nx + 4) 0 (.slice s3.1 s3.2.1 s3.2.2) 1).bind fun b5 =>
    let h6 := AHeap.put h4 (nx + 4) (some b5)
    (cutR h6 (some (0, 0)) 19 2 none none none).bind fun s7 =>
    ((callP Tryd.prog keepT n) Y 29 [(.slice s7.1 s7.2.1 s7.2.2), (.fn 30 [] [(.ptr (some ((nx + 4), 0)))])] h6 (r2.2.2 + 4)).bind fun r8 =>
    (asI .i64 r8.1).bind fun n9 =>
    if (decide ((n9 : Int) < 0)) = true then
    ((stA r8.2.1 nx 0 (.agg [(.int .i64 0), (.str (ByteArray.mk #[])), (.str (ByteArray.mk #[])), (.int .i64 0), (.int .i64 0), (.int .i64 0), (.int .i64 0), (.slice none 0 none)]) 8).bind fun b10 =>
    let h11 := AHeap.put r8.2.1 nx (some b10)
    (ldR h11 nx 0 8).bind fun l12 =>
    (asAgg 8 (AV.agg l12)).bind fun d13 =>
    (asI .i64 (d13.getD 0 .bad)).bind fun n14 =>
    (asStr (d13.getD 1 .bad)).bind fun s15 =>
    (asStr (d13.getD 2 .bad)).bind fun s16 =>
    (asI .i64 (d13.getD 3 .bad)).bind fun n17 =>
    (asI .i64 (d13.getD 4 .bad)).bind fun n18 =>
    (asI .i64 (d13.getD 5 .bad)).bind fun n19 =>
    (asI .i64 (d13.getD 6 .bad)).bind fun n20 =>
    (asSl (d13.getD 7 .bad)).bind fun s21 =>
    some ((.tuple [(.agg [(.int .i64 n14), (.str s15), (.str s16), (.int .i64 n17), (.int .i64 n18), (.int .i64 n19), (.int .i64 n20), (.slice s21.1 s21.2.1 s21.2.2)]), (.int .i64 4)]), h11, (r8.2.2 + 16)))
    else
    ((ldA r8.2.1 (nx + 4) 0).bind fun v22 =>
    (asSl v22).bind fun s23 =>
    if 0 ≤ (n9 : Int) ∧ n9 < ((19 : Nat) : Int) then
    (if 0 ≤ (1 : Int) ∧ 1 < ((2 : Nat) : Int) then
    ((ldA r8.2.1 0 ((0 + Int.toNat n9 * 2) + Int.toNat 1 * 1)).bind fun v24 =>
    (asStr v24).bind fun s25 =>
    if ((((s23.2.1 : Nat) : Int) : Int) != (wrapA .i64 (((ByteArray.size s25 : Nat) : Int) + 1))) = true then
    ((stA r8.2.1 nx 0 (.agg [(.int .i64 0), (.str (ByteArray.mk #[])), (.str (ByteArray.mk #[])), (.int .i64 0), (.int .i64 0), (.int .i64 0), (.int .i64 0), (.slice none 0 none)]) 8).bind fun b26 =>
    let h27 := AHeap.put r8.2.1 nx (some b26)
    (ldR h27 nx 0 8).bind fun l28 =>
    (asAgg 8 (AV.agg l28)).bind fun d29 =>
    (asI .i64 (d29.getD 0 .bad)).bind fun n30 =>
    (asStr (d29.getD 1 .bad)).bind fun s31 =>
    (asStr (d29.getD 2 .bad)).bind fun s32 =>
    (asI .i64 (d29.getD 3 .bad)).bind fun n33 =>
    (asI .i64 (d29.getD 4 .bad)).bind fun n34 =>
    (asI .i64 (d29.getD 5 .bad)).bind fun n35 =>
    (asI .i64 (d29.getD 6 .bad)).bind fun n36 =>
    (asSl (d29.getD 7 .bad)).bind fun s37 =>
    some ((.tuple [(.agg [(.int .i64 n30), (.str s31), (.str s32), (.int .i64 n33), (.int .i64 n34), (.int .i64 n35), (.int .i64 n36), (.slice s37.1 s37.2.1 s37.2.2)]), (.int .i64 4)]), h27, (r8.2.2 + 16)))
    else
    (F13_J1 (callP Tryd.prog keepT n) Y n (some (nx, 0)) (some ((nx + 4), 0)) n9 r8.2.1 (r8.2.2 + 13)))
    else none)
    else none) := F13_eq' go1 n Y x0 h nx

end Go.Proofs.YtahilinkfnchaaaDoor.T
