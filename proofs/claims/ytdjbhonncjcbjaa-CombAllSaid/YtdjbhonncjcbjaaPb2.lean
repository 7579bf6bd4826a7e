/- Printed by mp.py: functions of the program as plain Lean, each by the kernel. -/
import Derived.Test.YtdjbhonncjcbjaaPb1
set_option linter.unusedVariables false
set_option linter.unusedSimpArgs false
namespace Go.Proofs.Ytdjbhonncjcbjaa.T
open Go Go.RowKit Go.Proofs
set_option maxRecDepth 100000

noncomputable def c27 : Code := (Try.f27.body).getD .skip

noncomputable def r27 : List ResultVar := Try.f27.results.toList

noncomputable def F27_J1' (W J : StepF (AV × AHeap × Nat) → StepF (AV × AHeap × Nat)) (call : YldF → CallF) (Y : YldF) (lf : Nat) (x0 : Int) (x1a : Option (Nat × Nat)) (x1n : Nat) (x1c : Bool) (h : AHeap) (nx : Nat) : Option (AV × AHeap × Nat) :=
  goK W J drawK (machOf Try.prog) call Y (keepT 27) lf c27 [1, 1] [] (retK (machOf Try.prog) ⟨c27, 66, r27, keepT 27⟩) ⟨66, mkL [(0, (.int .i64 x0)), (1, (.slice x1a x1n x1c))]⟩ h nx

noncomputable def F27_J1 (call : YldF → CallF) (Y : YldF) (lf : Nat) (x0 : Int) (x1a : Option (Nat × Nat)) (x1n : Nat) (x1c : Bool) (h : AHeap) (nx : Nat) : Option (AV × AHeap × Nat) := F27_J1' go1 go1 call Y lf x0 x1a x1n x1c h nx

noncomputable def F27_L2' (W J : StepF (AV × AHeap × Nat) → StepF (AV × AHeap × Nat)) (call : YldF → CallF) (Y : YldF) (lf : Nat) (n0 : Nat) (x0 : Int) (x1a : Option (Nat × Nat)) (x1n : Nat) (x1c : Bool) (x6 : Int) (x7 : Int) (x17a : Option (Nat × Nat)) (x17n : Nat) (x17c : Bool) (x18 : Int) (x19 : Int) (h : AHeap) (nx : Nat) : Option (AV × AHeap × Nat) :=
  goK W J drawK (machOf Try.prog) call Y (keepT 27) lf c27 [1, 1, 1, 0, 1, 0, 9] [n0] (retK (machOf Try.prog) ⟨c27, 66, r27, keepT 27⟩) ⟨66, mkL [(0, (.int .i64 x0)), (1, (.slice x1a x1n x1c)), (6, (.int .i64 x6)), (7, (.int .i64 x7)), (17, (.slice x17a x17n x17c)), (18, (.int .i64 x18)), (19, (.int .i64 x19))]⟩ h nx

noncomputable def F27_L2 (call : YldF → CallF) (Y : YldF) (lf : Nat) (n0 : Nat) (x0 : Int) (x1a : Option (Nat × Nat)) (x1n : Nat) (x1c : Bool) (x6 : Int) (x7 : Int) (x17a : Option (Nat × Nat)) (x17n : Nat) (x17c : Bool) (x18 : Int) (x19 : Int) (h : AHeap) (nx : Nat) : Option (AV × AHeap × Nat) := F27_L2' go1 go1 call Y lf n0 x0 x1a x1n x1c x6 x7 x17a x17n x17c x18 x19 h nx

noncomputable def F27_J3' (W J : StepF (AV × AHeap × Nat) → StepF (AV × AHeap × Nat)) (call : YldF → CallF) (Y : YldF) (lf : Nat) (n0 : Nat) (x0 : Int) (x1a : Option (Nat × Nat)) (x1n : Nat) (x1c : Bool) (x6 : Int) (x7 : Int) (x8 : Int) (x9 : Int) (x17a : Option (Nat × Nat)) (x17n : Nat) (x17c : Bool) (x18 : Int) (x19 : Int) (h : AHeap) (nx : Nat) : Option (AV × AHeap × Nat) :=
  goK W J drawK (machOf Try.prog) call Y (keepT 27) lf c27 [1, 1, 1, 0, 1, 0, 0, 1, 1, 0, 0, 1, 1] [n0] (retK (machOf Try.prog) ⟨c27, 66, r27, keepT 27⟩) ⟨66, mkL [(0, (.int .i64 x0)), (1, (.slice x1a x1n x1c)), (6, (.int .i64 x6)), (7, (.int .i64 x7)), (8, (.int .i64 x8)), (9, (.int .i64 x9)), (17, (.slice x17a x17n x17c)), (18, (.int .i64 x18)), (19, (.int .i64 x19))]⟩ h nx

noncomputable def F27_J3 (call : YldF → CallF) (Y : YldF) (lf : Nat) (n0 : Nat) (x0 : Int) (x1a : Option (Nat × Nat)) (x1n : Nat) (x1c : Bool) (x6 : Int) (x7 : Int) (x8 : Int) (x9 : Int) (x17a : Option (Nat × Nat)) (x17n : Nat) (x17c : Bool) (x18 : Int) (x19 : Int) (h : AHeap) (nx : Nat) : Option (AV × AHeap × Nat) := F27_J3' go1 go1 call Y lf n0 x0 x1a x1n x1c x6 x7 x8 x9 x17a x17n x17c x18 x19 h nx

noncomputable def F27_L4' (W J : StepF (AV × AHeap × Nat) → StepF (AV × AHeap × Nat)) (call : YldF → CallF) (Y : YldF) (lf : Nat) (n0 : Nat) (n1 : Nat) (x0 : Int) (x1a : Option (Nat × Nat)) (x1n : Nat) (x1c : Bool) (x6 : Int) (x8 : Int) (x9 : Int) (x10 : Int) (x17a : Option (Nat × Nat)) (x17n : Nat) (x17c : Bool) (x18 : Int) (x19 : Int) (h : AHeap) (nx : Nat) : Option (AV × AHeap × Nat) :=
  goK W J drawK (machOf Try.prog) call Y (keepT 27) lf c27 [1, 1, 1, 0, 1, 0, 0, 1, 1, 0, 0, 1, 1, 0, 1, 0, 9] [n0, n1] (retK (machOf Try.prog) ⟨c27, 66, r27, keepT 27⟩) ⟨66, mkL [(0, (.int .i64 x0)), (1, (.slice x1a x1n x1c)), (6, (.int .i64 x6)), (8, (.int .i64 x8)), (9, (.int .i64 x9)), (10, (.int .i64 x10)), (17, (.slice x17a x17n x17c)), (18, (.int .i64 x18)), (19, (.int .i64 x19))]⟩ h nx

noncomputable def F27_L4 (call : YldF → CallF) (Y : YldF) (lf : Nat) (n0 : Nat) (n1 : Nat) (x0 : Int) (x1a : Option (Nat × Nat)) (x1n : Nat) (x1c : Bool) (x6 : Int) (x8 : Int) (x9 : Int) (x10 : Int) (x17a : Option (Nat × Nat)) (x17n : Nat) (x17c : Bool) (x18 : Int) (x19 : Int) (h : AHeap) (nx : Nat) : Option (AV × AHeap × Nat) := F27_L4' go1 go1 call Y lf n0 n1 x0 x1a x1n x1c x6 x8 x9 x10 x17a x17n x17c x18 x19 h nx

noncomputable def F27_J5' (W J : StepF (AV × AHeap × Nat) → StepF (AV × AHeap × Nat)) (call : YldF → CallF) (Y : YldF) (lf : Nat) (n0 : Nat) (n1 : Nat) (x0 : Int) (x1a : Option (Nat × Nat)) (x1n : Nat) (x1c : Bool) (x6 : Int) (x8 : Int) (x9 : Int) (x10 : Int) (x17a : Option (Nat × Nat)) (x17n : Nat) (x17c : Bool) (x18 : Int) (x19 : Int) (h : AHeap) (nx : Nat) : Option (AV × AHeap × Nat) :=
  goK W J drawK (machOf Try.prog) call Y (keepT 27) lf c27 [1, 1, 1, 0, 1, 0, 0, 1, 1, 0, 0, 1, 1, 0, 1, 0, 0, 1] [n0, n1] (retK (machOf Try.prog) ⟨c27, 66, r27, keepT 27⟩) ⟨66, mkL [(0, (.int .i64 x0)), (1, (.slice x1a x1n x1c)), (6, (.int .i64 x6)), (8, (.int .i64 x8)), (9, (.int .i64 x9)), (10, (.int .i64 x10)), (17, (.slice x17a x17n x17c)), (18, (.int .i64 x18)), (19, (.int .i64 x19))]⟩ h nx

noncomputable def F27_J5 (call : YldF → CallF) (Y : YldF) (lf : Nat) (n0 : Nat) (n1 : Nat) (x0 : Int) (x1a : Option (Nat × Nat)) (x1n : Nat) (x1c : Bool) (x6 : Int) (x8 : Int) (x9 : Int) (x10 : Int) (x17a : Option (Nat × Nat)) (x17n : Nat) (x17c : Bool) (x18 : Int) (x19 : Int) (h : AHeap) (nx : Nat) : Option (AV × AHeap × Nat) := F27_J5' go1 go1 call Y lf n0 n1 x0 x1a x1n x1c x6 x8 x9 x10 x17a x17n x17c x18 x19 h nx

theorem F27_J1_eq' (J : StepF (AV × AHeap × Nat) → StepF (AV × AHeap × Nat)) (call : YldF → CallF) (Y : YldF) (lf : Nat) (x0 : Int) (x1a : Option (Nat × Nat)) (x1n : Nat) (x1c : Bool) (h : AHeap) (nx : Nat) : F27_J1' go1 J call Y lf x0 x1a x1n x1c h nx =
    F27_L2' J J call Y lf lf x0 x1a x1n x1c 0 (-1) x1a x1n x1c ((x1n : Nat) : Int) 0 h (nx + 5) := by kernel_rfl

theorem F27_J1_eq (call : YldF → CallF) (Y : YldF) (lf : Nat) (x0 : Int) (x1a : Option (Nat × Nat)) (x1n : Nat) (x1c : Bool) (h : AHeap) (nx : Nat) : F27_J1 call Y lf x0 x1a x1n x1c h nx =
    F27_L2 call Y lf lf x0 x1a x1n x1c 0 (-1) x1a x1n x1c ((x1n : Nat) : Int) 0 h (nx + 5) := F27_J1_eq' go1 call Y lf x0 x1a x1n x1c h nx

theorem F27_L2_eq' (J : StepF (AV × AHeap × Nat) → StepF (AV × AHeap × Nat)) (call : YldF → CallF) (Y : YldF) (lf : Nat) (n0 : Nat) (x0 : Int) (x1a : Option (Nat × Nat)) (x1n : Nat) (x1c : Bool) (x6 : Int) (x7 : Int) (x17a : Option (Nat × Nat)) (x17n : Nat) (x17c : Bool) (x18 : Int) (x19 : Int) (h : AHeap) (nx : Nat) : F27_L2' go1 J call Y lf (n0 + 1) x0 x1a x1n x1c x6 x7 x17a x17n x17c x18 x19 h nx =
    if (decide ((x19 : Int) < x18)) = true then
    ((x17a).bind fun p1 =>
    if 0 ≤ (x19 : Int) ∧ x19 < ((x17n : Nat) : Int) then
    ((ldA h p1.1 (p1.2 + Int.toNat x19 * 1)).bind fun v2 =>
    (asI .i64 v2).bind fun n3 =>
    if (decide ((n3 : Int) ≤ x7)) = true then
    (some ((.tuple [(.int .i64 0), (.int .i64 4)]), h, (nx + 16)))
    else
    (if (decide ((n3 : Int) ≥ x0)) = true then
    (some ((.tuple [(.int .i64 0), (.int .i64 4)]), h, (nx + 16)))
    else
    (F27_J3' J J call Y lf n0 x0 x1a x1n x1c x6 x7 x19 n3 x17a x17n x17c x18 x19 h (nx + 14))))
    else none)
    else
    (some ((.tuple [(.int .i64 x6), (.int .i64 0)]), h, (nx + 4))) := by kernel_rfl

theorem F27_L2_eq (call : YldF → CallF) (Y : YldF) (lf : Nat) (n0 : Nat) (x0 : Int) (x1a : Option (Nat × Nat)) (x1n : Nat) (x1c : Bool) (x6 : Int) (x7 : Int) (x17a : Option (Nat × Nat)) (x17n : Nat) (x17c : Bool) (x18 : Int) (x19 : Int) (h : AHeap) (nx : Nat) : F27_L2 call Y lf (n0 + 1) x0 x1a x1n x1c x6 x7 x17a x17n x17c x18 x19 h nx =
    if (decide ((x19 : Int) < x18)) = true then
    ((x17a).bind fun p1 =>
    if 0 ≤ (x19 : Int) ∧ x19 < ((x17n : Nat) : Int) then
    ((ldA h p1.1 (p1.2 + Int.toNat x19 * 1)).bind fun v2 =>
    (asI .i64 v2).bind fun n3 =>
    if (decide ((n3 : Int) ≤ x7)) = true then
    (some ((.tuple [(.int .i64 0), (.int .i64 4)]), h, (nx + 16)))
    else
    (if (decide ((n3 : Int) ≥ x0)) = true then
    (some ((.tuple [(.int .i64 0), (.int .i64 4)]), h, (nx + 16)))
    else
    (F27_J3 call Y lf n0 x0 x1a x1n x1c x6 x7 x19 n3 x17a x17n x17c x18 x19 h (nx + 14))))
    else none)
    else
    (some ((.tuple [(.int .i64 x6), (.int .i64 0)]), h, (nx + 4))) := F27_L2_eq' go1 call Y lf n0 x0 x1a x1n x1c x6 x7 x17a x17n x17c x18 x19 h nx

theorem F27_L2_zero (call : YldF → CallF) (Y : YldF) (lf : Nat) (x0 : Int) (x1a : Option (Nat × Nat)) (x1n : Nat) (x1c : Bool) (x6 : Int) (x7 : Int) (x17a : Option (Nat × Nat)) (x17n : Nat) (x17c : Bool) (x18 : Int) (x19 : Int) (h : AHeap) (nx : Nat) : F27_L2 call Y lf 0 x0 x1a x1n x1c x6 x7 x17a x17n x17c x18 x19 h nx = none := by kernel_rfl

theorem F27_J3_eq' (J : StepF (AV × AHeap × Nat) → StepF (AV × AHeap × Nat)) (call : YldF → CallF) (Y : YldF) (lf : Nat) (n0 : Nat) (x0 : Int) (x1a : Option (Nat × Nat)) (x1n : Nat) (x1c : Bool) (x6 : Int) (x7 : Int) (x8 : Int) (x9 : Int) (x17a : Option (Nat × Nat)) (x17n : Nat) (x17c : Bool) (x18 : Int) (x19 : Int) (h : AHeap) (nx : Nat) : F27_J3' go1 J call Y lf n0 x0 x1a x1n x1c x6 x7 x8 x9 x17a x17n x17c x18 x19 h nx =
    F27_L4' J J call Y lf n0 lf x0 x1a x1n x1c x6 x8 x9 (wrapA .i64 (x7 + 1)) x17a x17n x17c x18 x19 h (nx + 3) := by kernel_rfl

theorem F27_J3_eq (call : YldF → CallF) (Y : YldF) (lf : Nat) (n0 : Nat) (x0 : Int) (x1a : Option (Nat × Nat)) (x1n : Nat) (x1c : Bool) (x6 : Int) (x7 : Int) (x8 : Int) (x9 : Int) (x17a : Option (Nat × Nat)) (x17n : Nat) (x17c : Bool) (x18 : Int) (x19 : Int) (h : AHeap) (nx : Nat) : F27_J3 call Y lf n0 x0 x1a x1n x1c x6 x7 x8 x9 x17a x17n x17c x18 x19 h nx =
    F27_L4 call Y lf n0 lf x0 x1a x1n x1c x6 x8 x9 (wrapA .i64 (x7 + 1)) x17a x17n x17c x18 x19 h (nx + 3) := F27_J3_eq' go1 call Y lf n0 x0 x1a x1n x1c x6 x7 x8 x9 x17a x17n x17c x18 x19 h nx

theorem F27_L4_eq' (J : StepF (AV × AHeap × Nat) → StepF (AV × AHeap × Nat)) (call : YldF → CallF) (Y : YldF) (lf : Nat) (n0 : Nat) (n1 : Nat) (x0 : Int) (x1a : Option (Nat × Nat)) (x1n : Nat) (x1c : Bool) (x6 : Int) (x8 : Int) (x9 : Int) (x10 : Int) (x17a : Option (Nat × Nat)) (x17n : Nat) (x17c : Bool) (x18 : Int) (x19 : Int) (h : AHeap) (nx : Nat) : F27_L4' go1 J call Y lf n0 (n1 + 1) x0 x1a x1n x1c x6 x8 x9 x10 x17a x17n x17c x18 x19 h nx =
    if (decide ((x10 : Int) < x9)) = true then
    (if (decide (((wrapA .i64 ((wrapA .i64 (((x1n : Nat) : Int) - x8)) - 1)) : Int) ≤ (wrapA .i64 ((wrapA .i64 (x0 - x10)) - 1)))) = true then
    (F27_J5' J J call Y lf n0 n1 x0 x1a x1n x1c x6 x8 x9 x10 x17a x17n x17c x18 x19 h (nx + 15))
    else
    (F27_L2' J J call Y lf n0 x0 x1a x1n x1c x6 x9 x17a x17n x17c x18 (wrapA .i64 (x19 + 1)) h (nx + 19)))
    else
    (F27_L2' J J call Y lf n0 x0 x1a x1n x1c x6 x9 x17a x17n x17c x18 (wrapA .i64 (x19 + 1)) h (nx + 19)) := by kernel_rfl

theorem F27_L4_eq (call : YldF → CallF) (Y : YldF) (lf : Nat) (n0 : Nat) (n1 : Nat) (x0 : Int) (x1a : Option (Nat × Nat)) (x1n : Nat) (x1c : Bool) (x6 : Int) (x8 : Int) (x9 : Int) (x10 : Int) (x17a : Option (Nat × Nat)) (x17n : Nat) (x17c : Bool) (x18 : Int) (x19 : Int) (h : AHeap) (nx : Nat) : F27_L4 call Y lf n0 (n1 + 1) x0 x1a x1n x1c x6 x8 x9 x10 x17a x17n x17c x18 x19 h nx =
    if (decide ((x10 : Int) < x9)) = true then
    (if (decide (((wrapA .i64 ((wrapA .i64 (((x1n : Nat) : Int) - x8)) - 1)) : Int) ≤ (wrapA .i64 ((wrapA .i64 (x0 - x10)) - 1)))) = true then
    (F27_J5 call Y lf n0 n1 x0 x1a x1n x1c x6 x8 x9 x10 x17a x17n x17c x18 x19 h (nx + 15))
    else
    (F27_L2 call Y lf n0 x0 x1a x1n x1c x6 x9 x17a x17n x17c x18 (wrapA .i64 (x19 + 1)) h (nx + 19)))
    else
    (F27_L2 call Y lf n0 x0 x1a x1n x1c x6 x9 x17a x17n x17c x18 (wrapA .i64 (x19 + 1)) h (nx + 19)) := F27_L4_eq' go1 call Y lf n0 n1 x0 x1a x1n x1c x6 x8 x9 x10 x17a x17n x17c x18 x19 h nx

theorem F27_L4_zero (call : YldF → CallF) (Y : YldF) (lf : Nat) (n0 : Nat) (x0 : Int) (x1a : Option (Nat × Nat)) (x1n : Nat) (x1c : Bool) (x6 : Int) (x8 : Int) (x9 : Int) (x10 : Int) (x17a : Option (Nat × Nat)) (x17n : Nat) (x17c : Bool) (x18 : Int) (x19 : Int) (h : AHeap) (nx : Nat) : F27_L4 call Y lf n0 0 x0 x1a x1n x1c x6 x8 x9 x10 x17a x17n x17c x18 x19 h nx = none := by kernel_rfl

theorem F27_J5_eq' (J : StepF (AV × AHeap × Nat) → StepF (AV × AHeap × Nat)) (call : YldF → CallF) (Y : YldF) (lf : Nat) (n0 : Nat) (n1 : Nat) (x0 : Int) (x1a : Option (Nat × Nat)) (x1n : Nat) (x1c : Bool) (x6 : Int) (x8 : Int) (x9 : Int) (x10 : Int) (x17a : Option (Nat × Nat)) (x17n : Nat) (x17c : Bool) (x18 : Int) (x19 : Int) (h : AHeap) (nx : Nat) : F27_J5' go1 J call Y lf n0 n1 x0 x1a x1n x1c x6 x8 x9 x10 x17a x17n x17c x18 x19 h nx =
    (call Y 37 [(.int .i64 (wrapA .i64 ((wrapA .i64 (x0 - x10)) - 1))), (.int .i64 (wrapA .i64 ((wrapA .i64 (((x1n : Nat) : Int) - x8)) - 1)))] h (nx + 13)).bind fun r1 =>
    (asI .i64 r1.1).bind fun n2 =>
    F27_L4' J J call Y lf n0 n1 x0 x1a x1n x1c (wrapA .i64 (x6 + n2)) x8 x9 (wrapA .i64 (x10 + 1)) x17a x17n x17c x18 x19 r1.2.1 (r1.2.2 + 3) := by kernel_rfl

theorem F27_J5_eq (call : YldF → CallF) (Y : YldF) (lf : Nat) (n0 : Nat) (n1 : Nat) (x0 : Int) (x1a : Option (Nat × Nat)) (x1n : Nat) (x1c : Bool) (x6 : Int) (x8 : Int) (x9 : Int) (x10 : Int) (x17a : Option (Nat × Nat)) (x17n : Nat) (x17c : Bool) (x18 : Int) (x19 : Int) (h : AHeap) (nx : Nat) : F27_J5 call Y lf n0 n1 x0 x1a x1n x1c x6 x8 x9 x10 x17a x17n x17c x18 x19 h nx =
    (call Y 37 [(.int .i64 (wrapA .i64 ((wrapA .i64 (x0 - x10)) - 1))), (.int .i64 (wrapA .i64 ((wrapA .i64 (((x1n : Nat) : Int) - x8)) - 1)))] h (nx + 13)).bind fun r1 =>
    (asI .i64 r1.1).bind fun n2 =>
    F27_L4 call Y lf n0 n1 x0 x1a x1n x1c (wrapA .i64 (x6 + n2)) x8 x9 (wrapA .i64 (x10 + 1)) x17a x17n x17c x18 x19 r1.2.1 (r1.2.2 + 3) := F27_J5_eq' go1 call Y lf n0 n1 x0 x1a x1n x1c x6 x8 x9 x10 x17a x17n x17c x18 x19 h nx

theorem F27_eq' (J : StepF (AV × AHeap × Nat) → StepF (AV × AHeap × Nat)) (n : Nat) (Y : YldF) (x0 : Int) (x1a : Option (Nat × Nat)) (x1n : Nat) (x1c : Bool) (h : AHeap) (nx : Nat) : rootJ J Try.prog keepT (callP Try.prog keepT n) Y n 27 [(.int .i64 x0), (.slice x1a x1n x1c)] h nx =
    if (decide ((x0 : Int) < 0)) = true then
    (some ((.tuple [(.int .i64 0), (.int .i64 2)]), h, (nx + 10)))
    else
    (if (decide ((x0 : Int) > 12)) = true then
    (some ((.tuple [(.int .i64 0), (.int .i64 2)]), h, (nx + 10)))
    else
    (F27_J1' J J (callP Try.prog keepT n) Y n x0 x1a x1n x1c h (nx + 8))) := by kernel_rfl

/-- quickset/comb.Number -/
theorem F27_eq (n : Nat) (Y : YldF) (x0 : Int) (x1a : Option (Nat × Nat)) (x1n : Nat) (x1c : Bool) (h : AHeap) (nx : Nat) : callP Try.prog keepT (n + 1) Y 27 [(.int .i64 x0), (.slice x1a x1n x1c)] h nx =
    if (decide ((x0 : Int) < 0)) = true then
    (some ((.tuple [(.int .i64 0), (.int .i64 2)]), h, (nx + 10)))
    else
    (if (decide ((x0 : Int) > 12)) = true then
    (some ((.tuple [(.int .i64 0), (.int .i64 2)]), h, (nx + 10)))
    else
    (F27_J1 (callP Try.prog keepT n) Y n x0 x1a x1n x1c h (nx + 8))) := F27_eq' go1 n Y x0 x1a x1n x1c h nx

noncomputable def c28 : Code := (Try.f28.body).getD .skip

noncomputable def r28 : List ResultVar := Try.f28.results.toList

noncomputable def F28_J1' (W J : StepF (AV × AHeap × Nat) → StepF (AV × AHeap × Nat)) (call : YldF → CallF) (Y : YldF) (lf : Nat) (x0 : Int) (x1 : Int) (x2 : Int) (h : AHeap) (nx : Nat) : Option (AV × AHeap × Nat) :=
  goK W J drawK (machOf Try.prog) call Y (keepT 28) lf c28 [1, 1] [] (retK (machOf Try.prog) ⟨c28, 53, r28, keepT 28⟩) ⟨53, mkL [(0, (.int .i64 x0)), (1, (.int .i64 x1)), (2, (.int .i64 x2))]⟩ h nx

noncomputable def F28_J1 (call : YldF → CallF) (Y : YldF) (lf : Nat) (x0 : Int) (x1 : Int) (x2 : Int) (h : AHeap) (nx : Nat) : Option (AV × AHeap × Nat) := F28_J1' go1 go1 call Y lf x0 x1 x2 h nx

noncomputable def F28_L2' (W J : StepF (AV × AHeap × Nat) → StepF (AV × AHeap × Nat)) (call : YldF → CallF) (Y : YldF) (lf : Nat) (n0 : Nat) (x0 : Int) (x1 : Int) (x2 : Int) (x8a : Option (Nat × Nat)) (x8n : Nat) (x8c : Bool) (x9 : Int) (h : AHeap) (nx : Nat) : Option (AV × AHeap × Nat) :=
  goK W J drawK (machOf Try.prog) call Y (keepT 28) lf c28 [1, 1, 1, 0, 1, 0, 9] [n0] (retK (machOf Try.prog) ⟨c28, 53, r28, keepT 28⟩) ⟨53, mkL [(0, (.int .i64 x0)), (1, (.int .i64 x1)), (2, (.int .i64 x2)), (8, (.slice x8a x8n x8c)), (9, (.int .i64 x9))]⟩ h nx

noncomputable def F28_L2 (call : YldF → CallF) (Y : YldF) (lf : Nat) (n0 : Nat) (x0 : Int) (x1 : Int) (x2 : Int) (x8a : Option (Nat × Nat)) (x8n : Nat) (x8c : Bool) (x9 : Int) (h : AHeap) (nx : Nat) : Option (AV × AHeap × Nat) := F28_L2' go1 go1 call Y lf n0 x0 x1 x2 x8a x8n x8c x9 h nx

theorem F28_J1_eq' (J : StepF (AV × AHeap × Nat) → StepF (AV × AHeap × Nat)) (call : YldF → CallF) (Y : YldF) (lf : Nat) (x0 : Int) (x1 : Int) (x2 : Int) (h : AHeap) (nx : Nat) : F28_J1' go1 J call Y lf x0 x1 x2 h nx =
    F28_L2' J J call Y lf lf x0 x1 x2 none 0 false 0 h (nx + 2) := by kernel_rfl

theorem F28_J1_eq (call : YldF → CallF) (Y : YldF) (lf : Nat) (x0 : Int) (x1 : Int) (x2 : Int) (h : AHeap) (nx : Nat) : F28_J1 call Y lf x0 x1 x2 h nx =
    F28_L2 call Y lf lf x0 x1 x2 none 0 false 0 h (nx + 2) := F28_J1_eq' go1 call Y lf x0 x1 x2 h nx

theorem F28_L2_eq' (J : StepF (AV × AHeap × Nat) → StepF (AV × AHeap × Nat)) (call : YldF → CallF) (Y : YldF) (lf : Nat) (n0 : Nat) (x0 : Int) (x1 : Int) (x2 : Int) (x8a : Option (Nat × Nat)) (x8n : Nat) (x8c : Bool) (x9 : Int) (h : AHeap) (nx : Nat) : F28_L2' go1 J call Y lf (n0 + 1) x0 x1 x2 x8a x8n x8c x9 h nx =
    if (decide ((((x8n : Nat) : Int) : Int) < x1)) = true then
    ((call Y 37 [(.int .i64 (wrapA .i64 ((wrapA .i64 (x0 - x9)) - 1))), (.int .i64 (wrapA .i64 ((wrapA .i64 (x1 - ((x8n : Nat) : Int))) - 1)))] h (nx + 15)).bind fun r1 =>
    (asI .i64 r1.1).bind fun n2 =>
    if (decide ((x2 : Int) ≥ n2)) = true then
    (F28_L2' J J call Y lf n0 x0 x1 (wrapA .i64 (x2 - n2)) x8a x8n x8c (wrapA .i64 (x9 + 1)) r1.2.1 (r1.2.2 + 10))
    else
    (let h3 := AHeap.put r1.2.1 (r1.2.2 + 5) (some ⟨[(.int .i64 x9)], 1, true⟩)
    (srcS h3 (some ((r1.2.2 + 5), 0)) 1 1).bind fun q4 =>
    (appD h3 x8a x8n x8c 1 8 (r1.2.2 + 6) q4).bind fun e5 =>
    let h6 := AHeap.puts h3 e5.sets
    F28_L2' J J call Y lf n0 x0 x1 x2 e5.a e5.n e5.c (wrapA .i64 (x9 + 1)) h6 (r1.2.2 + 11)))
    else
    (some ((.tuple [(.slice x8a x8n x8c), (.int .i64 0)]), h, (nx + 7))) := by kernel_rfl

theorem F28_L2_eq (call : YldF → CallF) (Y : YldF) (lf : Nat) (n0 : Nat) (x0 : Int) (x1 : Int) (x2 : Int) (x8a : Option (Nat × Nat)) (x8n : Nat) (x8c : Bool) (x9 : Int) (h : AHeap) (nx : Nat) : F28_L2 call Y lf (n0 + 1) x0 x1 x2 x8a x8n x8c x9 h nx =
    if (decide ((((x8n : Nat) : Int) : Int) < x1)) = true then
    ((call Y 37 [(.int .i64 (wrapA .i64 ((wrapA .i64 (x0 - x9)) - 1))), (.int .i64 (wrapA .i64 ((wrapA .i64 (x1 - ((x8n : Nat) : Int))) - 1)))] h (nx + 15)).bind fun r1 =>
    (asI .i64 r1.1).bind fun n2 =>
    if (decide ((x2 : Int) ≥ n2)) = true then
    (F28_L2 call Y lf n0 x0 x1 (wrapA .i64 (x2 - n2)) x8a x8n x8c (wrapA .i64 (x9 + 1)) r1.2.1 (r1.2.2 + 10))
    else
    (let h3 := AHeap.put r1.2.1 (r1.2.2 + 5) (some ⟨[(.int .i64 x9)], 1, true⟩)
    (srcS h3 (some ((r1.2.2 + 5), 0)) 1 1).bind fun q4 =>
    (appD h3 x8a x8n x8c 1 8 (r1.2.2 + 6) q4).bind fun e5 =>
    let h6 := AHeap.puts h3 e5.sets
    F28_L2 call Y lf n0 x0 x1 x2 e5.a e5.n e5.c (wrapA .i64 (x9 + 1)) h6 (r1.2.2 + 11)))
    else
    (some ((.tuple [(.slice x8a x8n x8c), (.int .i64 0)]), h, (nx + 7))) := F28_L2_eq' go1 call Y lf n0 x0 x1 x2 x8a x8n x8c x9 h nx

theorem F28_L2_zero (call : YldF → CallF) (Y : YldF) (lf : Nat) (x0 : Int) (x1 : Int) (x2 : Int) (x8a : Option (Nat × Nat)) (x8n : Nat) (x8c : Bool) (x9 : Int) (h : AHeap) (nx : Nat) : F28_L2 call Y lf 0 x0 x1 x2 x8a x8n x8c x9 h nx = none := by kernel_rfl

theorem F28_eq' (J : StepF (AV × AHeap × Nat) → StepF (AV × AHeap × Nat)) (n : Nat) (Y : YldF) (x0 : Int) (x1 : Int) (x2 : Int) (h : AHeap) (nx : Nat) : rootJ J Try.prog keepT (callP Try.prog keepT n) Y n 28 [(.int .i64 x0), (.int .i64 x1), (.int .i64 x2)] h nx =
    ((callP Try.prog keepT n) Y 36 [(.int .i64 x0), (.int .i64 x1)] h (nx + 17)).bind fun r1 =>
    (asB r1.1).bind fun t2 =>
    if (!t2) = true then
    (some ((.tuple [(.slice none 0 false), (.int .i64 2)]), r1.2.1, (r1.2.2 + 2)))
    else
    (if (decide ((x2 : Int) < 0)) = true then
    (some ((.tuple [(.slice none 0 false), (.int .i64 2)]), r1.2.1, (r1.2.2 + 2)))
    else
    (((callP Try.prog keepT n) Y 37 [(.int .i64 x0), (.int .i64 x1)] r1.2.1 r1.2.2).bind fun r3 =>
    (asI .i64 r3.1).bind fun n4 =>
    if (decide ((x2 : Int) ≥ n4)) = true then
    (some ((.tuple [(.slice none 0 false), (.int .i64 2)]), r3.2.1, (r3.2.2 + 2)))
    else
    (F28_J1' J J (callP Try.prog keepT n) Y n x0 x1 x2 r3.2.1 r3.2.2))) := by kernel_rfl

/-- quickset/comb.At -/
theorem F28_eq (n : Nat) (Y : YldF) (x0 : Int) (x1 : Int) (x2 : Int) (h : AHeap) (nx : Nat) : callP Try.prog keepT (n + 1) Y 28 [(.int .i64 x0), (.int .i64 x1), (.int .i64 x2)] h nx =
    ((callP Try.prog keepT n) Y 36 [(.int .i64 x0), (.int .i64 x1)] h (nx + 17)).bind fun r1 =>
    (asB r1.1).bind fun t2 =>
    if (!t2) = true then
    (some ((.tuple [(.slice none 0 false), (.int .i64 2)]), r1.2.1, (r1.2.2 + 2)))
    else
    (if (decide ((x2 : Int) < 0)) = true then
    (some ((.tuple [(.slice none 0 false), (.int .i64 2)]), r1.2.1, (r1.2.2 + 2)))
    else
    (((callP Try.prog keepT n) Y 37 [(.int .i64 x0), (.int .i64 x1)] r1.2.1 r1.2.2).bind fun r3 =>
    (asI .i64 r3.1).bind fun n4 =>
    if (decide ((x2 : Int) ≥ n4)) = true then
    (some ((.tuple [(.slice none 0 false), (.int .i64 2)]), r3.2.1, (r3.2.2 + 2)))
    else
    (F28_J1 (callP Try.prog keepT n) Y n x0 x1 x2 r3.2.1 r3.2.2))) := F28_eq' go1 n Y x0 x1 x2 h nx

noncomputable def c29 : Code := (Try.f29.body).getD .skip

noncomputable def r29 : List ResultVar := Try.f29.results.toList

noncomputable def F29_L1' (W J : StepF (AV × AHeap × Nat) → StepF (AV × AHeap × Nat)) (call : YldF → CallF) (Y : YldF) (lf : Nat) (n0 : Nat) (x0a : Option (Nat × Nat)) (x0n : Nat) (x0c : Bool) (x1a : Option (Nat × Nat)) (x1n : Nat) (x1c : Bool) (x5 : Int) (h : AHeap) (nx : Nat) : Option (AV × AHeap × Nat) :=
  goK W J drawK (machOf Try.prog) call Y (keepT 29) lf c29 [1, 1, 0, 1, 0, 9] [n0] (retK (machOf Try.prog) ⟨c29, 26, r29, keepT 29⟩) ⟨26, mkL [(0, (.slice x0a x0n x0c)), (1, (.slice x1a x1n x1c)), (5, (.int .i64 x5))]⟩ h nx

noncomputable def F29_L1 (call : YldF → CallF) (Y : YldF) (lf : Nat) (n0 : Nat) (x0a : Option (Nat × Nat)) (x0n : Nat) (x0c : Bool) (x1a : Option (Nat × Nat)) (x1n : Nat) (x1c : Bool) (x5 : Int) (h : AHeap) (nx : Nat) : Option (AV × AHeap × Nat) := F29_L1' go1 go1 call Y lf n0 x0a x0n x0c x1a x1n x1c x5 h nx

theorem F29_L1_eq' (J : StepF (AV × AHeap × Nat) → StepF (AV × AHeap × Nat)) (call : YldF → CallF) (Y : YldF) (lf : Nat) (n0 : Nat) (x0a : Option (Nat × Nat)) (x0n : Nat) (x0c : Bool) (x1a : Option (Nat × Nat)) (x1n : Nat) (x1c : Bool) (x5 : Int) (h : AHeap) (nx : Nat) : F29_L1' go1 J call Y lf (n0 + 1) x0a x0n x0c x1a x1n x1c x5 h nx =
    if (decide ((x5 : Int) < ((x0n : Nat) : Int))) = true then
    ((x0a).bind fun p1 =>
    if 0 ≤ (x5 : Int) ∧ x5 < ((x0n : Nat) : Int) then
    ((ldA h p1.1 (p1.2 + Int.toNat x5 * 1)).bind fun v2 =>
    (asI .i64 v2).bind fun n3 =>
    (x1a).bind fun p4 =>
    if 0 ≤ (x5 : Int) ∧ x5 < ((x1n : Nat) : Int) then
    ((ldA h p4.1 (p4.2 + Int.toNat x5 * 1)).bind fun v5 =>
    (asI .i64 v5).bind fun n6 =>
    if ((n3 : Int) != n6) = true then
    (some ((.bool false), h, (nx + 14)))
    else
    (F29_L1' J J call Y lf n0 x0a x0n x0c x1a x1n x1c (wrapA .i64 (x5 + 1)) h (nx + 16)))
    else none)
    else none)
    else
    (some ((.bool true), h, (nx + 5))) := by kernel_rfl

theorem F29_L1_eq (call : YldF → CallF) (Y : YldF) (lf : Nat) (n0 : Nat) (x0a : Option (Nat × Nat)) (x0n : Nat) (x0c : Bool) (x1a : Option (Nat × Nat)) (x1n : Nat) (x1c : Bool) (x5 : Int) (h : AHeap) (nx : Nat) : F29_L1 call Y lf (n0 + 1) x0a x0n x0c x1a x1n x1c x5 h nx =
    if (decide ((x5 : Int) < ((x0n : Nat) : Int))) = true then
    ((x0a).bind fun p1 =>
    if 0 ≤ (x5 : Int) ∧ x5 < ((x0n : Nat) : Int) then
    ((ldA h p1.1 (p1.2 + Int.toNat x5 * 1)).bind fun v2 =>
    (asI .i64 v2).bind fun n3 =>
    (x1a).bind fun p4 =>
    if 0 ≤ (x5 : Int) ∧ x5 < ((x1n : Nat) : Int) then
    ((ldA h p4.1 (p4.2 + Int.toNat x5 * 1)).bind fun v5 =>
    (asI .i64 v5).bind fun n6 =>
    if ((n3 : Int) != n6) = true then
    (some ((.bool false), h, (nx + 14)))
    else
    (F29_L1 call Y lf n0 x0a x0n x0c x1a x1n x1c (wrapA .i64 (x5 + 1)) h (nx + 16)))
    else none)
    else none)
    else
    (some ((.bool true), h, (nx + 5))) := F29_L1_eq' go1 call Y lf n0 x0a x0n x0c x1a x1n x1c x5 h nx

theorem F29_L1_zero (call : YldF → CallF) (Y : YldF) (lf : Nat) (x0a : Option (Nat × Nat)) (x0n : Nat) (x0c : Bool) (x1a : Option (Nat × Nat)) (x1n : Nat) (x1c : Bool) (x5 : Int) (h : AHeap) (nx : Nat) : F29_L1 call Y lf 0 x0a x0n x0c x1a x1n x1c x5 h nx = none := by kernel_rfl

theorem F29_eq' (J : StepF (AV × AHeap × Nat) → StepF (AV × AHeap × Nat)) (n : Nat) (Y : YldF) (x0a : Option (Nat × Nat)) (x0n : Nat) (x0c : Bool) (x1a : Option (Nat × Nat)) (x1n : Nat) (x1c : Bool) (h : AHeap) (nx : Nat) : rootJ J Try.prog keepT (callP Try.prog keepT n) Y n 29 [(.slice x0a x0n x0c), (.slice x1a x1n x1c)] h nx =
    if ((((x0n : Nat) : Int) : Int) != ((x1n : Nat) : Int)) = true then
    (some ((.bool false), h, (nx + 7)))
    else
    (F29_L1' J J (callP Try.prog keepT n) Y n n x0a x0n x0c x1a x1n x1c 0 h (nx + 7)) := by kernel_rfl

/-- quickset/quicksetkeep.sameInts -/
theorem F29_eq (n : Nat) (Y : YldF) (x0a : Option (Nat × Nat)) (x0n : Nat) (x0c : Bool) (x1a : Option (Nat × Nat)) (x1n : Nat) (x1c : Bool) (h : AHeap) (nx : Nat) : callP Try.prog keepT (n + 1) Y 29 [(.slice x0a x0n x0c), (.slice x1a x1n x1c)] h nx =
    if ((((x0n : Nat) : Int) : Int) != ((x1n : Nat) : Int)) = true then
    (some ((.bool false), h, (nx + 7)))
    else
    (F29_L1 (callP Try.prog keepT n) Y n n x0a x0n x0c x1a x1n x1c 0 h (nx + 7)) := F29_eq' go1 n Y x0a x0n x0c x1a x1n x1c h nx

noncomputable def c30 : Code := (Try.f30.body).getD .skip

noncomputable def r30 : List ResultVar := Try.f30.results.toList

theorem F30_eq' (J : StepF (AV × AHeap × Nat) → StepF (AV × AHeap × Nat)) (n : Nat) (Y : YldF) (x0 : Int) (x1 : Int) (h : AHeap) (nx : Nat) : rootJ J Try.prog keepT (callP Try.prog keepT n) Y n 30 [(.int .i64 x0), (.int .i64 x1)] h nx =
    ((callP Try.prog keepT n) Y 36 [(.int .i64 x0), (.int .i64 x1)] h (nx + 6)).bind fun r1 =>
    (asB r1.1).bind fun t2 =>
    if (!t2) = true then
    (some ((.tuple [(.slice none 0 false), (.int .i64 2)]), r1.2.1, (r1.2.2 + 2)))
    else
    (((callP Try.prog keepT n) Y 42 [(.int .i64 x0), (.int .i64 x1)] r1.2.1 (r1.2.2 + 6)).bind fun r3 =>
    ((callP Try.prog keepT n) Y 41 [r3.1] r3.2.1 r3.2.2).bind fun r4 =>
    (asSl r4.1).bind fun s5 =>
    some ((.tuple [(.slice s5.1 s5.2.1 s5.2.2), (.int .i64 0)]), r4.2.1, r4.2.2)) := by kernel_rfl

/-- quickset/comb.All -/
theorem F30_eq (n : Nat) (Y : YldF) (x0 : Int) (x1 : Int) (h : AHeap) (nx : Nat) : callP Try.prog keepT (n + 1) Y 30 [(.int .i64 x0), (.int .i64 x1)] h nx =
    ((callP Try.prog keepT n) Y 36 [(.int .i64 x0), (.int .i64 x1)] h (nx + 6)).bind fun r1 =>
    (asB r1.1).bind fun t2 =>
    if (!t2) = true then
    (some ((.tuple [(.slice none 0 false), (.int .i64 2)]), r1.2.1, (r1.2.2 + 2)))
    else
    (((callP Try.prog keepT n) Y 42 [(.int .i64 x0), (.int .i64 x1)] r1.2.1 (r1.2.2 + 6)).bind fun r3 =>
    ((callP Try.prog keepT n) Y 41 [r3.1] r3.2.1 r3.2.2).bind fun r4 =>
    (asSl r4.1).bind fun s5 =>
    some ((.tuple [(.slice s5.1 s5.2.1 s5.2.2), (.int .i64 0)]), r4.2.1, r4.2.2)) := F30_eq' go1 n Y x0 x1 h nx

noncomputable def c31 : Code := (Try.f31.body).getD .skip

noncomputable def r31 : List ResultVar := Try.f31.results.toList

noncomputable def F31_L1' (W J : StepF (AV × AHeap × Nat) → StepF (AV × AHeap × Nat)) (call : YldF → CallF) (Y : YldF) (lf : Nat) (n0 : Nat) (x0a : Option (Nat × Nat)) (x0n : Nat) (x0c : Bool) (x1a : Option (Nat × Nat)) (x1n : Nat) (x1c : Bool) (x5 : Int) (h : AHeap) (nx : Nat) : Option (AV × AHeap × Nat) :=
  goK W J drawK (machOf Try.prog) call Y (keepT 31) lf c31 [1, 0, 1, 0, 9] [n0] (retK (machOf Try.prog) ⟨c31, 36, r31, keepT 31⟩) ⟨36, mkL [(0, (.slice x0a x0n x0c)), (1, (.slice x1a x1n x1c)), (5, (.int .i64 x5))]⟩ h nx

noncomputable def F31_L1 (call : YldF → CallF) (Y : YldF) (lf : Nat) (n0 : Nat) (x0a : Option (Nat × Nat)) (x0n : Nat) (x0c : Bool) (x1a : Option (Nat × Nat)) (x1n : Nat) (x1c : Bool) (x5 : Int) (h : AHeap) (nx : Nat) : Option (AV × AHeap × Nat) := F31_L1' go1 go1 call Y lf n0 x0a x0n x0c x1a x1n x1c x5 h nx

noncomputable def F31_J2' (W J : StepF (AV × AHeap × Nat) → StepF (AV × AHeap × Nat)) (call : YldF → CallF) (Y : YldF) (lf : Nat) (n0 : Nat) (x0a : Option (Nat × Nat)) (x0n : Nat) (x0c : Bool) (x1a : Option (Nat × Nat)) (x1n : Nat) (x1c : Bool) (x5 : Int) (h : AHeap) (nx : Nat) : Option (AV × AHeap × Nat) :=
  goK W J drawK (machOf Try.prog) call Y (keepT 31) lf c31 [1, 0, 1, 0, 0, 1] [n0] (retK (machOf Try.prog) ⟨c31, 36, r31, keepT 31⟩) ⟨36, mkL [(0, (.slice x0a x0n x0c)), (1, (.slice x1a x1n x1c)), (5, (.int .i64 x5))]⟩ h nx

noncomputable def F31_J2 (call : YldF → CallF) (Y : YldF) (lf : Nat) (n0 : Nat) (x0a : Option (Nat × Nat)) (x0n : Nat) (x0c : Bool) (x1a : Option (Nat × Nat)) (x1n : Nat) (x1c : Bool) (x5 : Int) (h : AHeap) (nx : Nat) : Option (AV × AHeap × Nat) := F31_J2' go1 go1 call Y lf n0 x0a x0n x0c x1a x1n x1c x5 h nx

theorem F31_L1_eq' (J : StepF (AV × AHeap × Nat) → StepF (AV × AHeap × Nat)) (call : YldF → CallF) (Y : YldF) (lf : Nat) (n0 : Nat) (x0a : Option (Nat × Nat)) (x0n : Nat) (x0c : Bool) (x1a : Option (Nat × Nat)) (x1n : Nat) (x1c : Bool) (x5 : Int) (h : AHeap) (nx : Nat) : F31_L1' go1 J call Y lf (n0 + 1) x0a x0n x0c x1a x1n x1c x5 h nx =
    if (decide ((x5 : Int) < ((x0n : Nat) : Int))) = true then
    (if (decide ((x5 : Int) < ((x1n : Nat) : Int))) = true then
    (F31_J2' J J call Y lf n0 x0a x0n x0c x1a x1n x1c x5 h (nx + 10))
    else
    (some ((.bool false), h, (nx + 11))))
    else
    (some ((.bool false), h, (nx + 11))) := by kernel_rfl

theorem F31_L1_eq (call : YldF → CallF) (Y : YldF) (lf : Nat) (n0 : Nat) (x0a : Option (Nat × Nat)) (x0n : Nat) (x0c : Bool) (x1a : Option (Nat × Nat)) (x1n : Nat) (x1c : Bool) (x5 : Int) (h : AHeap) (nx : Nat) : F31_L1 call Y lf (n0 + 1) x0a x0n x0c x1a x1n x1c x5 h nx =
    if (decide ((x5 : Int) < ((x0n : Nat) : Int))) = true then
    (if (decide ((x5 : Int) < ((x1n : Nat) : Int))) = true then
    (F31_J2 call Y lf n0 x0a x0n x0c x1a x1n x1c x5 h (nx + 10))
    else
    (some ((.bool false), h, (nx + 11))))
    else
    (some ((.bool false), h, (nx + 11))) := F31_L1_eq' go1 call Y lf n0 x0a x0n x0c x1a x1n x1c x5 h nx

theorem F31_L1_zero (call : YldF → CallF) (Y : YldF) (lf : Nat) (x0a : Option (Nat × Nat)) (x0n : Nat) (x0c : Bool) (x1a : Option (Nat × Nat)) (x1n : Nat) (x1c : Bool) (x5 : Int) (h : AHeap) (nx : Nat) : F31_L1 call Y lf 0 x0a x0n x0c x1a x1n x1c x5 h nx = none := by kernel_rfl

theorem F31_J2_eq' (J : StepF (AV × AHeap × Nat) → StepF (AV × AHeap × Nat)) (call : YldF → CallF) (Y : YldF) (lf : Nat) (n0 : Nat) (x0a : Option (Nat × Nat)) (x0n : Nat) (x0c : Bool) (x1a : Option (Nat × Nat)) (x1n : Nat) (x1c : Bool) (x5 : Int) (h : AHeap) (nx : Nat) : F31_J2' go1 J call Y lf n0 x0a x0n x0c x1a x1n x1c x5 h nx =
    (x0a).bind fun p1 =>
    if 0 ≤ (x5 : Int) ∧ x5 < ((x0n : Nat) : Int) then
    ((ldA h p1.1 (p1.2 + Int.toNat x5 * 1)).bind fun v2 =>
    (asI .i64 v2).bind fun n3 =>
    (x1a).bind fun p4 =>
    if 0 ≤ (x5 : Int) ∧ x5 < ((x1n : Nat) : Int) then
    ((ldA h p4.1 (p4.2 + Int.toNat x5 * 1)).bind fun v5 =>
    (asI .i64 v5).bind fun n6 =>
    if ((n3 : Int) != n6) = true then
    ((x0a).bind fun p7 =>
    if 0 ≤ (x5 : Int) ∧ x5 < ((x0n : Nat) : Int) then
    ((ldA h p7.1 (p7.2 + Int.toNat x5 * 1)).bind fun v8 =>
    (asI .i64 v8).bind fun n9 =>
    (x1a).bind fun p10 =>
    if 0 ≤ (x5 : Int) ∧ x5 < ((x1n : Nat) : Int) then
    ((ldA h p10.1 (p10.2 + Int.toNat x5 * 1)).bind fun v11 =>
    (asI .i64 v11).bind fun n12 =>
    some ((.bool (decide ((n9 : Int) < n12))), h, (nx + 19)))
    else none)
    else none)
    else
    (F31_L1' J J call Y lf n0 x0a x0n x0c x1a x1n x1c (wrapA .i64 (x5 + 1)) h (nx + 12)))
    else none)
    else none := by kernel_rfl

theorem F31_J2_eq (call : YldF → CallF) (Y : YldF) (lf : Nat) (n0 : Nat) (x0a : Option (Nat × Nat)) (x0n : Nat) (x0c : Bool) (x1a : Option (Nat × Nat)) (x1n : Nat) (x1c : Bool) (x5 : Int) (h : AHeap) (nx : Nat) : F31_J2 call Y lf n0 x0a x0n x0c x1a x1n x1c x5 h nx =
    (x0a).bind fun p1 =>
    if 0 ≤ (x5 : Int) ∧ x5 < ((x0n : Nat) : Int) then
    ((ldA h p1.1 (p1.2 + Int.toNat x5 * 1)).bind fun v2 =>
    (asI .i64 v2).bind fun n3 =>
    (x1a).bind fun p4 =>
    if 0 ≤ (x5 : Int) ∧ x5 < ((x1n : Nat) : Int) then
    ((ldA h p4.1 (p4.2 + Int.toNat x5 * 1)).bind fun v5 =>
    (asI .i64 v5).bind fun n6 =>
    if ((n3 : Int) != n6) = true then
    ((x0a).bind fun p7 =>
    if 0 ≤ (x5 : Int) ∧ x5 < ((x0n : Nat) : Int) then
    ((ldA h p7.1 (p7.2 + Int.toNat x5 * 1)).bind fun v8 =>
    (asI .i64 v8).bind fun n9 =>
    (x1a).bind fun p10 =>
    if 0 ≤ (x5 : Int) ∧ x5 < ((x1n : Nat) : Int) then
    ((ldA h p10.1 (p10.2 + Int.toNat x5 * 1)).bind fun v11 =>
    (asI .i64 v11).bind fun n12 =>
    some ((.bool (decide ((n9 : Int) < n12))), h, (nx + 19)))
    else none)
    else none)
    else
    (F31_L1 call Y lf n0 x0a x0n x0c x1a x1n x1c (wrapA .i64 (x5 + 1)) h (nx + 12)))
    else none)
    else none := F31_J2_eq' go1 call Y lf n0 x0a x0n x0c x1a x1n x1c x5 h nx

theorem F31_eq' (J : StepF (AV × AHeap × Nat) → StepF (AV × AHeap × Nat)) (n : Nat) (Y : YldF) (x0a : Option (Nat × Nat)) (x0n : Nat) (x0c : Bool) (x1a : Option (Nat × Nat)) (x1n : Nat) (x1c : Bool) (h : AHeap) (nx : Nat) : rootJ J Try.prog keepT (callP Try.prog keepT n) Y n 31 [(.slice x0a x0n x0c), (.slice x1a x1n x1c)] h nx =
    F31_L1' J J (callP Try.prog keepT n) Y n n x0a x0n x0c x1a x1n x1c 0 h (nx + 2) := by kernel_rfl

/-- quickset/quicksetkeep.pickAhead -/
theorem F31_eq (n : Nat) (Y : YldF) (x0a : Option (Nat × Nat)) (x0n : Nat) (x0c : Bool) (x1a : Option (Nat × Nat)) (x1n : Nat) (x1c : Bool) (h : AHeap) (nx : Nat) : callP Try.prog keepT (n + 1) Y 31 [(.slice x0a x0n x0c), (.slice x1a x1n x1c)] h nx =
    F31_L1 (callP Try.prog keepT n) Y n n x0a x0n x0c x1a x1n x1c 0 h (nx + 2) := F31_eq' go1 n Y x0a x0n x0c x1a x1n x1c h nx

noncomputable def c32 : Code := (Try.f32.body).getD .skip

noncomputable def r32 : List ResultVar := Try.f32.results.toList

theorem F32_eq' (J : StepF (AV × AHeap × Nat) → StepF (AV × AHeap × Nat)) (n : Nat) (Y : YldF) (x0 : Int) (h : AHeap) (nx : Nat) : rootJ J Try.prog keepT (callP Try.prog keepT n) Y n 32 [(.int .i64 x0)] h nx =
    if (decide ((x0 : Int) ≥ 0)) = true then
    (some ((.bool (decide ((x0 : Int) ≤ 65536))), h, (nx + 8)))
    else
    (some ((.bool false), h, (nx + 8))) := by kernel_rfl

/-- quickset/geom.addressed -/
theorem F32_eq (n : Nat) (Y : YldF) (x0 : Int) (h : AHeap) (nx : Nat) : callP Try.prog keepT (n + 1) Y 32 [(.int .i64 x0)] h nx =
    if (decide ((x0 : Int) ≥ 0)) = true then
    (some ((.bool (decide ((x0 : Int) ≤ 65536))), h, (nx + 8)))
    else
    (some ((.bool false), h, (nx + 8))) := F32_eq' go1 n Y x0 h nx

noncomputable def c33 : Code := (Try.f33.body).getD .skip

noncomputable def r33 : List ResultVar := Try.f33.results.toList

theorem F33_eq' (J : StepF (AV × AHeap × Nat) → StepF (AV × AHeap × Nat)) (n : Nat) (Y : YldF) (x0_0 : Int) (x0_1 : Int) (h : AHeap) (nx : Nat) : rootJ J Try.prog keepT (callP Try.prog keepT n) Y n 33 [(.agg [(.int .i64 x0_0), (.int .i64 x0_1)])] h nx =
    let h1 := AHeap.put h nx (some ⟨[(.int .i64 x0_0), (.int .i64 x0_1)], 2, true⟩)
    (ldA h1 nx 0).bind fun v2 =>
    (asI .i64 v2).bind fun n3 =>
    if (decide ((n3 : Int) ≥ 2)) = true then
    ((ldA h1 nx 0).bind fun v4 =>
    (asI .i64 v4).bind fun n5 =>
    if (decide ((n5 : Int) ≤ 8)) = true then
    ((ldA h1 nx 1).bind fun v6 =>
    (asI .i64 v6).bind fun n7 =>
    if (decide ((n7 : Int) ≥ 1)) = true then
    ((ldA h1 nx 1).bind fun v8 =>
    (asI .i64 v8).bind fun n9 =>
    if (decide ((n9 : Int) ≤ 3)) = true then
    ((ldA h1 nx 1).bind fun v10 =>
    (asI .i64 v10).bind fun n11 =>
    (ldA h1 nx 0).bind fun v12 =>
    (asI .i64 v12).bind fun n13 =>
    some ((.bool (decide ((n11 : Int) < n13))), h1, (nx + 28)))
    else
    (some ((.bool false), h1, (nx + 28))))
    else
    (some ((.bool false), h1, (nx + 28))))
    else
    (some ((.bool false), h1, (nx + 28))))
    else
    (some ((.bool false), h1, (nx + 28))) := by kernel_rfl

/-- (quickset/geom.shape).may -/
theorem F33_eq (n : Nat) (Y : YldF) (x0_0 : Int) (x0_1 : Int) (h : AHeap) (nx : Nat) : callP Try.prog keepT (n + 1) Y 33 [(.agg [(.int .i64 x0_0), (.int .i64 x0_1)])] h nx =
    let h1 := AHeap.put h nx (some ⟨[(.int .i64 x0_0), (.int .i64 x0_1)], 2, true⟩)
    (ldA h1 nx 0).bind fun v2 =>
    (asI .i64 v2).bind fun n3 =>
    if (decide ((n3 : Int) ≥ 2)) = true then
    ((ldA h1 nx 0).bind fun v4 =>
    (asI .i64 v4).bind fun n5 =>
    if (decide ((n5 : Int) ≤ 8)) = true then
    ((ldA h1 nx 1).bind fun v6 =>
    (asI .i64 v6).bind fun n7 =>
    if (decide ((n7 : Int) ≥ 1)) = true then
    ((ldA h1 nx 1).bind fun v8 =>
    (asI .i64 v8).bind fun n9 =>
    if (decide ((n9 : Int) ≤ 3)) = true then
    ((ldA h1 nx 1).bind fun v10 =>
    (asI .i64 v10).bind fun n11 =>
    (ldA h1 nx 0).bind fun v12 =>
    (asI .i64 v12).bind fun n13 =>
    some ((.bool (decide ((n11 : Int) < n13))), h1, (nx + 28)))
    else
    (some ((.bool false), h1, (nx + 28))))
    else
    (some ((.bool false), h1, (nx + 28))))
    else
    (some ((.bool false), h1, (nx + 28))))
    else
    (some ((.bool false), h1, (nx + 28))) := F33_eq' go1 n Y x0_0 x0_1 h nx

noncomputable def c34 : Code := (Try.f34.body).getD .skip

noncomputable def r34 : List ResultVar := Try.f34.results.toList

theorem F34_eq' (J : StepF (AV × AHeap × Nat) → StepF (AV × AHeap × Nat)) (n : Nat) (Y : YldF) (x0 : Int) (h : AHeap) (nx : Nat) : rootJ J Try.prog keepT (callP Try.prog keepT n) Y n 34 [(.int .i64 x0)] h nx =
    if (decide ((x0 : Int) ≥ 1)) = true then
    (some ((.bool (decide ((x0 : Int) ≤ 32))), h, (nx + 8)))
    else
    (some ((.bool false), h, (nx + 8))) := by kernel_rfl

/-- quickset/geom.counted -/
theorem F34_eq (n : Nat) (Y : YldF) (x0 : Int) (h : AHeap) (nx : Nat) : callP Try.prog keepT (n + 1) Y 34 [(.int .i64 x0)] h nx =
    if (decide ((x0 : Int) ≥ 1)) = true then
    (some ((.bool (decide ((x0 : Int) ≤ 32))), h, (nx + 8)))
    else
    (some ((.bool false), h, (nx + 8))) := F34_eq' go1 n Y x0 h nx

noncomputable def c35 : Code := (Try.f35.body).getD .skip

noncomputable def r35 : List ResultVar := Try.f35.results.toList

theorem F35_eq' (J : StepF (AV × AHeap × Nat) → StepF (AV × AHeap × Nat)) (n : Nat) (Y : YldF) (x0 : Int) (x1 : Int) (h : AHeap) (nx : Nat) : rootJ J Try.prog keepT (callP Try.prog keepT n) Y n 35 [(.int .i64 x0), (.int .i64 x1)] h nx =
    if (x1 : Int) = 0 then none else
    (some ((.int .i64 (wrapA .i64 ((wrapA .i64 (Int.tdiv (wrapA .i64 ((wrapA .i64 (x0 + x1)) - 1)) x1)) * x1))), h, (nx + 10))) := by kernel_rfl

/-- quickset/geom.up -/
theorem F35_eq (n : Nat) (Y : YldF) (x0 : Int) (x1 : Int) (h : AHeap) (nx : Nat) : callP Try.prog keepT (n + 1) Y 35 [(.int .i64 x0), (.int .i64 x1)] h nx =
    if (x1 : Int) = 0 then none else
    (some ((.int .i64 (wrapA .i64 ((wrapA .i64 (Int.tdiv (wrapA .i64 ((wrapA .i64 (x0 + x1)) - 1)) x1)) * x1))), h, (nx + 10))) := F35_eq' go1 n Y x0 x1 h nx

noncomputable def c36 : Code := (Try.f36.body).getD .skip

noncomputable def r36 : List ResultVar := Try.f36.results.toList

theorem F36_eq' (J : StepF (AV × AHeap × Nat) → StepF (AV × AHeap × Nat)) (n : Nat) (Y : YldF) (x0 : Int) (x1 : Int) (h : AHeap) (nx : Nat) : rootJ J Try.prog keepT (callP Try.prog keepT n) Y n 36 [(.int .i64 x0), (.int .i64 x1)] h nx =
    if (decide ((x0 : Int) ≥ 0)) = true then
    (if (decide ((x0 : Int) ≤ 12)) = true then
    (if (decide ((x1 : Int) ≥ 0)) = true then
    (some ((.bool (decide ((x1 : Int) ≤ x0))), h, (nx + 17)))
    else
    (some ((.bool false), h, (nx + 17))))
    else
    (some ((.bool false), h, (nx + 17))))
    else
    (some ((.bool false), h, (nx + 17))) := by kernel_rfl

/-- quickset/comb.fine -/
theorem F36_eq (n : Nat) (Y : YldF) (x0 : Int) (x1 : Int) (h : AHeap) (nx : Nat) : callP Try.prog keepT (n + 1) Y 36 [(.int .i64 x0), (.int .i64 x1)] h nx =
    if (decide ((x0 : Int) ≥ 0)) = true then
    (if (decide ((x0 : Int) ≤ 12)) = true then
    (if (decide ((x1 : Int) ≥ 0)) = true then
    (some ((.bool (decide ((x1 : Int) ≤ x0))), h, (nx + 17)))
    else
    (some ((.bool false), h, (nx + 17))))
    else
    (some ((.bool false), h, (nx + 17))))
    else
    (some ((.bool false), h, (nx + 17))) := F36_eq' go1 n Y x0 x1 h nx

noncomputable def c37 : Code := (Try.f37.body).getD .skip

noncomputable def r37 : List ResultVar := Try.f37.results.toList

noncomputable def F37_L1' (W J : StepF (AV × AHeap × Nat) → StepF (AV × AHeap × Nat)) (call : YldF → CallF) (Y : YldF) (lf : Nat) (n0 : Nat) (x0 : Int) (x5 : Int) (x7 : Int) (x8 : Int) (h : AHeap) (nx : Nat) : Option (AV × AHeap × Nat) :=
  goK W J drawK (machOf Try.prog) call Y (keepT 37) lf c37 [1, 1, 0, 1, 0, 9] [n0] (retK (machOf Try.prog) ⟨c37, 21, r37, keepT 37⟩) ⟨21, mkL [(0, (.int .i64 x0)), (5, (.int .i64 x5)), (7, (.int .i64 x7)), (8, (.int .i64 x8))]⟩ h nx

noncomputable def F37_L1 (call : YldF → CallF) (Y : YldF) (lf : Nat) (n0 : Nat) (x0 : Int) (x5 : Int) (x7 : Int) (x8 : Int) (h : AHeap) (nx : Nat) : Option (AV × AHeap × Nat) := F37_L1' go1 go1 call Y lf n0 x0 x5 x7 x8 h nx

theorem F37_L1_eq' (J : StepF (AV × AHeap × Nat) → StepF (AV × AHeap × Nat)) (call : YldF → CallF) (Y : YldF) (lf : Nat) (n0 : Nat) (x0 : Int) (x5 : Int) (x7 : Int) (x8 : Int) (h : AHeap) (nx : Nat) : F37_L1' go1 J call Y lf (n0 + 1) x0 x5 x7 x8 h nx =
    if (decide ((x8 : Int) < x7)) = true then
    (if ((wrapA .i64 (x8 + 1)) : Int) = 0 then none else
    (F37_L1' J J call Y lf n0 x0 (wrapA .i64 (Int.tdiv (wrapA .i64 (x5 * (wrapA .i64 (x0 - x8)))) (wrapA .i64 (x8 + 1)))) x7 (wrapA .i64 (x8 + 1)) h (nx + 14)))
    else
    (some ((.int .i64 x5), h, (nx + 3))) := by kernel_rfl

theorem F37_L1_eq (call : YldF → CallF) (Y : YldF) (lf : Nat) (n0 : Nat) (x0 : Int) (x5 : Int) (x7 : Int) (x8 : Int) (h : AHeap) (nx : Nat) : F37_L1 call Y lf (n0 + 1) x0 x5 x7 x8 h nx =
    if (decide ((x8 : Int) < x7)) = true then
    (if ((wrapA .i64 (x8 + 1)) : Int) = 0 then none else
    (F37_L1 call Y lf n0 x0 (wrapA .i64 (Int.tdiv (wrapA .i64 (x5 * (wrapA .i64 (x0 - x8)))) (wrapA .i64 (x8 + 1)))) x7 (wrapA .i64 (x8 + 1)) h (nx + 14)))
    else
    (some ((.int .i64 x5), h, (nx + 3))) := F37_L1_eq' go1 call Y lf n0 x0 x5 x7 x8 h nx

theorem F37_L1_zero (call : YldF → CallF) (Y : YldF) (lf : Nat) (x0 : Int) (x5 : Int) (x7 : Int) (x8 : Int) (h : AHeap) (nx : Nat) : F37_L1 call Y lf 0 x0 x5 x7 x8 h nx = none := by kernel_rfl

theorem F37_eq' (J : StepF (AV × AHeap × Nat) → StepF (AV × AHeap × Nat)) (n : Nat) (Y : YldF) (x0 : Int) (x1 : Int) (h : AHeap) (nx : Nat) : rootJ J Try.prog keepT (callP Try.prog keepT n) Y n 37 [(.int .i64 x0), (.int .i64 x1)] h nx =
    F37_L1' J J (callP Try.prog keepT n) Y n n x0 1 x1 0 h (nx + 4) := by kernel_rfl

/-- quickset/comb.choose -/
theorem F37_eq (n : Nat) (Y : YldF) (x0 : Int) (x1 : Int) (h : AHeap) (nx : Nat) : callP Try.prog keepT (n + 1) Y 37 [(.int .i64 x0), (.int .i64 x1)] h nx =
    F37_L1 (callP Try.prog keepT n) Y n n x0 1 x1 0 h (nx + 4) := F37_eq' go1 n Y x0 x1 h nx

noncomputable def c38 : Code := (Try.f38.body).getD .skip

noncomputable def r38 : List ResultVar := Try.f38.results.toList

theorem F38_eq' (J : StepF (AV × AHeap × Nat) → StepF (AV × AHeap × Nat)) (n : Nat) (Y : YldF) (x0_0 : Int) (x0_1 : Int) (x0_2 : Int) (x0_3 : Int) (h : AHeap) (nx : Nat) : rootJ J Try.prog keepT (callP Try.prog keepT n) Y n 38 [(.agg [(.int .i64 x0_0), (.int .i64 x0_1), (.int .i64 x0_2), (.int .i64 x0_3)])] h nx =
    let h1 := AHeap.put h nx (some ⟨[(.int .i64 x0_0), (.int .i64 x0_1), (.int .i64 x0_2), (.int .i64 x0_3)], 4, true⟩)
    let h2 := AHeap.put h1 (nx + 1) (some ⟨[(.int .i64 0), (.int .i64 0), (.int .i64 0), (.int .i64 0)], 1, true⟩)
    (ldA h2 nx 0).bind fun v3 =>
    (asI .i64 v3).bind fun n4 =>
    (ldA h2 nx 1).bind fun v5 =>
    (asI .i64 v5).bind fun n6 =>
    (ldA h2 nx 2).bind fun v7 =>
    (asI .i64 v7).bind fun n8 =>
    (ldA h2 nx 3).bind fun v9 =>
    (asI .i64 v9).bind fun n10 =>
    (stA h2 (nx + 1) 0 (.agg [(.int .i64 n4), (.int .i64 n6), (.int .i64 n8), (.int .i64 n10)]) 4).bind fun b11 =>
    let h12 := AHeap.put h2 (nx + 1) (some b11)
    (ldR h12 (nx + 1) 0 4).bind fun l13 =>
    some ((.agg l13), h12, (nx + 12)) := by kernel_rfl

/-- quickset/flet.of -/
theorem F38_eq (n : Nat) (Y : YldF) (x0_0 : Int) (x0_1 : Int) (x0_2 : Int) (x0_3 : Int) (h : AHeap) (nx : Nat) : callP Try.prog keepT (n + 1) Y 38 [(.agg [(.int .i64 x0_0), (.int .i64 x0_1), (.int .i64 x0_2), (.int .i64 x0_3)])] h nx =
    let h1 := AHeap.put h nx (some ⟨[(.int .i64 x0_0), (.int .i64 x0_1), (.int .i64 x0_2), (.int .i64 x0_3)], 4, true⟩)
    let h2 := AHeap.put h1 (nx + 1) (some ⟨[(.int .i64 0), (.int .i64 0), (.int .i64 0), (.int .i64 0)], 1, true⟩)
    (ldA h2 nx 0).bind fun v3 =>
    (asI .i64 v3).bind fun n4 =>
    (ldA h2 nx 1).bind fun v5 =>
    (asI .i64 v5).bind fun n6 =>
    (ldA h2 nx 2).bind fun v7 =>
    (asI .i64 v7).bind fun n8 =>
    (ldA h2 nx 3).bind fun v9 =>
    (asI .i64 v9).bind fun n10 =>
    (stA h2 (nx + 1) 0 (.agg [(.int .i64 n4), (.int .i64 n6), (.int .i64 n8), (.int .i64 n10)]) 4).bind fun b11 =>
    let h12 := AHeap.put h2 (nx + 1) (some b11)
    (ldR h12 (nx + 1) 0 4).bind fun l13 =>
    some ((.agg l13), h12, (nx + 12)) := F38_eq' go1 n Y x0_0 x0_1 x0_2 x0_3 h nx

noncomputable def c39 : Code := (Try.f39.body).getD .skip

noncomputable def r39 : List ResultVar := Try.f39.results.toList

noncomputable def F39_L1' (W J : StepF (AV × AHeap × Nat) → StepF (AV × AHeap × Nat)) (call : YldF → CallF) (Y : YldF) (lf : Nat) (n0 : Nat) (x1 : Int) (x2 : Option (Nat × Nat)) (x4 : Option (Nat × Nat)) (x6 : Int) (h : AHeap) (nx : Nat) : Option (AV × AHeap × Nat) :=
  goK W J drawK (machOf Try.prog) call Y (keepT 39) lf c39 [1, 0, 1, 0, 9] [n0] (retK (machOf Try.prog) ⟨c39, 20, r39, keepT 39⟩) ⟨20, mkL [(1, (.int .i64 x1)), (2, (.ptr x2)), (4, (.ptr x4)), (6, (.int .i64 x6))]⟩ h nx

noncomputable def F39_L1 (call : YldF → CallF) (Y : YldF) (lf : Nat) (n0 : Nat) (x1 : Int) (x2 : Option (Nat × Nat)) (x4 : Option (Nat × Nat)) (x6 : Int) (h : AHeap) (nx : Nat) : Option (AV × AHeap × Nat) := F39_L1' go1 go1 call Y lf n0 x1 x2 x4 x6 h nx

theorem F39_L1_eq' (J : StepF (AV × AHeap × Nat) → StepF (AV × AHeap × Nat)) (call : YldF → CallF) (Y : YldF) (lf : Nat) (n0 : Nat) (x1 : Int) (x2 : Option (Nat × Nat)) (x4 : Option (Nat × Nat)) (x6 : Int) (h : AHeap) (nx : Nat) : F39_L1' go1 J call Y lf (n0 + 1) x1 x2 x4 x6 h nx =
    if (decide ((x6 : Int) < 4)) = true then
    ((x2).bind fun p1 =>
    if 0 ≤ (x6 : Int) ∧ x6 < ((4 : Nat) : Int) then
    ((ldA h p1.1 (p1.2 + Int.toNat x6 * 1)).bind fun v2 =>
    (asI .i64 v2).bind fun n3 =>
    (x2).bind fun p4 =>
    if 0 ≤ (x6 : Int) ∧ x6 < ((4 : Nat) : Int) then
    ((stA h p4.1 (p4.2 + Int.toNat x6 * 1) (.int .i64 (wrapA .i64 (n3 + x1))) 1).bind fun b5 =>
    let h6 := AHeap.put h p4.1 (some b5)
    (x2).bind fun p7 =>
    if 0 ≤ (x6 : Int) ∧ x6 < ((4 : Nat) : Int) then
    ((ldA h6 p7.1 (p7.2 + Int.toNat x6 * 1)).bind fun v8 =>
    (asI .i64 v8).bind fun n9 =>
    F39_L1' J J call Y lf n0 n9 x2 x4 (wrapA .i64 (x6 + 1)) h6 (nx + 16))
    else none)
    else none)
    else none)
    else
    ((x2).bind fun p10 =>
    (ldR h p10.1 p10.2 4).bind fun l11 =>
    (x4).bind fun p12 =>
    (stA h p12.1 p12.2 (.agg l11) 4).bind fun b13 =>
    let h14 := AHeap.put h p12.1 (some b13)
    (x4).bind fun p15 =>
    (ldR h14 p15.1 p15.2 4).bind fun l16 =>
    some ((.agg l16), h14, (nx + 3))) := by kernel_rfl

theorem F39_L1_eq (call : YldF → CallF) (Y : YldF) (lf : Nat) (n0 : Nat) (x1 : Int) (x2 : Option (Nat × Nat)) (x4 : Option (Nat × Nat)) (x6 : Int) (h : AHeap) (nx : Nat) : F39_L1 call Y lf (n0 + 1) x1 x2 x4 x6 h nx =
    if (decide ((x6 : Int) < 4)) = true then
    ((x2).bind fun p1 =>
    if 0 ≤ (x6 : Int) ∧ x6 < ((4 : Nat) : Int) then
    ((ldA h p1.1 (p1.2 + Int.toNat x6 * 1)).bind fun v2 =>
    (asI .i64 v2).bind fun n3 =>
    (x2).bind fun p4 =>
    if 0 ≤ (x6 : Int) ∧ x6 < ((4 : Nat) : Int) then
    ((stA h p4.1 (p4.2 + Int.toNat x6 * 1) (.int .i64 (wrapA .i64 (n3 + x1))) 1).bind fun b5 =>
    let h6 := AHeap.put h p4.1 (some b5)
    (x2).bind fun p7 =>
    if 0 ≤ (x6 : Int) ∧ x6 < ((4 : Nat) : Int) then
    ((ldA h6 p7.1 (p7.2 + Int.toNat x6 * 1)).bind fun v8 =>
    (asI .i64 v8).bind fun n9 =>
    F39_L1 call Y lf n0 n9 x2 x4 (wrapA .i64 (x6 + 1)) h6 (nx + 16))
    else none)
    else none)
    else none)
    else
    ((x2).bind fun p10 =>
    (ldR h p10.1 p10.2 4).bind fun l11 =>
    (x4).bind fun p12 =>
    (stA h p12.1 p12.2 (.agg l11) 4).bind fun b13 =>
    let h14 := AHeap.put h p12.1 (some b13)
    (x4).bind fun p15 =>
    (ldR h14 p15.1 p15.2 4).bind fun l16 =>
    some ((.agg l16), h14, (nx + 3))) := F39_L1_eq' go1 call Y lf n0 x1 x2 x4 x6 h nx

theorem F39_L1_zero (call : YldF → CallF) (Y : YldF) (lf : Nat) (x1 : Int) (x2 : Option (Nat × Nat)) (x4 : Option (Nat × Nat)) (x6 : Int) (h : AHeap) (nx : Nat) : F39_L1 call Y lf 0 x1 x2 x4 x6 h nx = none := by kernel_rfl

theorem F39_eq' (J : StepF (AV × AHeap × Nat) → StepF (AV × AHeap × Nat)) (n : Nat) (Y : YldF) (x0 : List AV) (x1 : Int) (h : AHeap) (nx : Nat) : rootJ J Try.prog keepT (callP Try.prog keepT n) Y n 39 [(.agg x0), (.int .i64 x1)] h nx =
    if allOne x0 = true then
    (let h1 := AHeap.put h nx (some ⟨x0, 1, true⟩)
    let h2 := AHeap.put h1 (nx + 1) (some ⟨[(.int .i64 0), (.int .i64 0), (.int .i64 0), (.int .i64 0)], 1, true⟩)
    F39_L1' J J (callP Try.prog keepT n) Y n n x1 (some (nx, 0)) (some ((nx + 1), 0)) 0 h2 (nx + 3))
    else none := by kernel_rfl

/-- (quickset/flet.sums).word -/
theorem F39_eq (n : Nat) (Y : YldF) (x0 : List AV) (x1 : Int) (h : AHeap) (nx : Nat) : callP Try.prog keepT (n + 1) Y 39 [(.agg x0), (.int .i64 x1)] h nx =
    if allOne x0 = true then
    (let h1 := AHeap.put h nx (some ⟨x0, 1, true⟩)
    let h2 := AHeap.put h1 (nx + 1) (some ⟨[(.int .i64 0), (.int .i64 0), (.int .i64 0), (.int .i64 0)], 1, true⟩)
    F39_L1 (callP Try.prog keepT n) Y n n x1 (some (nx, 0)) (some ((nx + 1), 0)) 0 h2 (nx + 3))
    else none := F39_eq' go1 n Y x0 x1 h nx

noncomputable def c40 : Code := (Try.f40.body).getD .skip

noncomputable def r40 : List ResultVar := Try.f40.results.toList

theorem F40_eq' (J : StepF (AV × AHeap × Nat) → StepF (AV × AHeap × Nat)) (n : Nat) (Y : YldF) (x0 : List AV) (h : AHeap) (nx : Nat) : rootJ J Try.prog keepT (callP Try.prog keepT n) Y n 40 [(.agg x0)] h nx =
    if allOne x0 = true then
    (let h1 := AHeap.put h nx (some ⟨x0, 1, true⟩)
    let h2 := AHeap.put h1 (nx + 1) (some ⟨[(.int .i64 0), (.int .i64 0), (.int .i64 0), (.int .i64 0)], 4, true⟩)
    if 0 ≤ (0 : Int) ∧ 0 < ((4 : Nat) : Int) then
    ((ldA h2 nx (0 + Int.toNat 0 * 1)).bind fun v3 =>
    (asI .i64 v3).bind fun n4 =>
    if 0 ≤ (1 : Int) ∧ 1 < ((4 : Nat) : Int) then
    ((ldA h2 nx (0 + Int.toNat 1 * 1)).bind fun v5 =>
    (asI .i64 v5).bind fun n6 =>
    if 0 ≤ (2 : Int) ∧ 2 < ((4 : Nat) : Int) then
    ((ldA h2 nx (0 + Int.toNat 2 * 1)).bind fun v7 =>
    (asI .i64 v7).bind fun n8 =>
    if 0 ≤ (3 : Int) ∧ 3 < ((4 : Nat) : Int) then
    ((ldA h2 nx (0 + Int.toNat 3 * 1)).bind fun v9 =>
    (asI .i64 v9).bind fun n10 =>
    (stA h2 (nx + 1) 0 (.agg [(.int .i64 n4), (.int .i64 n6), (.int .i64 n8), (.int .i64 n10)]) 4).bind fun b11 =>
    let h12 := AHeap.put h2 (nx + 1) (some b11)
    (ldR h12 (nx + 1) 0 4).bind fun l13 =>
    (asAgg 4 (AV.agg l13)).bind fun d14 =>
    (asI .i64 (d14.getD 0 .bad)).bind fun n15 =>
    (asI .i64 (d14.getD 1 .bad)).bind fun n16 =>
    (asI .i64 (d14.getD 2 .bad)).bind fun n17 =>
    (asI .i64 (d14.getD 3 .bad)).bind fun n18 =>
    some ((.agg [(.int .i64 n15), (.int .i64 n16), (.int .i64 n17), (.int .i64 n18)]), h12, (nx + 12)))
    else none)
    else none)
    else none)
    else none)
    else none := by kernel_rfl

/-- (quickset/flet.sums).sum -/
theorem F40_eq (n : Nat) (Y : YldF) (x0 : List AV) (h : AHeap) (nx : Nat) : callP Try.prog keepT (n + 1) Y 40 [(.agg x0)] h nx =
    if allOne x0 = true then
    (let h1 := AHeap.put h nx (some ⟨x0, 1, true⟩)
    let h2 := AHeap.put h1 (nx + 1) (some ⟨[(.int .i64 0), (.int .i64 0), (.int .i64 0), (.int .i64 0)], 4, true⟩)
    if 0 ≤ (0 : Int) ∧ 0 < ((4 : Nat) : Int) then
    ((ldA h2 nx (0 + Int.toNat 0 * 1)).bind fun v3 =>
    (asI .i64 v3).bind fun n4 =>
    if 0 ≤ (1 : Int) ∧ 1 < ((4 : Nat) : Int) then
    ((ldA h2 nx (0 + Int.toNat 1 * 1)).bind fun v5 =>
    (asI .i64 v5).bind fun n6 =>
    if 0 ≤ (2 : Int) ∧ 2 < ((4 : Nat) : Int) then
    ((ldA h2 nx (0 + Int.toNat 2 * 1)).bind fun v7 =>
    (asI .i64 v7).bind fun n8 =>
    if 0 ≤ (3 : Int) ∧ 3 < ((4 : Nat) : Int) then
    ((ldA h2 nx (0 + Int.toNat 3 * 1)).bind fun v9 =>
    (asI .i64 v9).bind fun n10 =>
    (stA h2 (nx + 1) 0 (.agg [(.int .i64 n4), (.int .i64 n6), (.int .i64 n8), (.int .i64 n10)]) 4).bind fun b11 =>
    let h12 := AHeap.put h2 (nx + 1) (some b11)
    (ldR h12 (nx + 1) 0 4).bind fun l13 =>
    (asAgg 4 (AV.agg l13)).bind fun d14 =>
    (asI .i64 (d14.getD 0 .bad)).bind fun n15 =>
    (asI .i64 (d14.getD 1 .bad)).bind fun n16 =>
    (asI .i64 (d14.getD 2 .bad)).bind fun n17 =>
    (asI .i64 (d14.getD 3 .bad)).bind fun n18 =>
    some ((.agg [(.int .i64 n15), (.int .i64 n16), (.int .i64 n17), (.int .i64 n18)]), h12, (nx + 12)))
    else none)
    else none)
    else none)
    else none)
    else none := F40_eq' go1 n Y x0 h nx

noncomputable def c41 : Code := (Try.f41.body).getD .skip

noncomputable def r41 : List ResultVar := Try.f41.results.toList

theorem F41_eq' (J : StepF (AV × AHeap × Nat) → StepF (AV × AHeap × Nat)) (n : Nat) (Y : YldF) (x0 : AV) (h : AHeap) (nx : Nat) : rootJ J Try.prog keepT (callP Try.prog keepT n) Y n 41 [x0] h nx =
    ((callP Try.prog keepT n) Y 43 [(.slice none 0 false), x0] h (nx + 4)).bind fun r1 =>
    (asSl r1.1).bind fun s2 =>
    some ((.slice s2.1 s2.2.1 s2.2.2), r1.2.1, r1.2.2) := by kernel_rfl

/-- slices.Collect[[]int] -/
theorem F41_eq (n : Nat) (Y : YldF) (x0 : AV) (h : AHeap) (nx : Nat) : callP Try.prog keepT (n + 1) Y 41 [x0] h nx =
    ((callP Try.prog keepT n) Y 43 [(.slice none 0 false), x0] h (nx + 4)).bind fun r1 =>
    (asSl r1.1).bind fun s2 =>
    some ((.slice s2.1 s2.2.1 s2.2.2), r1.2.1, r1.2.2) := F41_eq' go1 n Y x0 h nx

noncomputable def c42 : Code := (Try.f42.body).getD .skip

noncomputable def r42 : List ResultVar := Try.f42.results.toList

theorem F42_eq' (J : StepF (AV × AHeap × Nat) → StepF (AV × AHeap × Nat)) (n : Nat) (Y : YldF) (x0 : Int) (x1 : Int) (h : AHeap) (nx : Nat) : rootJ J Try.prog keepT (callP Try.prog keepT n) Y n 42 [(.int .i64 x0), (.int .i64 x1)] h nx =
    let h1 := AHeap.put h nx (some ⟨[(.int .i64 x0)], 1, true⟩)
    let h2 := AHeap.put h1 (nx + 1) (some ⟨[(.int .i64 x1)], 1, true⟩)
    some ((.fn 44 [] [(.ptr (some ((nx + 1), 0))), (.ptr (some (nx, 0)))]), h2, (nx + 5)) := by kernel_rfl

/-- quickset/comb.Each -/
theorem F42_eq (n : Nat) (Y : YldF) (x0 : Int) (x1 : Int) (h : AHeap) (nx : Nat) : callP Try.prog keepT (n + 1) Y 42 [(.int .i64 x0), (.int .i64 x1)] h nx =
    let h1 := AHeap.put h nx (some ⟨[(.int .i64 x0)], 1, true⟩)
    let h2 := AHeap.put h1 (nx + 1) (some ⟨[(.int .i64 x1)], 1, true⟩)
    some ((.fn 44 [] [(.ptr (some ((nx + 1), 0))), (.ptr (some (nx, 0)))]), h2, (nx + 5)) := F42_eq' go1 n Y x0 x1 h nx

noncomputable def c43 : Code := (Try.f43.body).getD .skip

noncomputable def r43 : List ResultVar := Try.f43.results.toList

noncomputable def F43_R1' (W J : StepF (AV × AHeap × Nat) → StepF (AV × AHeap × Nat)) (call : YldF → CallF) (Y : YldF) (lf : Nat) (n0 : Nat) (x2 : Option (Nat × Nat)) (y0a : Option (Nat × Nat)) (y0n : Nat) (y0c : Bool) (h : AHeap) (nx : Nat) : Option (AV × AHeap × Nat) :=
  goK W J drawK (machOf Try.prog) call Y (keepT 43) lf c43 [1, 0, 1, 0, 8] [n0] (retK (machOf Try.prog) ⟨c43, 13, r43, keepT 43⟩) (putPs ⟨13, mkL [(2, (.ptr x2))]⟩ [(.slice y0a y0n y0c)] [7] 0) h nx

noncomputable def F43_R1 (call : YldF → CallF) (Y : YldF) (lf : Nat) (n0 : Nat) (x2 : Option (Nat × Nat)) (y0a : Option (Nat × Nat)) (y0n : Nat) (y0c : Bool) (h : AHeap) (nx : Nat) : Option (AV × AHeap × Nat) := F43_R1' go1 go1 call Y lf n0 x2 y0a y0n y0c h nx

theorem F43_R1_eq' (J : StepF (AV × AHeap × Nat) → StepF (AV × AHeap × Nat)) (call : YldF → CallF) (Y : YldF) (lf : Nat) (n0 : Nat) (x2 : Option (Nat × Nat)) (y0a : Option (Nat × Nat)) (y0n : Nat) (y0c : Bool) (h : AHeap) (nx : Nat) : F43_R1' go1 J call Y lf n0 x2 y0a y0n y0c h nx =
    if isReady h n0 LB = true then
    (let h1 := AHeap.put h n0 (some ⟨[], LB + 1, true⟩)
    (x2).bind fun p2 =>
    (ldA h1 p2.1 p2.2).bind fun v3 =>
    (asSl v3).bind fun s4 =>
    let h5 := AHeap.put h1 (nx + 3) (some ⟨[(.slice y0a y0n y0c)], 1, true⟩)
    (srcS h5 (some ((nx + 3), 0)) 1 1).bind fun q6 =>
    (appD h5 s4.1 s4.2.1 s4.2.2 1 24 (nx + 4) q6).bind fun e7 =>
    let h8 := AHeap.puts h5 e7.sets
    (x2).bind fun p9 =>
    (stA h8 p9.1 p9.2 (.slice e7.a e7.n e7.c) 1).bind fun b10 =>
    let h11 := AHeap.put h8 p9.1 (some b10)
    if isReady h11 n0 (LB + 1) = true then some (.bool true, AHeap.put h11 n0 (some ⟨[], LB, true⟩), (nx + 6)) else none)
    else none := by kernel_rfl

theorem F43_R1_eq (call : YldF → CallF) (Y : YldF) (lf : Nat) (n0 : Nat) (x2 : Option (Nat × Nat)) (y0a : Option (Nat × Nat)) (y0n : Nat) (y0c : Bool) (h : AHeap) (nx : Nat) : F43_R1 call Y lf n0 x2 y0a y0n y0c h nx =
    if isReady h n0 LB = true then
    (let h1 := AHeap.put h n0 (some ⟨[], LB + 1, true⟩)
    (x2).bind fun p2 =>
    (ldA h1 p2.1 p2.2).bind fun v3 =>
    (asSl v3).bind fun s4 =>
    let h5 := AHeap.put h1 (nx + 3) (some ⟨[(.slice y0a y0n y0c)], 1, true⟩)
    (srcS h5 (some ((nx + 3), 0)) 1 1).bind fun q6 =>
    (appD h5 s4.1 s4.2.1 s4.2.2 1 24 (nx + 4) q6).bind fun e7 =>
    let h8 := AHeap.puts h5 e7.sets
    (x2).bind fun p9 =>
    (stA h8 p9.1 p9.2 (.slice e7.a e7.n e7.c) 1).bind fun b10 =>
    let h11 := AHeap.put h8 p9.1 (some b10)
    if isReady h11 n0 (LB + 1) = true then some (.bool true, AHeap.put h11 n0 (some ⟨[], LB, true⟩), (nx + 6)) else none)
    else none := F43_R1_eq' go1 call Y lf n0 x2 y0a y0n y0c h nx

theorem F43_eq' (J : StepF (AV × AHeap × Nat) → StepF (AV × AHeap × Nat)) (n : Nat) (Y : YldF) (x0a : Option (Nat × Nat)) (x0n : Nat) (x0c : Bool) (x1 : AV) (h : AHeap) (nx : Nat) : rootJ J Try.prog keepT (callP Try.prog keepT n) Y n 43 [(.slice x0a x0n x0c), x1] h nx =
    let h1 := AHeap.put h nx (some ⟨[(.slice x0a x0n x0c)], 1, true⟩)
    (asFn x1).bind fun q2 =>
    ((callP Try.prog keepT n) (YX (nx + 3) (fun a3 h4 c5 => if Nat.beq a3.length 1 = true then
    ((asSl (a3.getD 0 .bad)).bind fun s6 =>
    F43_R1' J J (callP Try.prog keepT n) Y n (nx + 3) (some (nx, 0)) s6.1 s6.2.1 s6.2.2 h4 c5)
    else none) Y) q2.1 (q2.2.1 ++ [.yld (nx + 3)] ++ q2.2.2) (AHeap.put h1 (nx + 3) (some ⟨[], LB, true⟩)) (nx + 4)).bind fun r7 =>
    (r7.2.1 (nx + 3)).bind fun b8 =>
    if Nat.beq b8.es LB = true then
    (let h9 := AHeap.put r7.2.1 (nx + 3) none
    (ldA h9 nx 0).bind fun v10 =>
    (asSl v10).bind fun s11 =>
    some ((.slice s11.1 s11.2.1 s11.2.2), h9, (r7.2.2 + 2)))
    else
    (none) := by kernel_rfl

/-- slices.AppendSeq[[][]int,[]int] -/
theorem F43_eq (n : Nat) (Y : YldF) (x0a : Option (Nat × Nat)) (x0n : Nat) (x0c : Bool) (x1 : AV) (h : AHeap) (nx : Nat) : callP Try.prog keepT (n + 1) Y 43 [(.slice x0a x0n x0c), x1] h nx =
    let h1 := AHeap.put h nx (some ⟨[(.slice x0a x0n x0c)], 1, true⟩)
    (asFn x1).bind fun q2 =>
    ((callP Try.prog keepT n) (YX (nx + 3) (fun a3 h4 c5 => if Nat.beq a3.length 1 = true then
    ((asSl (a3.getD 0 .bad)).bind fun s6 =>
    F43_R1 (callP Try.prog keepT n) Y n (nx + 3) (some (nx, 0)) s6.1 s6.2.1 s6.2.2 h4 c5)
    else none) Y) q2.1 (q2.2.1 ++ [.yld (nx + 3)] ++ q2.2.2) (AHeap.put h1 (nx + 3) (some ⟨[], LB, true⟩)) (nx + 4)).bind fun r7 =>
    (r7.2.1 (nx + 3)).bind fun b8 =>
    if Nat.beq b8.es LB = true then
    (let h9 := AHeap.put r7.2.1 (nx + 3) none
    (ldA h9 nx 0).bind fun v10 =>
    (asSl v10).bind fun s11 =>
    some ((.slice s11.1 s11.2.1 s11.2.2), h9, (r7.2.2 + 2)))
    else
    (none) := F43_eq' go1 n Y x0a x0n x0c x1 h nx

noncomputable def c44 : Code := (Try.f44.body).getD .skip

noncomputable def r44 : List ResultVar := Try.f44.results.toList

theorem F44_eq' (J : StepF (AV × AHeap × Nat) → StepF (AV × AHeap × Nat)) (n : Nat) (Y : YldF) (x0 : AV) (x1 : Option (Nat × Nat)) (x2 : Option (Nat × Nat)) (h : AHeap) (nx : Nat) : rootJ J Try.prog keepT (callP Try.prog keepT n) Y n 44 [x0, (.ptr x1), (.ptr x2)] h nx =
    if allOne (AV.cells x0) = true then
    (let h1 := AHeap.put h nx (some ⟨(AV.cells x0), 1, true⟩)
    (x1).bind fun p2 =>
    (ldA h1 p2.1 p2.2).bind fun v3 =>
    (asI .i64 v3).bind fun n4 =>
    if (decide (0 ≤ (0 : Int)) && decide ((0 : Int) ≤ n4) && decide (((8 : Nat) : Int) * n4 ≤ 281474976710656) && decide ((n4 : Int) ≤ 9223372036854775807) && 1 != 0) = true then
    (let h5 := AHeap.put h1 (nx + 2) (some ⟨(madeA [(.int .i64 0)] (Int.toNat 0 * 1)), 1, true⟩)
    let h6 := AHeap.put h5 (nx + 3) (some ⟨[(.slice none 0 false)], 1, true⟩)
    (stA h6 (nx + 3) 0 (.slice (some ((nx + 2), 0)) (Int.toNat 0) (0 == n4)) 1).bind fun b7 =>
    let h8 := AHeap.put h6 (nx + 3) (some b7)
    let h9 := AHeap.put h8 (nx + 5) (some ⟨[.nilFn], 1, true⟩)
    (stA h9 (nx + 5) 0 (.fn 45 [] [(.ptr (some ((nx + 3), 0))), (.ptr x1), (.ptr (some (nx, 0))), (.ptr x2), (.ptr (some ((nx + 5), 0)))]) 1).bind fun b10 =>
    let h11 := AHeap.put h9 (nx + 5) (some b10)
    (ldA h11 (nx + 5) 0).bind fun v12 =>
    (asCal v12).bind fun q14 =>
    (callC ((callP Try.prog keepT n) Y) Y q14.1 (q14.2.1 ++ [(.int .i64 0)] ++ q14.2.2) h11 (nx + 10)).bind fun r13 =>
    (asB r13.1).bind fun t15 =>
    some ((.tuple []), r13.2.1, r13.2.2))
    else none)
    else none := by kernel_rfl

/-- quickset/comb.Each$1 -/
theorem F44_eq (n : Nat) (Y : YldF) (x0 : AV) (x1 : Option (Nat × Nat)) (x2 : Option (Nat × Nat)) (h : AHeap) (nx : Nat) : callP Try.prog keepT (n + 1) Y 44 [x0, (.ptr x1), (.ptr x2)] h nx =
    if allOne (AV.cells x0) = true then
    (let h1 := AHeap.put h nx (some ⟨(AV.cells x0), 1, true⟩)
    (x1).bind fun p2 =>
    (ldA h1 p2.1 p2.2).bind fun v3 =>
    (asI .i64 v3).bind fun n4 =>
    if (decide (0 ≤ (0 : Int)) && decide ((0 : Int) ≤ n4) && decide (((8 : Nat) : Int) * n4 ≤ 281474976710656) && decide ((n4 : Int) ≤ 9223372036854775807) && 1 != 0) = true then
    (let h5 := AHeap.put h1 (nx + 2) (some ⟨(madeA [(.int .i64 0)] (Int.toNat 0 * 1)), 1, true⟩)
    let h6 := AHeap.put h5 (nx + 3) (some ⟨[(.slice none 0 false)], 1, true⟩)
    (stA h6 (nx + 3) 0 (.slice (some ((nx + 2), 0)) (Int.toNat 0) (0 == n4)) 1).bind fun b7 =>
    let h8 := AHeap.put h6 (nx + 3) (some b7)
    let h9 := AHeap.put h8 (nx + 5) (some ⟨[.nilFn], 1, true⟩)
    (stA h9 (nx + 5) 0 (.fn 45 [] [(.ptr (some ((nx + 3), 0))), (.ptr x1), (.ptr (some (nx, 0))), (.ptr x2), (.ptr (some ((nx + 5), 0)))]) 1).bind fun b10 =>
    let h11 := AHeap.put h9 (nx + 5) (some b10)
    (ldA h11 (nx + 5) 0).bind fun v12 =>
    (asCal v12).bind fun q14 =>
    (callC ((callP Try.prog keepT n) Y) Y q14.1 (q14.2.1 ++ [(.int .i64 0)] ++ q14.2.2) h11 (nx + 10)).bind fun r13 =>
    (asB r13.1).bind fun t15 =>
    some ((.tuple []), r13.2.1, r13.2.2))
    else none)
    else none := F44_eq' go1 n Y x0 x1 x2 h nx

noncomputable def c45 : Code := (Try.f45.body).getD .skip

noncomputable def r45 : List ResultVar := Try.f45.results.toList

noncomputable def F45_L1' (W J : StepF (AV × AHeap × Nat) → StepF (AV × AHeap × Nat)) (call : YldF → CallF) (Y : YldF) (lf : Nat) (n0 : Nat) (x1 : Option (Nat × Nat)) (x2 : Option (Nat × Nat)) (x4 : Option (Nat × Nat)) (x5 : Option (Nat × Nat)) (x8 : Int) (h : AHeap) (nx : Nat) : Option (AV × AHeap × Nat) :=
  goK W J drawK (machOf Try.prog) call Y (keepT 45) lf c45 [1, 1, 0, 1, 0, 9] [n0] (retK (machOf Try.prog) ⟨c45, 42, r45, keepT 45⟩) ⟨42, mkL [(1, (.ptr x1)), (2, (.ptr x2)), (4, (.ptr x4)), (5, (.ptr x5)), (8, (.int .i64 x8))]⟩ h nx

noncomputable def F45_L1 (call : YldF → CallF) (Y : YldF) (lf : Nat) (n0 : Nat) (x1 : Option (Nat × Nat)) (x2 : Option (Nat × Nat)) (x4 : Option (Nat × Nat)) (x5 : Option (Nat × Nat)) (x8 : Int) (h : AHeap) (nx : Nat) : Option (AV × AHeap × Nat) := F45_L1' go1 go1 call Y lf n0 x1 x2 x4 x5 x8 h nx

theorem F45_L1_eq' (J : StepF (AV × AHeap × Nat) → StepF (AV × AHeap × Nat)) (call : YldF → CallF) (Y : YldF) (lf : Nat) (n0 : Nat) (x1 : Option (Nat × Nat)) (x2 : Option (Nat × Nat)) (x4 : Option (Nat × Nat)) (x5 : Option (Nat × Nat)) (x8 : Int) (h : AHeap) (nx : Nat) : F45_L1' go1 J call Y lf (n0 + 1) x1 x2 x4 x5 x8 h nx =
    (x4).bind fun p1 =>
    (ldA h p1.1 p1.2).bind fun v2 =>
    (asI .i64 v2).bind fun n3 =>
    (x2).bind fun p4 =>
    (ldA h p4.1 p4.2).bind fun v5 =>
    (asI .i64 v5).bind fun n6 =>
    (x1).bind fun p7 =>
    (ldA h p7.1 p7.2).bind fun v8 =>
    (asSl v8).bind fun s9 =>
    if (decide ((x8 : Int) ≤ (wrapA .i64 (n3 - (wrapA .i64 (n6 - ((s9.2.1 : Nat) : Int))))))) = true then
    ((x1).bind fun p10 =>
    (ldA h p10.1 p10.2).bind fun v11 =>
    (asSl v11).bind fun s12 =>
    let h13 := AHeap.put h (nx + 10) (some ⟨[(.int .i64 x8)], 1, true⟩)
    (srcS h13 (some ((nx + 10), 0)) 1 1).bind fun q14 =>
    (appD h13 s12.1 s12.2.1 s12.2.2 1 8 (nx + 11) q14).bind fun e15 =>
    let h16 := AHeap.puts h13 e15.sets
    (x1).bind fun p17 =>
    (stA h16 p17.1 p17.2 (.slice e15.a e15.n e15.c) 1).bind fun b18 =>
    let h19 := AHeap.put h16 p17.1 (some b18)
    (x5).bind fun p20 =>
    (ldA h19 p20.1 p20.2).bind fun v21 =>
    (asCal v21).bind fun q23 =>
    (callC (call Y) Y q23.1 (q23.2.1 ++ [(.int .i64 (wrapA .i64 (x8 + 1)))] ++ q23.2.2) h19 (nx + 18)).bind fun r22 =>
    (asB r22.1).bind fun t24 =>
    if (!t24) = true then
    (some ((.bool false), r22.2.1, (r22.2.2 + 1)))
    else
    ((x1).bind fun p25 =>
    (ldA r22.2.1 p25.1 p25.2).bind fun v26 =>
    (asSl v26).bind fun s27 =>
    (x1).bind fun p28 =>
    (ldA r22.2.1 p28.1 p28.2).bind fun v29 =>
    (asSl v29).bind fun s30 =>
    (cutA r22.2.1 s27.1 s27.2.1 s27.2.2 1 none (some (.int .i64 (wrapA .i64 (((s30.2.1 : Nat) : Int) - 1)))) none).bind fun s31 =>
    (x1).bind fun p32 =>
    (stA r22.2.1 p32.1 p32.2 (.slice s31.1 s31.2.1 s31.2.2) 1).bind fun b33 =>
    let h34 := AHeap.put r22.2.1 p32.1 (some b33)
    F45_L1' J J call Y lf n0 x1 x2 x4 x5 (wrapA .i64 (x8 + 1)) h34 (r22.2.2 + 9)))
    else
    (some ((.bool true), h, (nx + 9))) := by kernel_rfl

theorem F45_L1_eq (call : YldF → CallF) (Y : YldF) (lf : Nat) (n0 : Nat) (x1 : Option (Nat × Nat)) (x2 : Option (Nat × Nat)) (x4 : Option (Nat × Nat)) (x5 : Option (Nat × Nat)) (x8 : Int) (h : AHeap) (nx : Nat) : F45_L1 call Y lf (n0 + 1) x1 x2 x4 x5 x8 h nx =
    (x4).bind fun p1 =>
    (ldA h p1.1 p1.2).bind fun v2 =>
    (asI .i64 v2).bind fun n3 =>
    (x2).bind fun p4 =>
    (ldA h p4.1 p4.2).bind fun v5 =>
    (asI .i64 v5).bind fun n6 =>
    (x1).bind fun p7 =>
    (ldA h p7.1 p7.2).bind fun v8 =>
    (asSl v8).bind fun s9 =>
    if (decide ((x8 : Int) ≤ (wrapA .i64 (n3 - (wrapA .i64 (n6 - ((s9.2.1 : Nat) : Int))))))) = true then
    ((x1).bind fun p10 =>
    (ldA h p10.1 p10.2).bind fun v11 =>
    (asSl v11).bind fun s12 =>
    let h13 := AHeap.put h (nx + 10) (some ⟨[(.int .i64 x8)], 1, true⟩)
    (srcS h13 (some ((nx + 10), 0)) 1 1).bind fun q14 =>
    (appD h13 s12.1 s12.2.1 s12.2.2 1 8 (nx + 11) q14).bind fun e15 =>
    let h16 := AHeap.puts h13 e15.sets
    (x1).bind fun p17 =>
    (stA h16 p17.1 p17.2 (.slice e15.a e15.n e15.c) 1).bind fun b18 =>
    let h19 := AHeap.put h16 p17.1 (some b18)
    (x5).bind fun p20 =>
    (ldA h19 p20.1 p20.2).bind fun v21 =>
    (asCal v21).bind fun q23 =>
    (callC (call Y) Y q23.1 (q23.2.1 ++ [(.int .i64 (wrapA .i64 (x8 + 1)))] ++ q23.2.2) h19 (nx + 18)).bind fun r22 =>
    (asB r22.1).bind fun t24 =>
    if (!t24) = true then
    (some ((.bool false), r22.2.1, (r22.2.2 + 1)))
    else
    ((x1).bind fun p25 =>
    (ldA r22.2.1 p25.1 p25.2).bind fun v26 =>
    (asSl v26).bind fun s27 =>
    (x1).bind fun p28 =>
    (ldA r22.2.1 p28.1 p28.2).bind fun v29 =>
    (asSl v29).bind fun s30 =>
    (cutA r22.2.1 s27.1 s27.2.1 s27.2.2 1 none (some (.int .i64 (wrapA .i64 (((s30.2.1 : Nat) : Int) - 1)))) none).bind fun s31 =>
    (x1).bind fun p32 =>
    (stA r22.2.1 p32.1 p32.2 (.slice s31.1 s31.2.1 s31.2.2) 1).bind fun b33 =>
    let h34 := AHeap.put r22.2.1 p32.1 (some b33)
    F45_L1 call Y lf n0 x1 x2 x4 x5 (wrapA .i64 (x8 + 1)) h34 (r22.2.2 + 9)))
    else
    (some ((.bool true), h, (nx + 9))) := F45_L1_eq' go1 call Y lf n0 x1 x2 x4 x5 x8 h nx

theorem F45_L1_zero (call : YldF → CallF) (Y : YldF) (lf : Nat) (x1 : Option (Nat × Nat)) (x2 : Option (Nat × Nat)) (x4 : Option (Nat × Nat)) (x5 : Option (Nat × Nat)) (x8 : Int) (h : AHeap) (nx : Nat) : F45_L1 call Y lf 0 x1 x2 x4 x5 x8 h nx = none := by kernel_rfl

theorem F45_eq' (J : StepF (AV × AHeap × Nat) → StepF (AV × AHeap × Nat)) (n : Nat) (Y : YldF) (x0 : Int) (x1 : Option (Nat × Nat)) (x2 : Option (Nat × Nat)) (x3 : Option (Nat × Nat)) (x4 : Option (Nat × Nat)) (x5 : Option (Nat × Nat)) (h : AHeap) (nx : Nat) : rootJ J Try.prog keepT (callP Try.prog keepT n) Y n 45 [(.int .i64 x0), (.ptr x1), (.ptr x2), (.ptr x3), (.ptr x4), (.ptr x5)] h nx =
    (x1).bind fun p1 =>
    (ldA h p1.1 p1.2).bind fun v2 =>
    (asSl v2).bind fun s3 =>
    (x2).bind fun p4 =>
    (ldA h p4.1 p4.2).bind fun v5 =>
    (asI .i64 v5).bind fun n6 =>
    if ((((s3.2.1 : Nat) : Int) : Int) == n6) = true then
    ((x3).bind fun p7 =>
    (ldA h p7.1 p7.2).bind fun v8 =>
    (x1).bind fun p9 =>
    (ldA h p9.1 p9.2).bind fun v10 =>
    (asSl v10).bind fun s11 =>
    ((callP Try.prog keepT n) Y 46 [(.slice s11.1 s11.2.1 s11.2.2)] h (nx + 10)).bind fun r12 =>
    (asSl r12.1).bind fun s13 =>
    (asCal v8).bind fun q15 =>
    (callC ((callP Try.prog keepT n) Y) Y q15.1 (q15.2.1 ++ [(.slice s13.1 s13.2.1 s13.2.2)] ++ q15.2.2) r12.2.1 r12.2.2).bind fun r14 =>
    (asB r14.1).bind fun t16 =>
    ifKept [(h, r12.2.1, [p7.1])]
    (some ((.bool t16), r14.2.1, r14.2.2)))
    else
    (F45_L1' J J (callP Try.prog keepT n) Y n n x1 x2 x4 x5 x0 h (nx + 7)) := by kernel_rfl

/-- quickset/comb.Each$1$1 -/
theorem F45_eq (n : Nat) (Y : YldF) (x0 : Int) (x1 : Option (Nat × Nat)) (x2 : Option (Nat × Nat)) (x3 : Option (Nat × Nat)) (x4 : Option (Nat × Nat)) (x5 : Option (Nat × Nat)) (h : AHeap) (nx : Nat) : callP Try.prog keepT (n + 1) Y 45 [(.int .i64 x0), (.ptr x1), (.ptr x2), (.ptr x3), (.ptr x4), (.ptr x5)] h nx =
    (x1).bind fun p1 =>
    (ldA h p1.1 p1.2).bind fun v2 =>
    (asSl v2).bind fun s3 =>
    (x2).bind fun p4 =>
    (ldA h p4.1 p4.2).bind fun v5 =>
    (asI .i64 v5).bind fun n6 =>
    if ((((s3.2.1 : Nat) : Int) : Int) == n6) = true then
    ((x3).bind fun p7 =>
    (ldA h p7.1 p7.2).bind fun v8 =>
    (x1).bind fun p9 =>
    (ldA h p9.1 p9.2).bind fun v10 =>
    (asSl v10).bind fun s11 =>
    ((callP Try.prog keepT n) Y 46 [(.slice s11.1 s11.2.1 s11.2.2)] h (nx + 10)).bind fun r12 =>
    (asSl r12.1).bind fun s13 =>
    (asCal v8).bind fun q15 =>
    (callC ((callP Try.prog keepT n) Y) Y q15.1 (q15.2.1 ++ [(.slice s13.1 s13.2.1 s13.2.2)] ++ q15.2.2) r12.2.1 r12.2.2).bind fun r14 =>
    (asB r14.1).bind fun t16 =>
    ifKept [(h, r12.2.1, [p7.1])]
    (some ((.bool t16), r14.2.1, r14.2.2)))
    else
    (F45_L1 (callP Try.prog keepT n) Y n n x1 x2 x4 x5 x0 h (nx + 7)) := F45_eq' go1 n Y x0 x1 x2 x3 x4 x5 h nx

noncomputable def c46 : Code := (Try.f46.body).getD .skip

noncomputable def r46 : List ResultVar := Try.f46.results.toList

theorem F46_eq' (J : StepF (AV × AHeap × Nat) → StepF (AV × AHeap × Nat)) (n : Nat) (Y : YldF) (x0a : Option (Nat × Nat)) (x0n : Nat) (x0c : Bool) (h : AHeap) (nx : Nat) : rootJ J Try.prog keepT (callP Try.prog keepT n) Y n 46 [(.slice x0a x0n x0c)] h nx =
    if (Option.isNone x0a) = true then
    (some ((.slice none 0 false), h, (nx + 4)))
    else
    (let h1 := AHeap.put h (nx + 3) (some ⟨[], 1, true⟩)
    (srcS h1 x0a x0n 1).bind fun q2 =>
    (appD h1 (some ((nx + 3), 0)) 0 true 1 8 (nx + 5) q2).bind fun e3 =>
    let h4 := AHeap.puts h1 e3.sets
    some ((.slice e3.a e3.n e3.c), h4, (nx + 7))) := by kernel_rfl

/-- slices.Clone[[]int,int] -/
theorem F46_eq (n : Nat) (Y : YldF) (x0a : Option (Nat × Nat)) (x0n : Nat) (x0c : Bool) (h : AHeap) (nx : Nat) : callP Try.prog keepT (n + 1) Y 46 [(.slice x0a x0n x0c)] h nx =
    if (Option.isNone x0a) = true then
    (some ((.slice none 0 false), h, (nx + 4)))
    else
    (let h1 := AHeap.put h (nx + 3) (some ⟨[], 1, true⟩)
    (srcS h1 x0a x0n 1).bind fun q2 =>
    (appD h1 (some ((nx + 3), 0)) 0 true 1 8 (nx + 5) q2).bind fun e3 =>
    let h4 := AHeap.puts h1 e3.sets
    some ((.slice e3.a e3.n e3.c), h4, (nx + 7))) := F46_eq' go1 n Y x0a x0n x0c h nx

end Go.Proofs.Ytdjbhonncjcbjaa.T
