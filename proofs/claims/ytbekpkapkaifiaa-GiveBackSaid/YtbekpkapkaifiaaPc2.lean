/- Printed by mp.py: functions of the program as plain Lean, each by the kernel. -/
import Derived.Test.YtbekpkapkaifiaaPc1
set_option linter.unusedVariables false
set_option linter.unusedSimpArgs false
namespace Go.Proofs.Ytbekpkapkaifiaa.T
open Go Go.RowKit Go.Proofs
set_option maxRecDepth 100000

noncomputable def c14 : Code := (Try.f14.body).getD .skip

noncomputable def r14 : List ResultVar := Try.f14.results.toList

noncomputable def F14_J1' (W J : StepF (AV × AHeap × Nat) → StepF (AV × AHeap × Nat)) (call : YldF → CallF) (Y : YldF) (lf : Nat) (x5 : Int) (x10a : Option (Nat × Nat)) (x10n : Nat) (x10c : Bool) (x11 : Int) (x12a : Option (Nat × Nat)) (x12n : Nat) (x12c : Bool) (x13 : Int) (x14a : Option (Nat × Nat)) (x14n : Nat) (x14c : Bool) (x15 : Int) (x16 : Int) (h : AHeap) (nx : Nat) : Option (AV × AHeap × Nat) :=
  goK W J drawK (machOf Try.prog) call Y (keepT 14) lf c14 [1, 1, 1, 1, 1, 1, 1, 1, 1] [] (retK (machOf Try.prog) ⟨c14, 94, r14, keepT 14⟩) ⟨94, mkL [(5, (.int .i64 x5)), (10, (.slice x10a x10n x10c)), (11, (.int .i64 x11)), (12, (.slice x12a x12n x12c)), (13, (.int .i64 x13)), (14, (.slice x14a x14n x14c)), (15, (.int .i64 x15)), (16, (.int .i64 x16))]⟩ h nx

noncomputable def F14_J1 (call : YldF → CallF) (Y : YldF) (lf : Nat) (x5 : Int) (x10a : Option (Nat × Nat)) (x10n : Nat) (x10c : Bool) (x11 : Int) (x12a : Option (Nat × Nat)) (x12n : Nat) (x12c : Bool) (x13 : Int) (x14a : Option (Nat × Nat)) (x14n : Nat) (x14c : Bool) (x15 : Int) (x16 : Int) (h : AHeap) (nx : Nat) : Option (AV × AHeap × Nat) := F14_J1' go1 go1 call Y lf x5 x10a x10n x10c x11 x12a x12n x12c x13 x14a x14n x14c x15 x16 h nx

theorem F14_J1_eq' (J : StepF (AV × AHeap × Nat) → StepF (AV × AHeap × Nat)) (call : YldF → CallF) (Y : YldF) (lf : Nat) (x5 : Int) (x10a : Option (Nat × Nat)) (x10n : Nat) (x10c : Bool) (x11 : Int) (x12a : Option (Nat × Nat)) (x12n : Nat) (x12c : Bool) (x13 : Int) (x14a : Option (Nat × Nat)) (x14n : Nat) (x14c : Bool) (x15 : Int) (x16 : Int) (h : AHeap) (nx : Nat) : F14_J1' go1 J call Y lf x5 x10a x10n x10c x11 x12a x12n x12c x13 x14a x14n x14c x15 x16 h nx =
    if ((x11 : Int) == 0) = true then
    (if ((x13 : Int) == 0) = true then
    (if ((x15 : Int) == 0) = true then
    ((call Y 32 [(.slice x10a x10n x10c)] h (nx + 34)).bind fun r1 =>
    (asB r1.1).bind fun t2 =>
    if t2 = true then
    ((call Y 33 [(.slice x10a x10n x10c)] r1.2.1 r1.2.2).bind fun r3 =>
    (asI .i64 r3.1).bind fun n4 =>
    if ((n4 : Int) == x16) = true then
    ((call Y 34 [(.slice x10a x10n x10c), (.slice x14a x14n x14c)] r3.2.1 r3.2.2).bind fun r5 =>
    (asB r5.1).bind fun t6 =>
    if t6 = true then
    (some ((.bool (decide (((wrapA .i64 (2 * ((x12n : Nat) : Int))) : Int) ≤ (wrapA .i64 (x5 + 1))))), r5.2.1, r5.2.2))
    else
    (some ((.bool false), r5.2.1, r5.2.2)))
    else
    (some ((.bool false), r3.2.1, r3.2.2)))
    else
    (some ((.bool false), r1.2.1, r1.2.2)))
    else
    (some ((.bool false), h, (nx + 34))))
    else
    (some ((.bool false), h, (nx + 34))))
    else
    (some ((.bool false), h, (nx + 34))) := by kernel_rfl

theorem F14_J1_eq (call : YldF → CallF) (Y : YldF) (lf : Nat) (x5 : Int) (x10a : Option (Nat × Nat)) (x10n : Nat) (x10c : Bool) (x11 : Int) (x12a : Option (Nat × Nat)) (x12n : Nat) (x12c : Bool) (x13 : Int) (x14a : Option (Nat × Nat)) (x14n : Nat) (x14c : Bool) (x15 : Int) (x16 : Int) (h : AHeap) (nx : Nat) : F14_J1 call Y lf x5 x10a x10n x10c x11 x12a x12n x12c x13 x14a x14n x14c x15 x16 h nx =
    if ((x11 : Int) == 0) = true then
    (if ((x13 : Int) == 0) = true then
    (if ((x15 : Int) == 0) = true then
    ((call Y 32 [(.slice x10a x10n x10c)] h (nx + 34)).bind fun r1 =>
    (asB r1.1).bind fun t2 =>
    if t2 = true then
    ((call Y 33 [(.slice x10a x10n x10c)] r1.2.1 r1.2.2).bind fun r3 =>
    (asI .i64 r3.1).bind fun n4 =>
    if ((n4 : Int) == x16) = true then
    ((call Y 34 [(.slice x10a x10n x10c), (.slice x14a x14n x14c)] r3.2.1 r3.2.2).bind fun r5 =>
    (asB r5.1).bind fun t6 =>
    if t6 = true then
    (some ((.bool (decide (((wrapA .i64 (2 * ((x12n : Nat) : Int))) : Int) ≤ (wrapA .i64 (x5 + 1))))), r5.2.1, r5.2.2))
    else
    (some ((.bool false), r5.2.1, r5.2.2)))
    else
    (some ((.bool false), r3.2.1, r3.2.2)))
    else
    (some ((.bool false), r1.2.1, r1.2.2)))
    else
    (some ((.bool false), h, (nx + 34))))
    else
    (some ((.bool false), h, (nx + 34))))
    else
    (some ((.bool false), h, (nx + 34))) := F14_J1_eq' go1 call Y lf x5 x10a x10n x10c x11 x12a x12n x12c x13 x14a x14n x14c x15 x16 h nx

theorem F14_eq' (J : StepF (AV × AHeap × Nat) → StepF (AV × AHeap × Nat)) (n : Nat) (Y : YldF) (x0a : Option (Nat × Nat)) (x0n : Nat) (x0c : Bool) (x1 : Int) (h : AHeap) (nx : Nat) : rootJ J Try.prog keepT (callP Try.prog keepT n) Y n 14 [(.slice x0a x0n x0c), (.int .i64 x1)] h nx =
    ((callP Try.prog keepT n) Y 15 [(.int .i64 x1), (.int .i64 100)] h (nx + 5)).bind fun r1 =>
    (asI .i64 r1.1).bind fun n2 =>
    ((callP Try.prog keepT n) Y 16 [(.slice x0a x0n x0c), (.int .i64 60), (.int .i64 (wrapA .i64 (1 + n2)))] r1.2.1 (r1.2.2 + 12)).bind fun r3 =>
    (asTup 4 r3.1).bind fun d4 =>
    (asSl (d4.getD 0 .bad)).bind fun s5 =>
    (asSl (d4.getD 1 .bad)).bind fun s6 =>
    (asSl (d4.getD 2 .bad)).bind fun s7 =>
    (asB (d4.getD 3 .bad)).bind fun t8 =>
    if (!t8) = true then
    (some ((.bool false), r3.2.1, (r3.2.2 + 3)))
    else
    ((srcS r3.2.1 s7.1 s7.2.1 3).bind fun q9 =>
    (appD r3.2.1 none 0 false 3 24 (r3.2.2 + 4) q9).bind fun e10 =>
    let h11 := AHeap.puts r3.2.1 e10.sets
    ((callP Try.prog keepT n) Y 30 [(.int .i64 (wrapA .i64 (1 + n2))), (.slice e10.a e10.n e10.c)] h11 (r3.2.2 + 11)).bind fun r12 =>
    (asTup 2 r12.1).bind fun d13 =>
    (asSl (d13.getD 0 .bad)).bind fun s14 =>
    (asI .i64 (d13.getD 1 .bad)).bind fun n15 =>
    (srcS r12.2.1 s7.1 s7.2.1 3).bind fun q16 =>
    (appD r12.2.1 none 0 false 3 24 (r12.2.2 + 2) q16).bind fun e17 =>
    let h18 := AHeap.puts r12.2.1 e17.sets
    ((callP Try.prog keepT n) Y 29 [(.int .i64 (wrapA .i64 (1 + n2))), (.slice e17.a e17.n e17.c)] h18 (r12.2.2 + 9)).bind fun r19 =>
    (asTup 2 r19.1).bind fun d20 =>
    (asSl (d20.getD 0 .bad)).bind fun s21 =>
    (asI .i64 (d20.getD 1 .bad)).bind fun n22 =>
    ((callP Try.prog keepT n) Y 30 [(.int .i64 (wrapA .i64 (1 + n2))), (.slice s21.1 s21.2.1 s21.2.2)] r19.2.1 (r19.2.2 + 8)).bind fun r23 =>
    (asTup 2 r23.1).bind fun d24 =>
    (asSl (d24.getD 0 .bad)).bind fun s25 =>
    (asI .i64 (d24.getD 1 .bad)).bind fun n26 =>
    if (decide ((((s6.2.1 : Nat) : Int) : Int) > 0)) = true then
    ((s6.1).bind fun p27 =>
    if 0 ≤ ((wrapA .i64 (((s6.2.1 : Nat) : Int) - 1)) : Int) ∧ (wrapA .i64 (((s6.2.1 : Nat) : Int) - 1)) < ((s6.2.1 : Nat) : Int) then
    ((ldA r23.2.1 p27.1 ((p27.2 + Int.toNat (wrapA .i64 (((s6.2.1 : Nat) : Int) - 1)) * 3) + 2)).bind fun v28 =>
    (asI .i64 v28).bind fun n29 =>
    F14_J1' J J (callP Try.prog keepT n) Y n (wrapA .i64 (1 + n2)) s14.1 s14.2.1 s14.2.2 n15 s21.1 s21.2.1 s21.2.2 n22 s25.1 s25.2.1 s25.2.2 n26 n29 r23.2.1 (r23.2.2 + 13))
    else none)
    else
    (F14_J1' J J (callP Try.prog keepT n) Y n (wrapA .i64 (1 + n2)) s14.1 s14.2.1 s14.2.2 n15 s21.1 s21.2.1 s21.2.2 n22 s25.1 s25.2.1 s25.2.2 n26 (wrapA .i64 (1 + n2)) r23.2.1 (r23.2.2 + 5))) := by kernel_rfl

/-- quickset/quicksetkeep.ReplaySame -/
theorem F14_eq (n : Nat) (Y : YldF) (x0a : Option (Nat × Nat)) (x0n : Nat) (x0c : Bool) (x1 : Int) (h : AHeap) (nx : Nat) : callP Try.prog keepT (n + 1) Y 14 [(.slice x0a x0n x0c), (.int .i64 x1)] h nx =
    ((callP Try.prog keepT n) Y 15 [(.int .i64 x1), (.int .i64 100)] h (nx + 5)).bind fun r1 =>
    (asI .i64 r1.1).bind fun n2 =>
    ((callP Try.prog keepT n) Y 16 [(.slice x0a x0n x0c), (.int .i64 60), (.int .i64 (wrapA .i64 (1 + n2)))] r1.2.1 (r1.2.2 + 12)).bind fun r3 =>
    (asTup 4 r3.1).bind fun d4 =>
    (asSl (d4.getD 0 .bad)).bind fun s5 =>
    (asSl (d4.getD 1 .bad)).bind fun s6 =>
    (asSl (d4.getD 2 .bad)).bind fun s7 =>
    (asB (d4.getD 3 .bad)).bind fun t8 =>
    if (!t8) = true then
    (some ((.bool false), r3.2.1, (r3.2.2 + 3)))
    else
    ((srcS r3.2.1 s7.1 s7.2.1 3).bind fun q9 =>
    (appD r3.2.1 none 0 false 3 24 (r3.2.2 + 4) q9).bind fun e10 =>
    let h11 := AHeap.puts r3.2.1 e10.sets
    ((callP Try.prog keepT n) Y 30 [(.int .i64 (wrapA .i64 (1 + n2))), (.slice e10.a e10.n e10.c)] h11 (r3.2.2 + 11)).bind fun r12 =>
    (asTup 2 r12.1).bind fun d13 =>
    (asSl (d13.getD 0 .bad)).bind fun s14 =>
    (asI .i64 (d13.getD 1 .bad)).bind fun n15 =>
    (srcS r12.2.1 s7.1 s7.2.1 3).bind fun q16 =>
    (appD r12.2.1 none 0 false 3 24 (r12.2.2 + 2) q16).bind fun e17 =>
    let h18 := AHeap.puts r12.2.1 e17.sets
    ((callP Try.prog keepT n) Y 29 [(.int .i64 (wrapA .i64 (1 + n2))), (.slice e17.a e17.n e17.c)] h18 (r12.2.2 + 9)).bind fun r19 =>
    (asTup 2 r19.1).bind fun d20 =>
    (asSl (d20.getD 0 .bad)).bind fun s21 =>
    (asI .i64 (d20.getD 1 .bad)).bind fun n22 =>
    ((callP Try.prog keepT n) Y 30 [(.int .i64 (wrapA .i64 (1 + n2))), (.slice s21.1 s21.2.1 s21.2.2)] r19.2.1 (r19.2.2 + 8)).bind fun r23 =>
    (asTup 2 r23.1).bind fun d24 =>
    (asSl (d24.getD 0 .bad)).bind fun s25 =>
    (asI .i64 (d24.getD 1 .bad)).bind fun n26 =>
    if (decide ((((s6.2.1 : Nat) : Int) : Int) > 0)) = true then
    ((s6.1).bind fun p27 =>
    if 0 ≤ ((wrapA .i64 (((s6.2.1 : Nat) : Int) - 1)) : Int) ∧ (wrapA .i64 (((s6.2.1 : Nat) : Int) - 1)) < ((s6.2.1 : Nat) : Int) then
    ((ldA r23.2.1 p27.1 ((p27.2 + Int.toNat (wrapA .i64 (((s6.2.1 : Nat) : Int) - 1)) * 3) + 2)).bind fun v28 =>
    (asI .i64 v28).bind fun n29 =>
    F14_J1 (callP Try.prog keepT n) Y n (wrapA .i64 (1 + n2)) s14.1 s14.2.1 s14.2.2 n15 s21.1 s21.2.1 s21.2.2 n22 s25.1 s25.2.1 s25.2.2 n26 n29 r23.2.1 (r23.2.2 + 13))
    else none)
    else
    (F14_J1 (callP Try.prog keepT n) Y n (wrapA .i64 (1 + n2)) s14.1 s14.2.1 s14.2.2 n15 s21.1 s21.2.1 s21.2.2 n22 s25.1 s25.2.1 s25.2.2 n26 (wrapA .i64 (1 + n2)) r23.2.1 (r23.2.2 + 5))) := F14_eq' go1 n Y x0a x0n x0c x1 h nx

noncomputable def c15 : Code := (Try.f15.body).getD .skip

noncomputable def r15 : List ResultVar := Try.f15.results.toList

theorem F15_eq' (J : StepF (AV × AHeap × Nat) → StepF (AV × AHeap × Nat)) (n : Nat) (Y : YldF) (x0 : Int) (x1 : Int) (h : AHeap) (nx : Nat) : rootJ J Try.prog keepT (callP Try.prog keepT n) Y n 15 [(.int .i64 x0), (.int .i64 x1)] h nx =
    if (x1 : Int) = 0 then none else
    (if (decide (((Int.tmod x0 x1) : Int) < 0)) = true then
    (some ((.int .i64 (wrapA .i64 ((Int.tmod x0 x1) + x1))), h, (nx + 11)))
    else
    (some ((.int .i64 (Int.tmod x0 x1)), h, (nx + 9)))) := by kernel_rfl

/-- quickset/quicksetkeep.Picked -/
theorem F15_eq (n : Nat) (Y : YldF) (x0 : Int) (x1 : Int) (h : AHeap) (nx : Nat) : callP Try.prog keepT (n + 1) Y 15 [(.int .i64 x0), (.int .i64 x1)] h nx =
    if (x1 : Int) = 0 then none else
    (if (decide (((Int.tmod x0 x1) : Int) < 0)) = true then
    (some ((.int .i64 (wrapA .i64 ((Int.tmod x0 x1) + x1))), h, (nx + 11)))
    else
    (some ((.int .i64 (Int.tmod x0 x1)), h, (nx + 9)))) := F15_eq' go1 n Y x0 x1 h nx

noncomputable def c16 : Code := (Try.f16.body).getD .skip

noncomputable def r16 : List ResultVar := Try.f16.results.toList

noncomputable def F16_L1' (W J : StepF (AV × AHeap × Nat) → StepF (AV × AHeap × Nat)) (call : YldF → CallF) (Y : YldF) (lf : Nat) (n0 : Nat) (x0a : Option (Nat × Nat)) (x0n : Nat) (x0c : Bool) (x1 : Int) (x2 : Int) (x10a : Option (Nat × Nat)) (x10n : Nat) (x10c : Bool) (x11a : Option (Nat × Nat)) (x11n : Nat) (x11c : Bool) (x12 : Int) (h : AHeap) (nx : Nat) : Option (AV × AHeap × Nat) :=
  goK W J drawK (machOf Try.prog) call Y (keepT 16) lf c16 [1, 1, 1, 0, 1, 0, 9] [n0] (retK (machOf Try.prog) ⟨c16, 172, r16, keepT 16⟩) ⟨172, mkL [(0, (.slice x0a x0n x0c)), (1, (.int .i64 x1)), (2, (.int .i64 x2)), (10, (.slice x10a x10n x10c)), (11, (.slice x11a x11n x11c)), (12, (.int .i64 x12))]⟩ h nx

noncomputable def F16_L1 (call : YldF → CallF) (Y : YldF) (lf : Nat) (n0 : Nat) (x0a : Option (Nat × Nat)) (x0n : Nat) (x0c : Bool) (x1 : Int) (x2 : Int) (x10a : Option (Nat × Nat)) (x10n : Nat) (x10c : Bool) (x11a : Option (Nat × Nat)) (x11n : Nat) (x11c : Bool) (x12 : Int) (h : AHeap) (nx : Nat) : Option (AV × AHeap × Nat) := F16_L1' go1 go1 call Y lf n0 x0a x0n x0c x1 x2 x10a x10n x10c x11a x11n x11c x12 h nx

noncomputable def F16_J2' (W J : StepF (AV × AHeap × Nat) → StepF (AV × AHeap × Nat)) (call : YldF → CallF) (Y : YldF) (lf : Nat) (n0 : Nat) (x0a : Option (Nat × Nat)) (x0n : Nat) (x0c : Bool) (x1 : Int) (x2 : Int) (x10a : Option (Nat × Nat)) (x10n : Nat) (x10c : Bool) (x11a : Option (Nat × Nat)) (x11n : Nat) (x11c : Bool) (x12 : Int) (h : AHeap) (nx : Nat) : Option (AV × AHeap × Nat) :=
  goK W J drawK (machOf Try.prog) call Y (keepT 16) lf c16 [1, 1, 1, 0, 1, 0, 0, 1] [n0] (retK (machOf Try.prog) ⟨c16, 172, r16, keepT 16⟩) ⟨172, mkL [(0, (.slice x0a x0n x0c)), (1, (.int .i64 x1)), (2, (.int .i64 x2)), (10, (.slice x10a x10n x10c)), (11, (.slice x11a x11n x11c)), (12, (.int .i64 x12))]⟩ h nx

noncomputable def F16_J2 (call : YldF → CallF) (Y : YldF) (lf : Nat) (n0 : Nat) (x0a : Option (Nat × Nat)) (x0n : Nat) (x0c : Bool) (x1 : Int) (x2 : Int) (x10a : Option (Nat × Nat)) (x10n : Nat) (x10c : Bool) (x11a : Option (Nat × Nat)) (x11n : Nat) (x11c : Bool) (x12 : Int) (h : AHeap) (nx : Nat) : Option (AV × AHeap × Nat) := F16_J2' go1 go1 call Y lf n0 x0a x0n x0c x1 x2 x10a x10n x10c x11a x11n x11c x12 h nx

noncomputable def F16_J3' (W J : StepF (AV × AHeap × Nat) → StepF (AV × AHeap × Nat)) (call : YldF → CallF) (Y : YldF) (lf : Nat) (x2 : Int) (x10a : Option (Nat × Nat)) (x10n : Nat) (x10c : Bool) (h : AHeap) (nx : Nat) : Option (AV × AHeap × Nat) :=
  goK W J drawK (machOf Try.prog) call Y (keepT 16) lf c16 [1, 1, 1, 1] [] (retK (machOf Try.prog) ⟨c16, 172, r16, keepT 16⟩) ⟨172, mkL [(2, (.int .i64 x2)), (10, (.slice x10a x10n x10c))]⟩ h nx

noncomputable def F16_J3 (call : YldF → CallF) (Y : YldF) (lf : Nat) (x2 : Int) (x10a : Option (Nat × Nat)) (x10n : Nat) (x10c : Bool) (h : AHeap) (nx : Nat) : Option (AV × AHeap × Nat) := F16_J3' go1 go1 call Y lf x2 x10a x10n x10c h nx

noncomputable def F16_J4' (W J : StepF (AV × AHeap × Nat) → StepF (AV × AHeap × Nat)) (call : YldF → CallF) (Y : YldF) (lf : Nat) (n0 : Nat) (x0a : Option (Nat × Nat)) (x0n : Nat) (x0c : Bool) (x1 : Int) (x2 : Int) (x10a : Option (Nat × Nat)) (x10n : Nat) (x10c : Bool) (x11a : Option (Nat × Nat)) (x11n : Nat) (x11c : Bool) (x12 : Int) (x13 : Option (Nat × Nat)) (h : AHeap) (nx : Nat) : Option (AV × AHeap × Nat) :=
  goK W J drawK (machOf Try.prog) call Y (keepT 16) lf c16 [1, 1, 1, 0, 1, 0, 0, 1, 0, 0, 1, 1] [n0] (retK (machOf Try.prog) ⟨c16, 172, r16, keepT 16⟩) ⟨172, mkL [(0, (.slice x0a x0n x0c)), (1, (.int .i64 x1)), (2, (.int .i64 x2)), (10, (.slice x10a x10n x10c)), (11, (.slice x11a x11n x11c)), (12, (.int .i64 x12)), (13, (.ptr x13))]⟩ h nx

noncomputable def F16_J4 (call : YldF → CallF) (Y : YldF) (lf : Nat) (n0 : Nat) (x0a : Option (Nat × Nat)) (x0n : Nat) (x0c : Bool) (x1 : Int) (x2 : Int) (x10a : Option (Nat × Nat)) (x10n : Nat) (x10c : Bool) (x11a : Option (Nat × Nat)) (x11n : Nat) (x11c : Bool) (x12 : Int) (x13 : Option (Nat × Nat)) (h : AHeap) (nx : Nat) : Option (AV × AHeap × Nat) := F16_J4' go1 go1 call Y lf n0 x0a x0n x0c x1 x2 x10a x10n x10c x11a x11n x11c x12 x13 h nx

noncomputable def F16_J5' (W J : StepF (AV × AHeap × Nat) → StepF (AV × AHeap × Nat)) (call : YldF → CallF) (Y : YldF) (lf : Nat) (n0 : Nat) (x0a : Option (Nat × Nat)) (x0n : Nat) (x0c : Bool) (x1 : Int) (x2 : Int) (x10a : Option (Nat × Nat)) (x10n : Nat) (x10c : Bool) (x11a : Option (Nat × Nat)) (x11n : Nat) (x11c : Bool) (x12 : Int) (x13 : Option (Nat × Nat)) (x16a : Option (Nat × Nat)) (x16n : Nat) (x16c : Bool) (h : AHeap) (nx : Nat) : Option (AV × AHeap × Nat) :=
  goK W J drawK (machOf Try.prog) call Y (keepT 16) lf c16 [1, 1, 1, 0, 1, 0, 0, 1, 0, 0, 1, 1, 1, 1, 1] [n0] (retK (machOf Try.prog) ⟨c16, 172, r16, keepT 16⟩) ⟨172, mkL [(0, (.slice x0a x0n x0c)), (1, (.int .i64 x1)), (2, (.int .i64 x2)), (10, (.slice x10a x10n x10c)), (11, (.slice x11a x11n x11c)), (12, (.int .i64 x12)), (13, (.ptr x13)), (16, (.slice x16a x16n x16c))]⟩ h nx

noncomputable def F16_J5 (call : YldF → CallF) (Y : YldF) (lf : Nat) (n0 : Nat) (x0a : Option (Nat × Nat)) (x0n : Nat) (x0c : Bool) (x1 : Int) (x2 : Int) (x10a : Option (Nat × Nat)) (x10n : Nat) (x10c : Bool) (x11a : Option (Nat × Nat)) (x11n : Nat) (x11c : Bool) (x12 : Int) (x13 : Option (Nat × Nat)) (x16a : Option (Nat × Nat)) (x16n : Nat) (x16c : Bool) (h : AHeap) (nx : Nat) : Option (AV × AHeap × Nat) := F16_J5' go1 go1 call Y lf n0 x0a x0n x0c x1 x2 x10a x10n x10c x11a x11n x11c x12 x13 x16a x16n x16c h nx

noncomputable def F16_J6' (W J : StepF (AV × AHeap × Nat) → StepF (AV × AHeap × Nat)) (call : YldF → CallF) (Y : YldF) (lf : Nat) (n0 : Nat) (x0a : Option (Nat × Nat)) (x0n : Nat) (x0c : Bool) (x1 : Int) (x2 : Int) (x10a : Option (Nat × Nat)) (x10n : Nat) (x10c : Bool) (x11a : Option (Nat × Nat)) (x11n : Nat) (x11c : Bool) (x12 : Int) (x13 : Option (Nat × Nat)) (x19 : Option (Nat × Nat)) (h : AHeap) (nx : Nat) : Option (AV × AHeap × Nat) :=
  goK W J drawK (machOf Try.prog) call Y (keepT 16) lf c16 [1, 1, 1, 0, 1, 0, 0, 1, 0, 0, 1, 1, 1, 1, 1, 1, 1, 0, 1] [n0] (retK (machOf Try.prog) ⟨c16, 172, r16, keepT 16⟩) ⟨172, mkL [(0, (.slice x0a x0n x0c)), (1, (.int .i64 x1)), (2, (.int .i64 x2)), (10, (.slice x10a x10n x10c)), (11, (.slice x11a x11n x11c)), (12, (.int .i64 x12)), (13, (.ptr x13)), (19, (.ptr x19))]⟩ h nx

noncomputable def F16_J6 (call : YldF → CallF) (Y : YldF) (lf : Nat) (n0 : Nat) (x0a : Option (Nat × Nat)) (x0n : Nat) (x0c : Bool) (x1 : Int) (x2 : Int) (x10a : Option (Nat × Nat)) (x10n : Nat) (x10c : Bool) (x11a : Option (Nat × Nat)) (x11n : Nat) (x11c : Bool) (x12 : Int) (x13 : Option (Nat × Nat)) (x19 : Option (Nat × Nat)) (h : AHeap) (nx : Nat) : Option (AV × AHeap × Nat) := F16_J6' go1 go1 call Y lf n0 x0a x0n x0c x1 x2 x10a x10n x10c x11a x11n x11c x12 x13 x19 h nx

theorem F16_L1_eq' (J : StepF (AV × AHeap × Nat) → StepF (AV × AHeap × Nat)) (call : YldF → CallF) (Y : YldF) (lf : Nat) (n0 : Nat) (x0a : Option (Nat × Nat)) (x0n : Nat) (x0c : Bool) (x1 : Int) (x2 : Int) (x10a : Option (Nat × Nat)) (x10n : Nat) (x10c : Bool) (x11a : Option (Nat × Nat)) (x11n : Nat) (x11c : Bool) (x12 : Int) (h : AHeap) (nx : Nat) : F16_L1' go1 J call Y lf (n0 + 1) x0a x0n x0c x1 x2 x10a x10n x10c x11a x11n x11c x12 h nx =
    if (decide ((x12 : Int) < ((x0n : Nat) : Int))) = true then
    (if (decide ((x12 : Int) < x1)) = true then
    (F16_J2' J J call Y lf n0 x0a x0n x0c x1 x2 x10a x10n x10c x11a x11n x11c x12 h (nx + 9))
    else
    (F16_J3' J J call Y lf x2 x10a x10n x10c h (nx + 9)))
    else
    (F16_J3' J J call Y lf x2 x10a x10n x10c h (nx + 9)) := by kernel_rfl

theorem F16_L1_eq (call : YldF → CallF) (Y : YldF) (lf : Nat) (n0 : Nat) (x0a : Option (Nat × Nat)) (x0n : Nat) (x0c : Bool) (x1 : Int) (x2 : Int) (x10a : Option (Nat × Nat)) (x10n : Nat) (x10c : Bool) (x11a : Option (Nat × Nat)) (x11n : Nat) (x11c : Bool) (x12 : Int) (h : AHeap) (nx : Nat) : F16_L1 call Y lf (n0 + 1) x0a x0n x0c x1 x2 x10a x10n x10c x11a x11n x11c x12 h nx =
    if (decide ((x12 : Int) < ((x0n : Nat) : Int))) = true then
    (if (decide ((x12 : Int) < x1)) = true then
    (F16_J2 call Y lf n0 x0a x0n x0c x1 x2 x10a x10n x10c x11a x11n x11c x12 h (nx + 9))
    else
    (F16_J3 call Y lf x2 x10a x10n x10c h (nx + 9)))
    else
    (F16_J3 call Y lf x2 x10a x10n x10c h (nx + 9)) := F16_L1_eq' go1 call Y lf n0 x0a x0n x0c x1 x2 x10a x10n x10c x11a x11n x11c x12 h nx

theorem F16_L1_zero (call : YldF → CallF) (Y : YldF) (lf : Nat) (x0a : Option (Nat × Nat)) (x0n : Nat) (x0c : Bool) (x1 : Int) (x2 : Int) (x10a : Option (Nat × Nat)) (x10n : Nat) (x10c : Bool) (x11a : Option (Nat × Nat)) (x11n : Nat) (x11c : Bool) (x12 : Int) (h : AHeap) (nx : Nat) : F16_L1 call Y lf 0 x0a x0n x0c x1 x2 x10a x10n x10c x11a x11n x11c x12 h nx = none := by kernel_rfl

theorem F16_J2_eq' (J : StepF (AV × AHeap × Nat) → StepF (AV × AHeap × Nat)) (call : YldF → CallF) (Y : YldF) (lf : Nat) (n0 : Nat) (x0a : Option (Nat × Nat)) (x0n : Nat) (x0c : Bool) (x1 : Int) (x2 : Int) (x10a : Option (Nat × Nat)) (x10n : Nat) (x10c : Bool) (x11a : Option (Nat × Nat)) (x11n : Nat) (x11c : Bool) (x12 : Int) (h : AHeap) (nx : Nat) : F16_J2' go1 J call Y lf n0 x0a x0n x0c x1 x2 x10a x10n x10c x11a x11n x11c x12 h nx =
    (x0a).bind fun p1 =>
    if 0 ≤ (x12 : Int) ∧ x12 < ((x0n : Nat) : Int) then
    ((ldA h p1.1 ((p1.2 + Int.toNat x12 * 3) + 2)).bind fun v2 =>
    (asI .i64 v2).bind fun n3 =>
    (call Y 15 [(.int .i64 n3), (.int .i64 12)] h (nx + 10)).bind fun r4 =>
    (asI .i64 r4.1).bind fun n5 =>
    let h6 := AHeap.put r4.2.1 (nx + 8) (some ⟨[(.int .i64 0), (.int .i64 0), (.int .i64 0)], 3, true⟩)
    (stA h6 (nx + 8) 0 (.agg [(.int .i64 1), (.int .i64 0), (.int .i64 (wrapA .i64 (1 + n5)))]) 3).bind fun b7 =>
    let h8 := AHeap.put h6 (nx + 8) (some b7)
    (x0a).bind fun p9 =>
    if 0 ≤ (x12 : Int) ∧ x12 < ((x0n : Nat) : Int) then
    ((ldA h8 p9.1 (p9.2 + Int.toNat x12 * 3)).bind fun v10 =>
    (asI .i64 v10).bind fun n11 =>
    (call Y 15 [(.int .i64 n11), (.int .i64 8)] h8 (r4.2.2 + 7)).bind fun r12 =>
    (asI .i64 r12.1).bind fun n13 =>
    if ((n13 : Int) == 0) = true then
    ((stA r12.2.1 (nx + 8) 0 (.agg [(.int .i64 3), (.int .i64 0), (.int .i64 0)]) 3).bind fun b14 =>
    let h15 := AHeap.put r12.2.1 (nx + 8) (some b14)
    F16_J4' J J call Y lf n0 x0a x0n x0c x1 x2 x10a x10n x10c x11a x11n x11c x12 (some ((nx + 8), 0)) h15 (r12.2.2 + 5))
    else
    (if (decide ((n13 : Int) < 4)) = true then
    (if (decide ((((x11n : Nat) : Int) : Int) > 0)) = true then
    ((x0a).bind fun p16 =>
    if 0 ≤ (x12 : Int) ∧ x12 < ((x0n : Nat) : Int) then
    ((ldA r12.2.1 p16.1 ((p16.2 + Int.toNat x12 * 3) + 1)).bind fun v17 =>
    (asI .i64 v17).bind fun n18 =>
    (call Y 15 [(.int .i64 n18), (.int .i64 ((x11n : Nat) : Int))] r12.2.1 (r12.2.2 + 20)).bind fun r19 =>
    (asI .i64 r19.1).bind fun n20 =>
    (x11a).bind fun p21 =>
    if 0 ≤ (n20 : Int) ∧ n20 < ((x11n : Nat) : Int) then
    ((ldA r19.2.1 p21.1 (p21.2 + Int.toNat n20 * 2)).bind fun v22 =>
    (asI .i64 v22).bind fun n23 =>
    (x11a).bind fun p24 =>
    if 0 ≤ (n20 : Int) ∧ n20 < ((x11n : Nat) : Int) then
    ((ldA r19.2.1 p24.1 ((p24.2 + Int.toNat n20 * 2) + 1)).bind fun v25 =>
    (asI .i64 v25).bind fun n26 =>
    (x11a).bind fun p27 =>
    if 0 ≤ (n20 : Int) ∧ n20 < ((x11n : Nat) : Int) then
    ((ldA r19.2.1 p27.1 (p27.2 + Int.toNat n20 * 2)).bind fun v28 =>
    (asI .i64 v28).bind fun n29 =>
    (stA r19.2.1 (nx + 8) 0 (.agg [(.int .i64 2), (.int .i64 n23), (.int .i64 (wrapA .i64 (n26 - n29)))]) 3).bind fun b30 =>
    let h31 := AHeap.put r19.2.1 (nx + 8) (some b30)
    (cutA h31 x11a x11n x11c 2 none (some (.int .i64 n20)) none).bind fun s32 =>
    (srcS h31 s32.1 s32.2.1 2).bind fun q33 =>
    (appD h31 none 0 false 2 16 (r19.2.2 + 21) q33).bind fun e34 =>
    let h35 := AHeap.puts h31 e34.sets
    (cutA h35 x11a x11n x11c 2 (some (.int .i64 (wrapA .i64 (n20 + 1)))) none none).bind fun s36 =>
    (srcS h35 s36.1 s36.2.1 2).bind fun q37 =>
    (appD h35 e34.a e34.n e34.c 2 16 (r19.2.2 + 26) q37).bind fun e38 =>
    let h39 := AHeap.puts h35 e38.sets
    ifApart [((idsOf e34.sets), (rdOf x11a))]
    (F16_J4' J J call Y lf n0 x0a x0n x0c x1 x2 x10a x10n x10c e38.a e38.n e38.c x12 (some ((nx + 8), 0)) h39 (r19.2.2 + 28)))
    else none)
    else none)
    else none)
    else none)
    else
    (F16_J4' J J call Y lf n0 x0a x0n x0c x1 x2 x10a x10n x10c x11a x11n x11c x12 (some ((nx + 8), 0)) r12.2.1 (r12.2.2 + 11)))
    else
    (F16_J4' J J call Y lf n0 x0a x0n x0c x1 x2 x10a x10n x10c x11a x11n x11c x12 (some ((nx + 8), 0)) r12.2.1 (r12.2.2 + 11))))
    else none)
    else none := by kernel_rfl

theorem F16_J2_eq (call : YldF → CallF) (Y : YldF) (lf : Nat) (n0 : Nat) (x0a : Option (Nat × Nat)) (x0n : Nat) (x0c : Bool) (x1 : Int) (x2 : Int) (x10a : Option (Nat × Nat)) (x10n : Nat) (x10c : Bool) (x11a : Option (Nat × Nat)) (x11n : Nat) (x11c : Bool) (x12 : Int) (h : AHeap) (nx : Nat) : F16_J2 call Y lf n0 x0a x0n x0c x1 x2 x10a x10n x10c x11a x11n x11c x12 h nx =
    (x0a).bind fun p1 =>
    if 0 ≤ (x12 : Int) ∧ x12 < ((x0n : Nat) : Int) then
    ((ldA h p1.1 ((p1.2 + Int.toNat x12 * 3) + 2)).bind fun v2 =>
    (asI .i64 v2).bind fun n3 =>
    (call Y 15 [(.int .i64 n3), (.int .i64 12)] h (nx + 10)).bind fun r4 =>
    (asI .i64 r4.1).bind fun n5 =>
    let h6 := AHeap.put r4.2.1 (nx + 8) (some ⟨[(.int .i64 0), (.int .i64 0), (.int .i64 0)], 3, true⟩)
    (stA h6 (nx + 8) 0 (.agg [(.int .i64 1), (.int .i64 0), (.int .i64 (wrapA .i64 (1 + n5)))]) 3).bind fun b7 =>
    let h8 := AHeap.put h6 (nx + 8) (some b7)
    (x0a).bind fun p9 =>
    if 0 ≤ (x12 : Int) ∧ x12 < ((x0n : Nat) : Int) then
    ((ldA h8 p9.1 (p9.2 + Int.toNat x12 * 3)).bind fun v10 =>
    (asI .i64 v10).bind fun n11 =>
    (call Y 15 [(.int .i64 n11), (.int .i64 8)] h8 (r4.2.2 + 7)).bind fun r12 =>
    (asI .i64 r12.1).bind fun n13 =>
    if ((n13 : Int) == 0) = true then
    ((stA r12.2.1 (nx + 8) 0 (.agg [(.int .i64 3), (.int .i64 0), (.int .i64 0)]) 3).bind fun b14 =>
    let h15 := AHeap.put r12.2.1 (nx + 8) (some b14)
    F16_J4 call Y lf n0 x0a x0n x0c x1 x2 x10a x10n x10c x11a x11n x11c x12 (some ((nx + 8), 0)) h15 (r12.2.2 + 5))
    else
    (if (decide ((n13 : Int) < 4)) = true then
    (if (decide ((((x11n : Nat) : Int) : Int) > 0)) = true then
    ((x0a).bind fun p16 =>
    if 0 ≤ (x12 : Int) ∧ x12 < ((x0n : Nat) : Int) then
    ((ldA r12.2.1 p16.1 ((p16.2 + Int.toNat x12 * 3) + 1)).bind fun v17 =>
    (asI .i64 v17).bind fun n18 =>
    (call Y 15 [(.int .i64 n18), (.int .i64 ((x11n : Nat) : Int))] r12.2.1 (r12.2.2 + 20)).bind fun r19 =>
    (asI .i64 r19.1).bind fun n20 =>
    (x11a).bind fun p21 =>
    if 0 ≤ (n20 : Int) ∧ n20 < ((x11n : Nat) : Int) then
    ((ldA r19.2.1 p21.1 (p21.2 + Int.toNat n20 * 2)).bind fun v22 =>
    (asI .i64 v22).bind fun n23 =>
    (x11a).bind fun p24 =>
    if 0 ≤ (n20 : Int) ∧ n20 < ((x11n : Nat) : Int) then
    ((ldA r19.2.1 p24.1 ((p24.2 + Int.toNat n20 * 2) + 1)).bind fun v25 =>
    (asI .i64 v25).bind fun n26 =>
    (x11a).bind fun p27 =>
    if 0 ≤ (n20 : Int) ∧ n20 < ((x11n : Nat) : Int) then
    ((ldA r19.2.1 p27.1 (p27.2 + Int.toNat n20 * 2)).bind fun v28 =>
    (asI .i64 v28).bind fun n29 =>
    (stA r19.2.1 (nx + 8) 0 (.agg [(.int .i64 2), (.int .i64 n23), (.int .i64 (wrapA .i64 (n26 - n29)))]) 3).bind fun b30 =>
    let h31 := AHeap.put r19.2.1 (nx + 8) (some b30)
    (cutA h31 x11a x11n x11c 2 none (some (.int .i64 n20)) none).bind fun s32 =>
    (srcS h31 s32.1 s32.2.1 2).bind fun q33 =>
    (appD h31 none 0 false 2 16 (r19.2.2 + 21) q33).bind fun e34 =>
    let h35 := AHeap.puts h31 e34.sets
    (cutA h35 x11a x11n x11c 2 (some (.int .i64 (wrapA .i64 (n20 + 1)))) none none).bind fun s36 =>
    (srcS h35 s36.1 s36.2.1 2).bind fun q37 =>
    (appD h35 e34.a e34.n e34.c 2 16 (r19.2.2 + 26) q37).bind fun e38 =>
    let h39 := AHeap.puts h35 e38.sets
    ifApart [((idsOf e34.sets), (rdOf x11a))]
    (F16_J4 call Y lf n0 x0a x0n x0c x1 x2 x10a x10n x10c e38.a e38.n e38.c x12 (some ((nx + 8), 0)) h39 (r19.2.2 + 28)))
    else none)
    else none)
    else none)
    else none)
    else
    (F16_J4 call Y lf n0 x0a x0n x0c x1 x2 x10a x10n x10c x11a x11n x11c x12 (some ((nx + 8), 0)) r12.2.1 (r12.2.2 + 11)))
    else
    (F16_J4 call Y lf n0 x0a x0n x0c x1 x2 x10a x10n x10c x11a x11n x11c x12 (some ((nx + 8), 0)) r12.2.1 (r12.2.2 + 11))))
    else none)
    else none := F16_J2_eq' go1 call Y lf n0 x0a x0n x0c x1 x2 x10a x10n x10c x11a x11n x11c x12 h nx

theorem F16_J3_eq' (J : StepF (AV × AHeap × Nat) → StepF (AV × AHeap × Nat)) (call : YldF → CallF) (Y : YldF) (lf : Nat) (x2 : Int) (x10a : Option (Nat × Nat)) (x10n : Nat) (x10c : Bool) (h : AHeap) (nx : Nat) : F16_J3' go1 J call Y lf x2 x10a x10n x10c h nx =
    (srcS h x10a x10n 3).bind fun q1 =>
    (appD h none 0 false 3 24 (nx + 2) q1).bind fun e2 =>
    let h3 := AHeap.puts h e2.sets
    (call Y 17 [(.int .i64 x2), (.slice e2.a e2.n e2.c)] h3 (nx + 11)).bind fun r4 =>
    (asTup 3 r4.1).bind fun d5 =>
    (asSl (d5.getD 0 .bad)).bind fun s6 =>
    (asSl (d5.getD 1 .bad)).bind fun s7 =>
    (asI .i64 (d5.getD 2 .bad)).bind fun n8 =>
    if ((n8 : Int) == 0) = true then
    (some ((.tuple [(.slice x10a x10n x10c), (.slice s6.1 s6.2.1 s6.2.2), (.slice s7.1 s7.2.1 s7.2.2), (.bool ((((s6.2.1 : Nat) : Int) : Int) == ((x10n : Nat) : Int)))]), r4.2.1, (r4.2.2 + 16)))
    else
    (some ((.tuple [(.slice x10a x10n x10c), (.slice s6.1 s6.2.1 s6.2.2), (.slice s7.1 s7.2.1 s7.2.2), (.bool false)]), r4.2.1, (r4.2.2 + 16))) := by kernel_rfl

theorem F16_J3_eq (call : YldF → CallF) (Y : YldF) (lf : Nat) (x2 : Int) (x10a : Option (Nat × Nat)) (x10n : Nat) (x10c : Bool) (h : AHeap) (nx : Nat) : F16_J3 call Y lf x2 x10a x10n x10c h nx =
    (srcS h x10a x10n 3).bind fun q1 =>
    (appD h none 0 false 3 24 (nx + 2) q1).bind fun e2 =>
    let h3 := AHeap.puts h e2.sets
    (call Y 17 [(.int .i64 x2), (.slice e2.a e2.n e2.c)] h3 (nx + 11)).bind fun r4 =>
    (asTup 3 r4.1).bind fun d5 =>
    (asSl (d5.getD 0 .bad)).bind fun s6 =>
    (asSl (d5.getD 1 .bad)).bind fun s7 =>
    (asI .i64 (d5.getD 2 .bad)).bind fun n8 =>
    if ((n8 : Int) == 0) = true then
    (some ((.tuple [(.slice x10a x10n x10c), (.slice s6.1 s6.2.1 s6.2.2), (.slice s7.1 s7.2.1 s7.2.2), (.bool ((((s6.2.1 : Nat) : Int) : Int) == ((x10n : Nat) : Int)))]), r4.2.1, (r4.2.2 + 16)))
    else
    (some ((.tuple [(.slice x10a x10n x10c), (.slice s6.1 s6.2.1 s6.2.2), (.slice s7.1 s7.2.1 s7.2.2), (.bool false)]), r4.2.1, (r4.2.2 + 16))) := F16_J3_eq' go1 call Y lf x2 x10a x10n x10c h nx

theorem F16_J4_eq' (J : StepF (AV × AHeap × Nat) → StepF (AV × AHeap × Nat)) (call : YldF → CallF) (Y : YldF) (lf : Nat) (n0 : Nat) (x0a : Option (Nat × Nat)) (x0n : Nat) (x0c : Bool) (x1 : Int) (x2 : Int) (x10a : Option (Nat × Nat)) (x10n : Nat) (x10c : Bool) (x11a : Option (Nat × Nat)) (x11n : Nat) (x11c : Bool) (x12 : Int) (x13 : Option (Nat × Nat)) (h : AHeap) (nx : Nat) : F16_J4' go1 J call Y lf n0 x0a x0n x0c x1 x2 x10a x10n x10c x11a x11n x11c x12 x13 h nx =
    (x13).bind fun p1 =>
    (ldR h p1.1 p1.2 3).bind fun l2 =>
    (asAgg 3 (AV.agg l2)).bind fun d3 =>
    (asI .i64 (d3.getD 0 .bad)).bind fun n4 =>
    (asI .i64 (d3.getD 1 .bad)).bind fun n5 =>
    (asI .i64 (d3.getD 2 .bad)).bind fun n6 =>
    let h7 := AHeap.put h (nx + 2) (some ⟨[(.int .i64 n4), (.int .i64 n5), (.int .i64 n6)], 3, true⟩)
    (srcS h7 (some ((nx + 2), 0)) 1 3).bind fun q8 =>
    (appD h7 x10a x10n x10c 3 24 (nx + 3) q8).bind fun e9 =>
    let h10 := AHeap.puts h7 e9.sets
    (srcS h10 e9.a e9.n 3).bind fun q11 =>
    (appD h10 none 0 false 3 24 (nx + 7) q11).bind fun e12 =>
    let h13 := AHeap.puts h10 e12.sets
    (call Y 17 [(.int .i64 x2), (.slice e12.a e12.n e12.c)] h13 (nx + 16)).bind fun r14 =>
    (asTup 3 r14.1).bind fun d15 =>
    (asSl (d15.getD 0 .bad)).bind fun s16 =>
    (asSl (d15.getD 1 .bad)).bind fun s17 =>
    (asI .i64 (d15.getD 2 .bad)).bind fun n18 =>
    if ((n18 : Int) != 0) = true then
    (some ((.tuple [(.slice none 0 false), (.slice none 0 false), (.slice none 0 false), (.bool false)]), r14.2.1, (r14.2.2 + 13)))
    else
    (if ((((s16.2.1 : Nat) : Int) : Int) != ((e9.n : Nat) : Int)) = true then
    (some ((.tuple [(.slice none 0 false), (.slice none 0 false), (.slice none 0 false), (.bool false)]), r14.2.1, (r14.2.2 + 13)))
    else
    (F16_J5' J J call Y lf n0 x0a x0n x0c x1 x2 e9.a e9.n e9.c x11a x11n x11c x12 x13 s16.1 s16.2.1 s16.2.2 r14.2.1 (r14.2.2 + 9))) := by kernel_rfl

theorem F16_J4_eq (call : YldF → CallF) (Y : YldF) (lf : Nat) (n0 : Nat) (x0a : Option (Nat × Nat)) (x0n : Nat) (x0c : Bool) (x1 : Int) (x2 : Int) (x10a : Option (Nat × Nat)) (x10n : Nat) (x10c : Bool) (x11a : Option (Nat × Nat)) (x11n : Nat) (x11c : Bool) (x12 : Int) (x13 : Option (Nat × Nat)) (h : AHeap) (nx : Nat) : F16_J4 call Y lf n0 x0a x0n x0c x1 x2 x10a x10n x10c x11a x11n x11c x12 x13 h nx =
    (x13).bind fun p1 =>
    (ldR h p1.1 p1.2 3).bind fun l2 =>
    (asAgg 3 (AV.agg l2)).bind fun d3 =>
    (asI .i64 (d3.getD 0 .bad)).bind fun n4 =>
    (asI .i64 (d3.getD 1 .bad)).bind fun n5 =>
    (asI .i64 (d3.getD 2 .bad)).bind fun n6 =>
    let h7 := AHeap.put h (nx + 2) (some ⟨[(.int .i64 n4), (.int .i64 n5), (.int .i64 n6)], 3, true⟩)
    (srcS h7 (some ((nx + 2), 0)) 1 3).bind fun q8 =>
    (appD h7 x10a x10n x10c 3 24 (nx + 3) q8).bind fun e9 =>
    let h10 := AHeap.puts h7 e9.sets
    (srcS h10 e9.a e9.n 3).bind fun q11 =>
    (appD h10 none 0 false 3 24 (nx + 7) q11).bind fun e12 =>
    let h13 := AHeap.puts h10 e12.sets
    (call Y 17 [(.int .i64 x2), (.slice e12.a e12.n e12.c)] h13 (nx + 16)).bind fun r14 =>
    (asTup 3 r14.1).bind fun d15 =>
    (asSl (d15.getD 0 .bad)).bind fun s16 =>
    (asSl (d15.getD 1 .bad)).bind fun s17 =>
    (asI .i64 (d15.getD 2 .bad)).bind fun n18 =>
    if ((n18 : Int) != 0) = true then
    (some ((.tuple [(.slice none 0 false), (.slice none 0 false), (.slice none 0 false), (.bool false)]), r14.2.1, (r14.2.2 + 13)))
    else
    (if ((((s16.2.1 : Nat) : Int) : Int) != ((e9.n : Nat) : Int)) = true then
    (some ((.tuple [(.slice none 0 false), (.slice none 0 false), (.slice none 0 false), (.bool false)]), r14.2.1, (r14.2.2 + 13)))
    else
    (F16_J5 call Y lf n0 x0a x0n x0c x1 x2 e9.a e9.n e9.c x11a x11n x11c x12 x13 s16.1 s16.2.1 s16.2.2 r14.2.1 (r14.2.2 + 9))) := F16_J4_eq' go1 call Y lf n0 x0a x0n x0c x1 x2 x10a x10n x10c x11a x11n x11c x12 x13 h nx

theorem F16_J5_eq' (J : StepF (AV × AHeap × Nat) → StepF (AV × AHeap × Nat)) (call : YldF → CallF) (Y : YldF) (lf : Nat) (n0 : Nat) (x0a : Option (Nat × Nat)) (x0n : Nat) (x0c : Bool) (x1 : Int) (x2 : Int) (x10a : Option (Nat × Nat)) (x10n : Nat) (x10c : Bool) (x11a : Option (Nat × Nat)) (x11n : Nat) (x11c : Bool) (x12 : Int) (x13 : Option (Nat × Nat)) (x16a : Option (Nat × Nat)) (x16n : Nat) (x16c : Bool) (h : AHeap) (nx : Nat) : F16_J5' go1 J call Y lf n0 x0a x0n x0c x1 x2 x10a x10n x10c x11a x11n x11c x12 x13 x16a x16n x16c h nx =
    (x16a).bind fun p1 =>
    if 0 ≤ ((wrapA .i64 (((x16n : Nat) : Int) - 1)) : Int) ∧ (wrapA .i64 (((x16n : Nat) : Int) - 1)) < ((x16n : Nat) : Int) then
    ((ldR h p1.1 (p1.2 + Int.toNat (wrapA .i64 (((x16n : Nat) : Int) - 1)) * 3) 3).bind fun l2 =>
    (asAgg 3 (AV.agg l2)).bind fun d3 =>
    (asI .i64 (d3.getD 0 .bad)).bind fun n4 =>
    (asI .i64 (d3.getD 1 .bad)).bind fun n5 =>
    (asI .i64 (d3.getD 2 .bad)).bind fun n6 =>
    let h7 := AHeap.put h (nx + 6) (some ⟨[(.int .i64 0), (.int .i64 0), (.int .i64 0)], 3, true⟩)
    (stA h7 (nx + 6) 0 (.agg [(.int .i64 n4), (.int .i64 n5), (.int .i64 n6)]) 3).bind fun b8 =>
    let h9 := AHeap.put h7 (nx + 6) (some b8)
    (x13).bind fun p10 =>
    (ldA h9 p10.1 p10.2).bind fun v11 =>
    (asI .i64 v11).bind fun n12 =>
    if ((n12 : Int) == 1) = true then
    ((ldA h9 (nx + 6) 0).bind fun v13 =>
    (asI .i64 v13).bind fun n14 =>
    if ((n14 : Int) == 0) = true then
    ((ldA h9 (nx + 6) 1).bind fun v15 =>
    (asI .i64 v15).bind fun n16 =>
    if (decide ((n16 : Int) < 0)) = true then
    (some ((.tuple [(.slice none 0 false), (.slice none 0 false), (.slice none 0 false), (.bool false)]), h9, (nx + 32)))
    else
    ((ldA h9 (nx + 6) 1).bind fun v17 =>
    (asI .i64 v17).bind fun n18 =>
    (x13).bind fun p19 =>
    (ldA h9 p19.1 (p19.2 + 2)).bind fun v20 =>
    (asI .i64 v20).bind fun n21 =>
    if (decide ((n18 : Int) > (wrapA .i64 (x2 - n21)))) = true then
    (some ((.tuple [(.slice none 0 false), (.slice none 0 false), (.slice none 0 false), (.bool false)]), h9, (nx + 32)))
    else
    (F16_J6' J J call Y lf n0 x0a x0n x0c x1 x2 x10a x10n x10c x11a x11n x11c x12 x13 (some ((nx + 6), 0)) h9 (nx + 28))))
    else
    (F16_L1' J J call Y lf n0 x0a x0n x0c x1 x2 x10a x10n x10c x11a x11n x11c (wrapA .i64 (x12 + 1)) h9 (nx + 19)))
    else
    (F16_L1' J J call Y lf n0 x0a x0n x0c x1 x2 x10a x10n x10c x11a x11n x11c (wrapA .i64 (x12 + 1)) h9 (nx + 19)))
    else none := by kernel_rfl

theorem F16_J5_eq (call : YldF → CallF) (Y : YldF) (lf : Nat) (n0 : Nat) (x0a : Option (Nat × Nat)) (x0n : Nat) (x0c : Bool) (x1 : Int) (x2 : Int) (x10a : Option (Nat × Nat)) (x10n : Nat) (x10c : Bool) (x11a : Option (Nat × Nat)) (x11n : Nat) (x11c : Bool) (x12 : Int) (x13 : Option (Nat × Nat)) (x16a : Option (Nat × Nat)) (x16n : Nat) (x16c : Bool) (h : AHeap) (nx : Nat) : F16_J5 call Y lf n0 x0a x0n x0c x1 x2 x10a x10n x10c x11a x11n x11c x12 x13 x16a x16n x16c h nx =
    (x16a).bind fun p1 =>
    if 0 ≤ ((wrapA .i64 (((x16n : Nat) : Int) - 1)) : Int) ∧ (wrapA .i64 (((x16n : Nat) : Int) - 1)) < ((x16n : Nat) : Int) then
    ((ldR h p1.1 (p1.2 + Int.toNat (wrapA .i64 (((x16n : Nat) : Int) - 1)) * 3) 3).bind fun l2 =>
    (asAgg 3 (AV.agg l2)).bind fun d3 =>
    (asI .i64 (d3.getD 0 .bad)).bind fun n4 =>
    (asI .i64 (d3.getD 1 .bad)).bind fun n5 =>
    (asI .i64 (d3.getD 2 .bad)).bind fun n6 =>
    let h7 := AHeap.put h (nx + 6) (some ⟨[(.int .i64 0), (.int .i64 0), (.int .i64 0)], 3, true⟩)
    (stA h7 (nx + 6) 0 (.agg [(.int .i64 n4), (.int .i64 n5), (.int .i64 n6)]) 3).bind fun b8 =>
    let h9 := AHeap.put h7 (nx + 6) (some b8)
    (x13).bind fun p10 =>
    (ldA h9 p10.1 p10.2).bind fun v11 =>
    (asI .i64 v11).bind fun n12 =>
    if ((n12 : Int) == 1) = true then
    ((ldA h9 (nx + 6) 0).bind fun v13 =>
    (asI .i64 v13).bind fun n14 =>
    if ((n14 : Int) == 0) = true then
    ((ldA h9 (nx + 6) 1).bind fun v15 =>
    (asI .i64 v15).bind fun n16 =>
    if (decide ((n16 : Int) < 0)) = true then
    (some ((.tuple [(.slice none 0 false), (.slice none 0 false), (.slice none 0 false), (.bool false)]), h9, (nx + 32)))
    else
    ((ldA h9 (nx + 6) 1).bind fun v17 =>
    (asI .i64 v17).bind fun n18 =>
    (x13).bind fun p19 =>
    (ldA h9 p19.1 (p19.2 + 2)).bind fun v20 =>
    (asI .i64 v20).bind fun n21 =>
    if (decide ((n18 : Int) > (wrapA .i64 (x2 - n21)))) = true then
    (some ((.tuple [(.slice none 0 false), (.slice none 0 false), (.slice none 0 false), (.bool false)]), h9, (nx + 32)))
    else
    (F16_J6 call Y lf n0 x0a x0n x0c x1 x2 x10a x10n x10c x11a x11n x11c x12 x13 (some ((nx + 6), 0)) h9 (nx + 28))))
    else
    (F16_L1 call Y lf n0 x0a x0n x0c x1 x2 x10a x10n x10c x11a x11n x11c (wrapA .i64 (x12 + 1)) h9 (nx + 19)))
    else
    (F16_L1 call Y lf n0 x0a x0n x0c x1 x2 x10a x10n x10c x11a x11n x11c (wrapA .i64 (x12 + 1)) h9 (nx + 19)))
    else none := F16_J5_eq' go1 call Y lf n0 x0a x0n x0c x1 x2 x10a x10n x10c x11a x11n x11c x12 x13 x16a x16n x16c h nx

theorem F16_J6_eq' (J : StepF (AV × AHeap × Nat) → StepF (AV × AHeap × Nat)) (call : YldF → CallF) (Y : YldF) (lf : Nat) (n0 : Nat) (x0a : Option (Nat × Nat)) (x0n : Nat) (x0c : Bool) (x1 : Int) (x2 : Int) (x10a : Option (Nat × Nat)) (x10n : Nat) (x10c : Bool) (x11a : Option (Nat × Nat)) (x11n : Nat) (x11c : Bool) (x12 : Int) (x13 : Option (Nat × Nat)) (x19 : Option (Nat × Nat)) (h : AHeap) (nx : Nat) : F16_J6' go1 J call Y lf n0 x0a x0n x0c x1 x2 x10a x10n x10c x11a x11n x11c x12 x13 x19 h nx =
    (x19).bind fun p1 =>
    (ldA h p1.1 (p1.2 + 1)).bind fun v2 =>
    (asI .i64 v2).bind fun n3 =>
    (x19).bind fun p4 =>
    (ldA h p4.1 (p4.2 + 1)).bind fun v5 =>
    (asI .i64 v5).bind fun n6 =>
    (x13).bind fun p7 =>
    (ldA h p7.1 (p7.2 + 2)).bind fun v8 =>
    (asI .i64 v8).bind fun n9 =>
    let h10 := AHeap.put h (nx + 9) (some ⟨[(.int .i64 n3), (.int .i64 (wrapA .i64 (n6 + n9)))], 2, true⟩)
    (srcS h10 (some ((nx + 9), 0)) 1 2).bind fun q11 =>
    (appD h10 x11a x11n x11c 2 16 (nx + 10) q11).bind fun e12 =>
    let h13 := AHeap.puts h10 e12.sets
    F16_L1' J J call Y lf n0 x0a x0n x0c x1 x2 x10a x10n x10c e12.a e12.n e12.c (wrapA .i64 (x12 + 1)) h13 (nx + 15) := by kernel_rfl

theorem F16_J6_eq (call : YldF → CallF) (Y : YldF) (lf : Nat) (n0 : Nat) (x0a : Option (Nat × Nat)) (x0n : Nat) (x0c : Bool) (x1 : Int) (x2 : Int) (x10a : Option (Nat × Nat)) (x10n : Nat) (x10c : Bool) (x11a : Option (Nat × Nat)) (x11n : Nat) (x11c : Bool) (x12 : Int) (x13 : Option (Nat × Nat)) (x19 : Option (Nat × Nat)) (h : AHeap) (nx : Nat) : F16_J6 call Y lf n0 x0a x0n x0c x1 x2 x10a x10n x10c x11a x11n x11c x12 x13 x19 h nx =
    (x19).bind fun p1 =>
    (ldA h p1.1 (p1.2 + 1)).bind fun v2 =>
    (asI .i64 v2).bind fun n3 =>
    (x19).bind fun p4 =>
    (ldA h p4.1 (p4.2 + 1)).bind fun v5 =>
    (asI .i64 v5).bind fun n6 =>
    (x13).bind fun p7 =>
    (ldA h p7.1 (p7.2 + 2)).bind fun v8 =>
    (asI .i64 v8).bind fun n9 =>
    let h10 := AHeap.put h (nx + 9) (some ⟨[(.int .i64 n3), (.int .i64 (wrapA .i64 (n6 + n9)))], 2, true⟩)
    (srcS h10 (some ((nx + 9), 0)) 1 2).bind fun q11 =>
    (appD h10 x11a x11n x11c 2 16 (nx + 10) q11).bind fun e12 =>
    let h13 := AHeap.puts h10 e12.sets
    F16_L1 call Y lf n0 x0a x0n x0c x1 x2 x10a x10n x10c e12.a e12.n e12.c (wrapA .i64 (x12 + 1)) h13 (nx + 15) := F16_J6_eq' go1 call Y lf n0 x0a x0n x0c x1 x2 x10a x10n x10c x11a x11n x11c x12 x13 x19 h nx

theorem F16_eq' (J : StepF (AV × AHeap × Nat) → StepF (AV × AHeap × Nat)) (n : Nat) (Y : YldF) (x0a : Option (Nat × Nat)) (x0n : Nat) (x0c : Bool) (x1 : Int) (x2 : Int) (h : AHeap) (nx : Nat) : rootJ J Try.prog keepT (callP Try.prog keepT n) Y n 16 [(.slice x0a x0n x0c), (.int .i64 x1), (.int .i64 x2)] h nx =
    F16_L1' J J (callP Try.prog keepT n) Y n n x0a x0n x0c x1 x2 none 0 false none 0 false 0 h (nx + 7) := by kernel_rfl

/-- quickset/quicksetkeep.Deeds -/
theorem F16_eq (n : Nat) (Y : YldF) (x0a : Option (Nat × Nat)) (x0n : Nat) (x0c : Bool) (x1 : Int) (x2 : Int) (h : AHeap) (nx : Nat) : callP Try.prog keepT (n + 1) Y 16 [(.slice x0a x0n x0c), (.int .i64 x1), (.int .i64 x2)] h nx =
    F16_L1 (callP Try.prog keepT n) Y n n x0a x0n x0c x1 x2 none 0 false none 0 false 0 h (nx + 7) := F16_eq' go1 n Y x0a x0n x0c x1 x2 h nx

noncomputable def c17 : Code := (Try.f17.body).getD .skip

noncomputable def r17 : List ResultVar := Try.f17.results.toList

noncomputable def F17_L1' (W J : StepF (AV × AHeap × Nat) → StepF (AV × AHeap × Nat)) (call : YldF → CallF) (Y : YldF) (lf : Nat) (n0 : Nat) (x7 : Option (Nat × Nat)) (x8a : Option (Nat × Nat)) (x8n : Nat) (x8c : Bool) (x23a : Option (Nat × Nat)) (x23n : Nat) (x23c : Bool) (x24 : Int) (x25 : Int) (h : AHeap) (nx : Nat) : Option (AV × AHeap × Nat) :=
  goK W J drawK (machOf Try.prog) call Y (keepT 17) lf c17 [1, 1, 1, 1, 1, 0, 1, 0, 9] [n0] (retK (machOf Try.prog) ⟨c17, 47, r17, keepT 17⟩) ⟨47, mkL [(7, (.ptr x7)), (8, (.slice x8a x8n x8c)), (23, (.slice x23a x23n x23c)), (24, (.int .i64 x24)), (25, (.int .i64 x25))]⟩ h nx

noncomputable def F17_L1 (call : YldF → CallF) (Y : YldF) (lf : Nat) (n0 : Nat) (x7 : Option (Nat × Nat)) (x8a : Option (Nat × Nat)) (x8n : Nat) (x8c : Bool) (x23a : Option (Nat × Nat)) (x23n : Nat) (x23c : Bool) (x24 : Int) (x25 : Int) (h : AHeap) (nx : Nat) : Option (AV × AHeap × Nat) := F17_L1' go1 go1 call Y lf n0 x7 x8a x8n x8c x23a x23n x23c x24 x25 h nx

theorem F17_L1_eq' (J : StepF (AV × AHeap × Nat) → StepF (AV × AHeap × Nat)) (call : YldF → CallF) (Y : YldF) (lf : Nat) (n0 : Nat) (x7 : Option (Nat × Nat)) (x8a : Option (Nat × Nat)) (x8n : Nat) (x8c : Bool) (x23a : Option (Nat × Nat)) (x23n : Nat) (x23c : Bool) (x24 : Int) (x25 : Int) (h : AHeap) (nx : Nat) : F17_L1' go1 J call Y lf (n0 + 1) x7 x8a x8n x8c x23a x23n x23c x24 x25 h nx =
    if (decide ((x25 : Int) < x24)) = true then
    ((x23a).bind fun p1 =>
    if 0 ≤ (x25 : Int) ∧ x25 < ((x23n : Nat) : Int) then
    ((ldR h p1.1 (p1.2 + Int.toNat x25 * 3) 3).bind fun l2 =>
    (asAgg 3 (AV.agg l2)).bind fun d3 =>
    (asI .i64 (d3.getD 0 .bad)).bind fun n4 =>
    (asI .i64 (d3.getD 1 .bad)).bind fun n5 =>
    (asI .i64 (d3.getD 2 .bad)).bind fun n6 =>
    let h7 := AHeap.put h (nx + 3) (some ⟨[(.int .i64 0), (.int .i64 0), (.int .i64 0)], 3, true⟩)
    (stA h7 (nx + 3) 0 (.agg [(.int .i64 n4), (.int .i64 n5), (.int .i64 n6)]) 3).bind fun b8 =>
    let h9 := AHeap.put h7 (nx + 3) (some b8)
    (ldR h9 (nx + 3) 0 3).bind fun l10 =>
    (asAgg 3 (AV.agg l10)).bind fun d11 =>
    (asI .i64 (d11.getD 0 .bad)).bind fun n12 =>
    (asI .i64 (d11.getD 1 .bad)).bind fun n13 =>
    (asI .i64 (d11.getD 2 .bad)).bind fun n14 =>
    (call Y 36 [(.ptr x7), (.agg [(.int .i64 n12), (.int .i64 n13), (.int .i64 n14)])] h9 (nx + 10)).bind fun r15 =>
    (asAgg 3 r15.1).bind fun d16 =>
    (asI .i64 (d16.getD 0 .bad)).bind fun n17 =>
    (asI .i64 (d16.getD 1 .bad)).bind fun n18 =>
    (asI .i64 (d16.getD 2 .bad)).bind fun n19 =>
    let h20 := AHeap.put r15.2.1 (nx + 8) (some ⟨[(.int .i64 0), (.int .i64 0), (.int .i64 0)], 3, true⟩)
    (stA h20 (nx + 8) 0 (.agg [(.int .i64 n17), (.int .i64 n18), (.int .i64 n19)]) 3).bind fun b21 =>
    let h22 := AHeap.put h20 (nx + 8) (some b21)
    (x7).bind fun p23 =>
    (ldA h22 p23.1 (p23.2 + 1)).bind fun v24 =>
    (asI .i64 v24).bind fun n25 =>
    (stA h22 (nx + 8) 2 (.int .i64 n25) 1).bind fun b26 =>
    let h27 := AHeap.put h22 (nx + 8) (some b26)
    (ldR h27 (nx + 8) 0 3).bind fun l28 =>
    (asAgg 3 (AV.agg l28)).bind fun d29 =>
    (asI .i64 (d29.getD 0 .bad)).bind fun n30 =>
    (asI .i64 (d29.getD 1 .bad)).bind fun n31 =>
    (asI .i64 (d29.getD 2 .bad)).bind fun n32 =>
    let h33 := AHeap.put h27 (r15.2.2 + 8) (some ⟨[(.int .i64 n30), (.int .i64 n31), (.int .i64 n32)], 3, true⟩)
    (srcS h33 (some ((r15.2.2 + 8), 0)) 1 3).bind fun q34 =>
    (appD h33 x8a x8n x8c 3 24 (r15.2.2 + 9) q34).bind fun e35 =>
    let h36 := AHeap.puts h33 e35.sets
    F17_L1' J J call Y lf n0 x7 e35.a e35.n e35.c x23a x23n x23c x24 (wrapA .i64 (x25 + 1)) h36 (r15.2.2 + 13))
    else none)
    else
    ((x7).bind fun p37 =>
    (ldA h p37.1 (p37.2 + 2)).bind fun v38 =>
    (asSl v38).bind fun s39 =>
    some ((.tuple [(.slice x8a x8n x8c), (.slice s39.1 s39.2.1 s39.2.2), (.int .i64 0)]), h, (nx + 9))) := by kernel_rfl

theorem F17_L1_eq (call : YldF → CallF) (Y : YldF) (lf : Nat) (n0 : Nat) (x7 : Option (Nat × Nat)) (x8a : Option (Nat × Nat)) (x8n : Nat) (x8c : Bool) (x23a : Option (Nat × Nat)) (x23n : Nat) (x23c : Bool) (x24 : Int) (x25 : Int) (h : AHeap) (nx : Nat) : F17_L1 call Y lf (n0 + 1) x7 x8a x8n x8c x23a x23n x23c x24 x25 h nx =
    if (decide ((x25 : Int) < x24)) = true then
    ((x23a).bind fun p1 =>
    if 0 ≤ (x25 : Int) ∧ x25 < ((x23n : Nat) : Int) then
    ((ldR h p1.1 (p1.2 + Int.toNat x25 * 3) 3).bind fun l2 =>
    (asAgg 3 (AV.agg l2)).bind fun d3 =>
    (asI .i64 (d3.getD 0 .bad)).bind fun n4 =>
    (asI .i64 (d3.getD 1 .bad)).bind fun n5 =>
    (asI .i64 (d3.getD 2 .bad)).bind fun n6 =>
    let h7 := AHeap.put h (nx + 3) (some ⟨[(.int .i64 0), (.int .i64 0), (.int .i64 0)], 3, true⟩)
    (stA h7 (nx + 3) 0 (.agg [(.int .i64 n4), (.int .i64 n5), (.int .i64 n6)]) 3).bind fun b8 =>
    let h9 := AHeap.put h7 (nx + 3) (some b8)
    (ldR h9 (nx + 3) 0 3).bind fun l10 =>
    (asAgg 3 (AV.agg l10)).bind fun d11 =>
    (asI .i64 (d11.getD 0 .bad)).bind fun n12 =>
    (asI .i64 (d11.getD 1 .bad)).bind fun n13 =>
    (asI .i64 (d11.getD 2 .bad)).bind fun n14 =>
    (call Y 36 [(.ptr x7), (.agg [(.int .i64 n12), (.int .i64 n13), (.int .i64 n14)])] h9 (nx + 10)).bind fun r15 =>
    (asAgg 3 r15.1).bind fun d16 =>
    (asI .i64 (d16.getD 0 .bad)).bind fun n17 =>
    (asI .i64 (d16.getD 1 .bad)).bind fun n18 =>
    (asI .i64 (d16.getD 2 .bad)).bind fun n19 =>
    let h20 := AHeap.put r15.2.1 (nx + 8) (some ⟨[(.int .i64 0), (.int .i64 0), (.int .i64 0)], 3, true⟩)
    (stA h20 (nx + 8) 0 (.agg [(.int .i64 n17), (.int .i64 n18), (.int .i64 n19)]) 3).bind fun b21 =>
    let h22 := AHeap.put h20 (nx + 8) (some b21)
    (x7).bind fun p23 =>
    (ldA h22 p23.1 (p23.2 + 1)).bind fun v24 =>
    (asI .i64 v24).bind fun n25 =>
    (stA h22 (nx + 8) 2 (.int .i64 n25) 1).bind fun b26 =>
    let h27 := AHeap.put h22 (nx + 8) (some b26)
    (ldR h27 (nx + 8) 0 3).bind fun l28 =>
    (asAgg 3 (AV.agg l28)).bind fun d29 =>
    (asI .i64 (d29.getD 0 .bad)).bind fun n30 =>
    (asI .i64 (d29.getD 1 .bad)).bind fun n31 =>
    (asI .i64 (d29.getD 2 .bad)).bind fun n32 =>
    let h33 := AHeap.put h27 (r15.2.2 + 8) (some ⟨[(.int .i64 n30), (.int .i64 n31), (.int .i64 n32)], 3, true⟩)
    (srcS h33 (some ((r15.2.2 + 8), 0)) 1 3).bind fun q34 =>
    (appD h33 x8a x8n x8c 3 24 (r15.2.2 + 9) q34).bind fun e35 =>
    let h36 := AHeap.puts h33 e35.sets
    F17_L1 call Y lf n0 x7 e35.a e35.n e35.c x23a x23n x23c x24 (wrapA .i64 (x25 + 1)) h36 (r15.2.2 + 13))
    else none)
    else
    ((x7).bind fun p37 =>
    (ldA h p37.1 (p37.2 + 2)).bind fun v38 =>
    (asSl v38).bind fun s39 =>
    some ((.tuple [(.slice x8a x8n x8c), (.slice s39.1 s39.2.1 s39.2.2), (.int .i64 0)]), h, (nx + 9))) := F17_L1_eq' go1 call Y lf n0 x7 x8a x8n x8c x23a x23n x23c x24 x25 h nx

theorem F17_L1_zero (call : YldF → CallF) (Y : YldF) (lf : Nat) (x7 : Option (Nat × Nat)) (x8a : Option (Nat × Nat)) (x8n : Nat) (x8c : Bool) (x23a : Option (Nat × Nat)) (x23n : Nat) (x23c : Bool) (x24 : Int) (x25 : Int) (h : AHeap) (nx : Nat) : F17_L1 call Y lf 0 x7 x8a x8n x8c x23a x23n x23c x24 x25 h nx = none := by kernel_rfl

theorem F17_eq' (J : StepF (AV × AHeap × Nat) → StepF (AV × AHeap × Nat)) (n : Nat) (Y : YldF) (x0 : Int) (x1a : Option (Nat × Nat)) (x1n : Nat) (x1c : Bool) (h : AHeap) (nx : Nat) : rootJ J Try.prog keepT (callP Try.prog keepT n) Y n 17 [(.int .i64 x0), (.slice x1a x1n x1c)] h nx =
    ((callP Try.prog keepT n) Y 35 [(.int .i64 x0)] h (nx + 6)).bind fun r1 =>
    (asB r1.1).bind fun t2 =>
    if (!t2) = true then
    (some ((.tuple [(.slice none 0 false), (.slice none 0 false), (.int .i64 2)]), r1.2.1, (r1.2.2 + 3)))
    else
    (if (decide ((((x1n : Nat) : Int) : Int) > 300)) = true then
    (some ((.tuple [(.slice none 0 false), (.slice none 0 false), (.int .i64 1)]), r1.2.1, (r1.2.2 + 6)))
    else
    (if (decide (0 ≤ (x0 : Int)) && decide ((x0 : Int) ≤ x0) && decide (((1 : Nat) : Int) * x0 ≤ 281474976710656) && decide ((x0 : Int) ≤ 9223372036854775807) && 1 != 0) = true then
    (let h3 := AHeap.put r1.2.1 (r1.2.2 + 4) (some ⟨(madeA [(.int .u8 0)] (Int.toNat x0 * 1)), 1, true⟩)
    let h4 := AHeap.put h3 (r1.2.2 + 7) (some ⟨[(.slice (some ((r1.2.2 + 4), 0)) (Int.toNat x0) (x0 == x0)), (.int .i64 x0), (.slice none 0 false)], 3, true⟩)
    F17_L1' J J (callP Try.prog keepT n) Y n n (some ((r1.2.2 + 7), 0)) none 0 false x1a x1n x1c ((x1n : Nat) : Int) 0 h4 (r1.2.2 + 13))
    else none)) := by kernel_rfl

/-- quickset/space.Play -/
theorem F17_eq (n : Nat) (Y : YldF) (x0 : Int) (x1a : Option (Nat × Nat)) (x1n : Nat) (x1c : Bool) (h : AHeap) (nx : Nat) : callP Try.prog keepT (n + 1) Y 17 [(.int .i64 x0), (.slice x1a x1n x1c)] h nx =
    ((callP Try.prog keepT n) Y 35 [(.int .i64 x0)] h (nx + 6)).bind fun r1 =>
    (asB r1.1).bind fun t2 =>
    if (!t2) = true then
    (some ((.tuple [(.slice none 0 false), (.slice none 0 false), (.int .i64 2)]), r1.2.1, (r1.2.2 + 3)))
    else
    (if (decide ((((x1n : Nat) : Int) : Int) > 300)) = true then
    (some ((.tuple [(.slice none 0 false), (.slice none 0 false), (.int .i64 1)]), r1.2.1, (r1.2.2 + 6)))
    else
    (if (decide (0 ≤ (x0 : Int)) && decide ((x0 : Int) ≤ x0) && decide (((1 : Nat) : Int) * x0 ≤ 281474976710656) && decide ((x0 : Int) ≤ 9223372036854775807) && 1 != 0) = true then
    (let h3 := AHeap.put r1.2.1 (r1.2.2 + 4) (some ⟨(madeA [(.int .u8 0)] (Int.toNat x0 * 1)), 1, true⟩)
    let h4 := AHeap.put h3 (r1.2.2 + 7) (some ⟨[(.slice (some ((r1.2.2 + 4), 0)) (Int.toNat x0) (x0 == x0)), (.int .i64 x0), (.slice none 0 false)], 3, true⟩)
    F17_L1 (callP Try.prog keepT n) Y n n (some ((r1.2.2 + 7), 0)) none 0 false x1a x1n x1c ((x1n : Nat) : Int) 0 h4 (r1.2.2 + 13))
    else none)) := F17_eq' go1 n Y x0 x1a x1n x1c h nx

noncomputable def c18 : Code := (Try.f18.body).getD .skip

noncomputable def r18 : List ResultVar := Try.f18.results.toList

noncomputable def F18_L1' (W J : StepF (AV × AHeap × Nat) → StepF (AV × AHeap × Nat)) (call : YldF → CallF) (Y : YldF) (lf : Nat) (n0 : Nat) (x0a : Option (Nat × Nat)) (x0n : Nat) (x0c : Bool) (x1 : Int) (x2a : Option (Nat × Nat)) (x2n : Nat) (x2c : Bool) (x7a : Option (Nat × Nat)) (x7n : Nat) (x7c : Bool) (x8 : Int) (h : AHeap) (nx : Nat) : Option (AV × AHeap × Nat) :=
  goK W J drawK (machOf Try.prog) call Y (keepT 18) lf c18 [1, 1, 0, 1, 0, 9] [n0] (retK (machOf Try.prog) ⟨c18, 64, r18, keepT 18⟩) ⟨64, mkL [(0, (.slice x0a x0n x0c)), (1, (.int .i64 x1)), (2, (.slice x2a x2n x2c)), (7, (.slice x7a x7n x7c)), (8, (.int .i64 x8))]⟩ h nx

noncomputable def F18_L1 (call : YldF → CallF) (Y : YldF) (lf : Nat) (n0 : Nat) (x0a : Option (Nat × Nat)) (x0n : Nat) (x0c : Bool) (x1 : Int) (x2a : Option (Nat × Nat)) (x2n : Nat) (x2c : Bool) (x7a : Option (Nat × Nat)) (x7n : Nat) (x7c : Bool) (x8 : Int) (h : AHeap) (nx : Nat) : Option (AV × AHeap × Nat) := F18_L1' go1 go1 call Y lf n0 x0a x0n x0c x1 x2a x2n x2c x7a x7n x7c x8 h nx

noncomputable def F18_J2' (W J : StepF (AV × AHeap × Nat) → StepF (AV × AHeap × Nat)) (call : YldF → CallF) (Y : YldF) (lf : Nat) (n0 : Nat) (x0a : Option (Nat × Nat)) (x0n : Nat) (x0c : Bool) (x1 : Int) (x2a : Option (Nat × Nat)) (x2n : Nat) (x2c : Bool) (x7a : Option (Nat × Nat)) (x7n : Nat) (x7c : Bool) (x8 : Int) (h : AHeap) (nx : Nat) : Option (AV × AHeap × Nat) :=
  goK W J drawK (machOf Try.prog) call Y (keepT 18) lf c18 [1, 1, 0, 1, 0, 0, 1] [n0] (retK (machOf Try.prog) ⟨c18, 64, r18, keepT 18⟩) ⟨64, mkL [(0, (.slice x0a x0n x0c)), (1, (.int .i64 x1)), (2, (.slice x2a x2n x2c)), (7, (.slice x7a x7n x7c)), (8, (.int .i64 x8))]⟩ h nx

noncomputable def F18_J2 (call : YldF → CallF) (Y : YldF) (lf : Nat) (n0 : Nat) (x0a : Option (Nat × Nat)) (x0n : Nat) (x0c : Bool) (x1 : Int) (x2a : Option (Nat × Nat)) (x2n : Nat) (x2c : Bool) (x7a : Option (Nat × Nat)) (x7n : Nat) (x7c : Bool) (x8 : Int) (h : AHeap) (nx : Nat) : Option (AV × AHeap × Nat) := F18_J2' go1 go1 call Y lf n0 x0a x0n x0c x1 x2a x2n x2c x7a x7n x7c x8 h nx

noncomputable def F18_J3' (W J : StepF (AV × AHeap × Nat) → StepF (AV × AHeap × Nat)) (call : YldF → CallF) (Y : YldF) (lf : Nat) (n0 : Nat) (x0a : Option (Nat × Nat)) (x0n : Nat) (x0c : Bool) (x1 : Int) (x2a : Option (Nat × Nat)) (x2n : Nat) (x2c : Bool) (x7a : Option (Nat × Nat)) (x7n : Nat) (x7c : Bool) (x8 : Int) (x9 : Option (Nat × Nat)) (h : AHeap) (nx : Nat) : Option (AV × AHeap × Nat) :=
  goK W J drawK (machOf Try.prog) call Y (keepT 18) lf c18 [1, 1, 0, 1, 0, 0, 1, 0, 0, 1, 1] [n0] (retK (machOf Try.prog) ⟨c18, 64, r18, keepT 18⟩) ⟨64, mkL [(0, (.slice x0a x0n x0c)), (1, (.int .i64 x1)), (2, (.slice x2a x2n x2c)), (7, (.slice x7a x7n x7c)), (8, (.int .i64 x8)), (9, (.ptr x9))]⟩ h nx

noncomputable def F18_J3 (call : YldF → CallF) (Y : YldF) (lf : Nat) (n0 : Nat) (x0a : Option (Nat × Nat)) (x0n : Nat) (x0c : Bool) (x1 : Int) (x2a : Option (Nat × Nat)) (x2n : Nat) (x2c : Bool) (x7a : Option (Nat × Nat)) (x7n : Nat) (x7c : Bool) (x8 : Int) (x9 : Option (Nat × Nat)) (h : AHeap) (nx : Nat) : Option (AV × AHeap × Nat) := F18_J3' go1 go1 call Y lf n0 x0a x0n x0c x1 x2a x2n x2c x7a x7n x7c x8 x9 h nx

theorem F18_L1_eq' (J : StepF (AV × AHeap × Nat) → StepF (AV × AHeap × Nat)) (call : YldF → CallF) (Y : YldF) (lf : Nat) (n0 : Nat) (x0a : Option (Nat × Nat)) (x0n : Nat) (x0c : Bool) (x1 : Int) (x2a : Option (Nat × Nat)) (x2n : Nat) (x2c : Bool) (x7a : Option (Nat × Nat)) (x7n : Nat) (x7c : Bool) (x8 : Int) (h : AHeap) (nx : Nat) : F18_L1' go1 J call Y lf (n0 + 1) x0a x0n x0c x1 x2a x2n x2c x7a x7n x7c x8 h nx =
    if (decide ((x8 : Int) < ((x0n : Nat) : Int))) = true then
    (if (decide ((x8 : Int) < x1)) = true then
    (F18_J2' J J call Y lf n0 x0a x0n x0c x1 x2a x2n x2c x7a x7n x7c x8 h (nx + 9))
    else
    (some ((.slice x7a x7n x7c), h, (nx + 11))))
    else
    (some ((.slice x7a x7n x7c), h, (nx + 11))) := by kernel_rfl

theorem F18_L1_eq (call : YldF → CallF) (Y : YldF) (lf : Nat) (n0 : Nat) (x0a : Option (Nat × Nat)) (x0n : Nat) (x0c : Bool) (x1 : Int) (x2a : Option (Nat × Nat)) (x2n : Nat) (x2c : Bool) (x7a : Option (Nat × Nat)) (x7n : Nat) (x7c : Bool) (x8 : Int) (h : AHeap) (nx : Nat) : F18_L1 call Y lf (n0 + 1) x0a x0n x0c x1 x2a x2n x2c x7a x7n x7c x8 h nx =
    if (decide ((x8 : Int) < ((x0n : Nat) : Int))) = true then
    (if (decide ((x8 : Int) < x1)) = true then
    (F18_J2 call Y lf n0 x0a x0n x0c x1 x2a x2n x2c x7a x7n x7c x8 h (nx + 9))
    else
    (some ((.slice x7a x7n x7c), h, (nx + 11))))
    else
    (some ((.slice x7a x7n x7c), h, (nx + 11))) := F18_L1_eq' go1 call Y lf n0 x0a x0n x0c x1 x2a x2n x2c x7a x7n x7c x8 h nx

theorem F18_L1_zero (call : YldF → CallF) (Y : YldF) (lf : Nat) (x0a : Option (Nat × Nat)) (x0n : Nat) (x0c : Bool) (x1 : Int) (x2a : Option (Nat × Nat)) (x2n : Nat) (x2c : Bool) (x7a : Option (Nat × Nat)) (x7n : Nat) (x7c : Bool) (x8 : Int) (h : AHeap) (nx : Nat) : F18_L1 call Y lf 0 x0a x0n x0c x1 x2a x2n x2c x7a x7n x7c x8 h nx = none := by kernel_rfl

theorem F18_J2_eq' (J : StepF (AV × AHeap × Nat) → StepF (AV × AHeap × Nat)) (call : YldF → CallF) (Y : YldF) (lf : Nat) (n0 : Nat) (x0a : Option (Nat × Nat)) (x0n : Nat) (x0c : Bool) (x1 : Int) (x2a : Option (Nat × Nat)) (x2n : Nat) (x2c : Bool) (x7a : Option (Nat × Nat)) (x7n : Nat) (x7c : Bool) (x8 : Int) (h : AHeap) (nx : Nat) : F18_J2' go1 J call Y lf n0 x0a x0n x0c x1 x2a x2n x2c x7a x7n x7c x8 h nx =
    (x0a).bind fun p1 =>
    if 0 ≤ (x8 : Int) ∧ x8 < ((x0n : Nat) : Int) then
    ((ldA h p1.1 (p1.2 + Int.toNat x8 * 4)).bind fun v2 =>
    (asI .i64 v2).bind fun n3 =>
    (call Y 15 [(.int .i64 n3), (.int .i64 ((x2n : Nat) : Int))] h (nx + 20)).bind fun r4 =>
    (asI .i64 r4.1).bind fun n5 =>
    (x2a).bind fun p6 =>
    if 0 ≤ (n5 : Int) ∧ n5 < ((x2n : Nat) : Int) then
    ((ldA r4.2.1 p6.1 (p6.2 + Int.toNat n5 * 1)).bind fun v7 =>
    (asI .i64 v7).bind fun n8 =>
    (x0a).bind fun p9 =>
    if 0 ≤ (x8 : Int) ∧ x8 < ((x0n : Nat) : Int) then
    ((ldA r4.2.1 p9.1 ((p9.2 + Int.toNat x8 * 4) + 1)).bind fun v10 =>
    (asI .i64 v10).bind fun n11 =>
    (call Y 15 [(.int .i64 n11), (.int .i64 8)] r4.2.1 r4.2.2).bind fun r12 =>
    (asI .i64 r12.1).bind fun n13 =>
    let h14 := AHeap.put r12.2.1 (nx + 18) (some ⟨[(.int .i64 0), (.int .i64 0), (.int .i64 0), (.slice none 0 false)], 4, true⟩)
    (stA h14 (nx + 18) 0 (.agg [(.int .i64 n8), (.int .i64 n13), (.int .i64 0), (.slice none 0 false)]) 4).bind fun b15 =>
    let h16 := AHeap.put h14 (nx + 18) (some b15)
    ifApart [([(nx + 18)], [p1.1]), ([(nx + 18)], [p6.1]), ([(nx + 18)], [p9.1])]
    (ifKept [(h, r4.2.1, [p9.1]), (r4.2.1, r12.2.1, [p6.1])]
    (ifRob (callC (call Y) Y) [⟨(.fn 15), [(.int .i64 n3), (.int .i64 ((x2n : Nat) : Int))], (.int .i64 n5), h, r4.2.1, (nx + 20), r4.2.2, [(nx + 18)]⟩, ⟨(.fn 15), [(.int .i64 n11), (.int .i64 8)], (.int .i64 n13), r4.2.1, r12.2.1, r4.2.2, r12.2.2, [(nx + 18)]⟩]
    ((ldA h16 (nx + 18) 0).bind fun v17 =>
    (asI .i64 v17).bind fun n18 =>
    if ((n18 : Int) == 1) = true then
    (if ((n18 : Int) == 1) = true then
    ((x0a).bind fun p19 =>
    if 0 ≤ (x8 : Int) ∧ x8 < ((x0n : Nat) : Int) then
    ((ldA h16 p19.1 ((p19.2 + Int.toNat x8 * 4) + 2)).bind fun v20 =>
    (asI .i64 v20).bind fun n21 =>
    (call Y 22 [(.int .i64 n21)] h16 (r12.2.2 + 12)).bind fun r22 =>
    (asSl r22.1).bind fun s23 =>
    (stA r22.2.1 (nx + 18) 3 (.slice s23.1 s23.2.1 s23.2.2) 1).bind fun b24 =>
    let h25 := AHeap.put r22.2.1 (nx + 18) (some b24)
    F18_J3' J J call Y lf n0 x0a x0n x0c x1 x2a x2n x2c x7a x7n x7c x8 (some ((nx + 18), 0)) h25 r22.2.2)
    else none)
    else
    (if ((n18 : Int) == 4) = true then
    ((x0a).bind fun p26 =>
    if 0 ≤ (x8 : Int) ∧ x8 < ((x0n : Nat) : Int) then
    ((ldA h16 p26.1 ((p26.2 + Int.toNat x8 * 4) + 3)).bind fun v27 =>
    (asI .i64 v27).bind fun n28 =>
    (stA h16 (nx + 18) 2 (.int .i64 n28) 1).bind fun b29 =>
    let h30 := AHeap.put h16 (nx + 18) (some b29)
    F18_J3' J J call Y lf n0 x0a x0n x0c x1 x2a x2n x2c x7a x7n x7c x8 (some ((nx + 18), 0)) h30 (r12.2.2 + 13))
    else none)
    else
    (F18_J3' J J call Y lf n0 x0a x0n x0c x1 x2a x2n x2c x7a x7n x7c x8 (some ((nx + 18), 0)) h16 (r12.2.2 + 6))))
    else
    (if ((n18 : Int) == 6) = true then
    ((x0a).bind fun p31 =>
    if 0 ≤ (x8 : Int) ∧ x8 < ((x0n : Nat) : Int) then
    ((ldA h16 p31.1 ((p31.2 + Int.toNat x8 * 4) + 2)).bind fun v32 =>
    (asI .i64 v32).bind fun n33 =>
    (call Y 22 [(.int .i64 n33)] h16 (r12.2.2 + 14)).bind fun r34 =>
    (asSl r34.1).bind fun s35 =>
    (stA r34.2.1 (nx + 18) 3 (.slice s35.1 s35.2.1 s35.2.2) 1).bind fun b36 =>
    let h37 := AHeap.put r34.2.1 (nx + 18) (some b36)
    F18_J3' J J call Y lf n0 x0a x0n x0c x1 x2a x2n x2c x7a x7n x7c x8 (some ((nx + 18), 0)) h37 r34.2.2)
    else none)
    else
    (if ((n18 : Int) == 4) = true then
    ((x0a).bind fun p38 =>
    if 0 ≤ (x8 : Int) ∧ x8 < ((x0n : Nat) : Int) then
    ((ldA h16 p38.1 ((p38.2 + Int.toNat x8 * 4) + 3)).bind fun v39 =>
    (asI .i64 v39).bind fun n40 =>
    (stA h16 (nx + 18) 2 (.int .i64 n40) 1).bind fun b41 =>
    let h42 := AHeap.put h16 (nx + 18) (some b41)
    F18_J3' J J call Y lf n0 x0a x0n x0c x1 x2a x2n x2c x7a x7n x7c x8 (some ((nx + 18), 0)) h42 (r12.2.2 + 15))
    else none)
    else
    (F18_J3' J J call Y lf n0 x0a x0n x0c x1 x2a x2n x2c x7a x7n x7c x8 (some ((nx + 18), 0)) h16 (r12.2.2 + 8))))))))
    else none)
    else none)
    else none := by kernel_rfl

theorem F18_J2_eq (call : YldF → CallF) (Y : YldF) (lf : Nat) (n0 : Nat) (x0a : Option (Nat × Nat)) (x0n : Nat) (x0c : Bool) (x1 : Int) (x2a : Option (Nat × Nat)) (x2n : Nat) (x2c : Bool) (x7a : Option (Nat × Nat)) (x7n : Nat) (x7c : Bool) (x8 : Int) (h : AHeap) (nx : Nat) : F18_J2 call Y lf n0 x0a x0n x0c x1 x2a x2n x2c x7a x7n x7c x8 h nx =
    (x0a).bind fun p1 =>
    if 0 ≤ (x8 : Int) ∧ x8 < ((x0n : Nat) : Int) then
    ((ldA h p1.1 (p1.2 + Int.toNat x8 * 4)).bind fun v2 =>
    (asI .i64 v2).bind fun n3 =>
    (call Y 15 [(.int .i64 n3), (.int .i64 ((x2n : Nat) : Int))] h (nx + 20)).bind fun r4 =>
    (asI .i64 r4.1).bind fun n5 =>
    (x2a).bind fun p6 =>
    if 0 ≤ (n5 : Int) ∧ n5 < ((x2n : Nat) : Int) then
    ((ldA r4.2.1 p6.1 (p6.2 + Int.toNat n5 * 1)).bind fun v7 =>
    (asI .i64 v7).bind fun n8 =>
    (x0a).bind fun p9 =>
    if 0 ≤ (x8 : Int) ∧ x8 < ((x0n : Nat) : Int) then
    ((ldA r4.2.1 p9.1 ((p9.2 + Int.toNat x8 * 4) + 1)).bind fun v10 =>
    (asI .i64 v10).bind fun n11 =>
    (call Y 15 [(.int .i64 n11), (.int .i64 8)] r4.2.1 r4.2.2).bind fun r12 =>
    (asI .i64 r12.1).bind fun n13 =>
    let h14 := AHeap.put r12.2.1 (nx + 18) (some ⟨[(.int .i64 0), (.int .i64 0), (.int .i64 0), (.slice none 0 false)], 4, true⟩)
    (stA h14 (nx + 18) 0 (.agg [(.int .i64 n8), (.int .i64 n13), (.int .i64 0), (.slice none 0 false)]) 4).bind fun b15 =>
    let h16 := AHeap.put h14 (nx + 18) (some b15)
    ifApart [([(nx + 18)], [p1.1]), ([(nx + 18)], [p6.1]), ([(nx + 18)], [p9.1])]
    (ifKept [(h, r4.2.1, [p9.1]), (r4.2.1, r12.2.1, [p6.1])]
    (ifRob (callC (call Y) Y) [⟨(.fn 15), [(.int .i64 n3), (.int .i64 ((x2n : Nat) : Int))], (.int .i64 n5), h, r4.2.1, (nx + 20), r4.2.2, [(nx + 18)]⟩, ⟨(.fn 15), [(.int .i64 n11), (.int .i64 8)], (.int .i64 n13), r4.2.1, r12.2.1, r4.2.2, r12.2.2, [(nx + 18)]⟩]
    ((ldA h16 (nx + 18) 0).bind fun v17 =>
    (asI .i64 v17).bind fun n18 =>
    if ((n18 : Int) == 1) = true then
    (if ((n18 : Int) == 1) = true then
    ((x0a).bind fun p19 =>
    if 0 ≤ (x8 : Int) ∧ x8 < ((x0n : Nat) : Int) then
    ((ldA h16 p19.1 ((p19.2 + Int.toNat x8 * 4) + 2)).bind fun v20 =>
    (asI .i64 v20).bind fun n21 =>
    (call Y 22 [(.int .i64 n21)] h16 (r12.2.2 + 12)).bind fun r22 =>
    (asSl r22.1).bind fun s23 =>
    (stA r22.2.1 (nx + 18) 3 (.slice s23.1 s23.2.1 s23.2.2) 1).bind fun b24 =>
    let h25 := AHeap.put r22.2.1 (nx + 18) (some b24)
    F18_J3 call Y lf n0 x0a x0n x0c x1 x2a x2n x2c x7a x7n x7c x8 (some ((nx + 18), 0)) h25 r22.2.2)
    else none)
    else
    (if ((n18 : Int) == 4) = true then
    ((x0a).bind fun p26 =>
    if 0 ≤ (x8 : Int) ∧ x8 < ((x0n : Nat) : Int) then
    ((ldA h16 p26.1 ((p26.2 + Int.toNat x8 * 4) + 3)).bind fun v27 =>
    (asI .i64 v27).bind fun n28 =>
    (stA h16 (nx + 18) 2 (.int .i64 n28) 1).bind fun b29 =>
    let h30 := AHeap.put h16 (nx + 18) (some b29)
    F18_J3 call Y lf n0 x0a x0n x0c x1 x2a x2n x2c x7a x7n x7c x8 (some ((nx + 18), 0)) h30 (r12.2.2 + 13))
    else none)
    else
    (F18_J3 call Y lf n0 x0a x0n x0c x1 x2a x2n x2c x7a x7n x7c x8 (some ((nx + 18), 0)) h16 (r12.2.2 + 6))))
    else
    (if ((n18 : Int) == 6) = true then
    ((x0a).bind fun p31 =>
    if 0 ≤ (x8 : Int) ∧ x8 < ((x0n : Nat) : Int) then
    ((ldA h16 p31.1 ((p31.2 + Int.toNat x8 * 4) + 2)).bind fun v32 =>
    (asI .i64 v32).bind fun n33 =>
    (call Y 22 [(.int .i64 n33)] h16 (r12.2.2 + 14)).bind fun r34 =>
    (asSl r34.1).bind fun s35 =>
    (stA r34.2.1 (nx + 18) 3 (.slice s35.1 s35.2.1 s35.2.2) 1).bind fun b36 =>
    let h37 := AHeap.put r34.2.1 (nx + 18) (some b36)
    F18_J3 call Y lf n0 x0a x0n x0c x1 x2a x2n x2c x7a x7n x7c x8 (some ((nx + 18), 0)) h37 r34.2.2)
    else none)
    else
    (if ((n18 : Int) == 4) = true then
    ((x0a).bind fun p38 =>
    if 0 ≤ (x8 : Int) ∧ x8 < ((x0n : Nat) : Int) then
    ((ldA h16 p38.1 ((p38.2 + Int.toNat x8 * 4) + 3)).bind fun v39 =>
    (asI .i64 v39).bind fun n40 =>
    (stA h16 (nx + 18) 2 (.int .i64 n40) 1).bind fun b41 =>
    let h42 := AHeap.put h16 (nx + 18) (some b41)
    F18_J3 call Y lf n0 x0a x0n x0c x1 x2a x2n x2c x7a x7n x7c x8 (some ((nx + 18), 0)) h42 (r12.2.2 + 15))
    else none)
    else
    (F18_J3 call Y lf n0 x0a x0n x0c x1 x2a x2n x2c x7a x7n x7c x8 (some ((nx + 18), 0)) h16 (r12.2.2 + 8))))))))
    else none)
    else none)
    else none := F18_J2_eq' go1 call Y lf n0 x0a x0n x0c x1 x2a x2n x2c x7a x7n x7c x8 h nx

theorem F18_J3_eq' (J : StepF (AV × AHeap × Nat) → StepF (AV × AHeap × Nat)) (call : YldF → CallF) (Y : YldF) (lf : Nat) (n0 : Nat) (x0a : Option (Nat × Nat)) (x0n : Nat) (x0c : Bool) (x1 : Int) (x2a : Option (Nat × Nat)) (x2n : Nat) (x2c : Bool) (x7a : Option (Nat × Nat)) (x7n : Nat) (x7c : Bool) (x8 : Int) (x9 : Option (Nat × Nat)) (h : AHeap) (nx : Nat) : F18_J3' go1 J call Y lf n0 x0a x0n x0c x1 x2a x2n x2c x7a x7n x7c x8 x9 h nx =
    (x9).bind fun p1 =>
    (ldR h p1.1 p1.2 4).bind fun l2 =>
    (asAgg 4 (AV.agg l2)).bind fun d3 =>
    (asI .i64 (d3.getD 0 .bad)).bind fun n4 =>
    (asI .i64 (d3.getD 1 .bad)).bind fun n5 =>
    (asI .i64 (d3.getD 2 .bad)).bind fun n6 =>
    (asSl (d3.getD 3 .bad)).bind fun s7 =>
    let h8 := AHeap.put h (nx + 2) (some ⟨[(.int .i64 n4), (.int .i64 n5), (.int .i64 n6), (.slice s7.1 s7.2.1 s7.2.2)], 4, true⟩)
    (srcS h8 (some ((nx + 2), 0)) 1 4).bind fun q9 =>
    (appD h8 x7a x7n x7c 4 48 (nx + 3) q9).bind fun e10 =>
    let h11 := AHeap.puts h8 e10.sets
    F18_L1' J J call Y lf n0 x0a x0n x0c x1 x2a x2n x2c e10.a e10.n e10.c (wrapA .i64 (x8 + 1)) h11 (nx + 8) := by kernel_rfl

theorem F18_J3_eq (call : YldF → CallF) (Y : YldF) (lf : Nat) (n0 : Nat) (x0a : Option (Nat × Nat)) (x0n : Nat) (x0c : Bool) (x1 : Int) (x2a : Option (Nat × Nat)) (x2n : Nat) (x2c : Bool) (x7a : Option (Nat × Nat)) (x7n : Nat) (x7c : Bool) (x8 : Int) (x9 : Option (Nat × Nat)) (h : AHeap) (nx : Nat) : F18_J3 call Y lf n0 x0a x0n x0c x1 x2a x2n x2c x7a x7n x7c x8 x9 h nx =
    (x9).bind fun p1 =>
    (ldR h p1.1 p1.2 4).bind fun l2 =>
    (asAgg 4 (AV.agg l2)).bind fun d3 =>
    (asI .i64 (d3.getD 0 .bad)).bind fun n4 =>
    (asI .i64 (d3.getD 1 .bad)).bind fun n5 =>
    (asI .i64 (d3.getD 2 .bad)).bind fun n6 =>
    (asSl (d3.getD 3 .bad)).bind fun s7 =>
    let h8 := AHeap.put h (nx + 2) (some ⟨[(.int .i64 n4), (.int .i64 n5), (.int .i64 n6), (.slice s7.1 s7.2.1 s7.2.2)], 4, true⟩)
    (srcS h8 (some ((nx + 2), 0)) 1 4).bind fun q9 =>
    (appD h8 x7a x7n x7c 4 48 (nx + 3) q9).bind fun e10 =>
    let h11 := AHeap.puts h8 e10.sets
    F18_L1 call Y lf n0 x0a x0n x0c x1 x2a x2n x2c e10.a e10.n e10.c (wrapA .i64 (x8 + 1)) h11 (nx + 8) := F18_J3_eq' go1 call Y lf n0 x0a x0n x0c x1 x2a x2n x2c x7a x7n x7c x8 x9 h nx

theorem F18_eq' (J : StepF (AV × AHeap × Nat) → StepF (AV × AHeap × Nat)) (n : Nat) (Y : YldF) (x0a : Option (Nat × Nat)) (x0n : Nat) (x0c : Bool) (x1 : Int) (x2a : Option (Nat × Nat)) (x2n : Nat) (x2c : Bool) (h : AHeap) (nx : Nat) : rootJ J Try.prog keepT (callP Try.prog keepT n) Y n 18 [(.slice x0a x0n x0c), (.int .i64 x1), (.slice x2a x2n x2c)] h nx =
    F18_L1' J J (callP Try.prog keepT n) Y n n x0a x0n x0c x1 x2a x2n x2c none 0 false 0 h (nx + 3) := by kernel_rfl

/-- quickset/quicksetkeep.Acts -/
theorem F18_eq (n : Nat) (Y : YldF) (x0a : Option (Nat × Nat)) (x0n : Nat) (x0c : Bool) (x1 : Int) (x2a : Option (Nat × Nat)) (x2n : Nat) (x2c : Bool) (h : AHeap) (nx : Nat) : callP Try.prog keepT (n + 1) Y 18 [(.slice x0a x0n x0c), (.int .i64 x1), (.slice x2a x2n x2c)] h nx =
    F18_L1 (callP Try.prog keepT n) Y n n x0a x0n x0c x1 x2a x2n x2c none 0 false 0 h (nx + 3) := F18_eq' go1 n Y x0a x0n x0c x1 x2a x2n x2c h nx

noncomputable def c19 : Code := (Try.f19.body).getD .skip

noncomputable def r19 : List ResultVar := Try.f19.results.toList

noncomputable def F19_L1' (W J : StepF (AV × AHeap × Nat) → StepF (AV × AHeap × Nat)) (call : YldF → CallF) (Y : YldF) (lf : Nat) (n0 : Nat) (x0a : Option (Nat × Nat)) (x0n : Nat) (x0c : Bool) (x4a : Option (Nat × Nat)) (x4n : Nat) (x4c : Bool) (x5 : Int) (h : AHeap) (nx : Nat) : Option (AV × AHeap × Nat) :=
  goK W J drawK (machOf Try.prog) call Y (keepT 19) lf c19 [1, 1, 0, 1, 0, 9] [n0] (retK (machOf Try.prog) ⟨c19, 62, r19, keepT 19⟩) ⟨62, mkL [(0, (.slice x0a x0n x0c)), (4, (.slice x4a x4n x4c)), (5, (.int .i64 x5))]⟩ h nx

noncomputable def F19_L1 (call : YldF → CallF) (Y : YldF) (lf : Nat) (n0 : Nat) (x0a : Option (Nat × Nat)) (x0n : Nat) (x0c : Bool) (x4a : Option (Nat × Nat)) (x4n : Nat) (x4c : Bool) (x5 : Int) (h : AHeap) (nx : Nat) : Option (AV × AHeap × Nat) := F19_L1' go1 go1 call Y lf n0 x0a x0n x0c x4a x4n x4c x5 h nx

noncomputable def F19_J2' (W J : StepF (AV × AHeap × Nat) → StepF (AV × AHeap × Nat)) (call : YldF → CallF) (Y : YldF) (lf : Nat) (x0a : Option (Nat × Nat)) (x0n : Nat) (x0c : Bool) (x6a : Option (Nat × Nat)) (x6n : Nat) (x6c : Bool) (h : AHeap) (nx : Nat) : Option (AV × AHeap × Nat) :=
  goK W J drawK (machOf Try.prog) call Y (keepT 19) lf c19 [1, 1, 1, 1, 1] [] (retK (machOf Try.prog) ⟨c19, 62, r19, keepT 19⟩) ⟨62, mkL [(0, (.slice x0a x0n x0c)), (6, (.slice x6a x6n x6c))]⟩ h nx

noncomputable def F19_J2 (call : YldF → CallF) (Y : YldF) (lf : Nat) (x0a : Option (Nat × Nat)) (x0n : Nat) (x0c : Bool) (x6a : Option (Nat × Nat)) (x6n : Nat) (x6c : Bool) (h : AHeap) (nx : Nat) : Option (AV × AHeap × Nat) := F19_J2' go1 go1 call Y lf x0a x0n x0c x6a x6n x6c h nx

noncomputable def F19_L3' (W J : StepF (AV × AHeap × Nat) → StepF (AV × AHeap × Nat)) (call : YldF → CallF) (Y : YldF) (lf : Nat) (n0 : Nat) (x0a : Option (Nat × Nat)) (x0n : Nat) (x0c : Bool) (x6a : Option (Nat × Nat)) (x6n : Nat) (x6c : Bool) (x8a : Option (Nat × Nat)) (x8n : Nat) (x8c : Bool) (x9 : Int) (h : AHeap) (nx : Nat) : Option (AV × AHeap × Nat) :=
  goK W J drawK (machOf Try.prog) call Y (keepT 19) lf c19 [1, 1, 1, 1, 1, 1, 0, 1, 0, 9] [n0] (retK (machOf Try.prog) ⟨c19, 62, r19, keepT 19⟩) ⟨62, mkL [(0, (.slice x0a x0n x0c)), (6, (.slice x6a x6n x6c)), (8, (.slice x8a x8n x8c)), (9, (.int .i64 x9))]⟩ h nx

noncomputable def F19_L3 (call : YldF → CallF) (Y : YldF) (lf : Nat) (n0 : Nat) (x0a : Option (Nat × Nat)) (x0n : Nat) (x0c : Bool) (x6a : Option (Nat × Nat)) (x6n : Nat) (x6c : Bool) (x8a : Option (Nat × Nat)) (x8n : Nat) (x8c : Bool) (x9 : Int) (h : AHeap) (nx : Nat) : Option (AV × AHeap × Nat) := F19_L3' go1 go1 call Y lf n0 x0a x0n x0c x6a x6n x6c x8a x8n x8c x9 h nx

noncomputable def F19_J4' (W J : StepF (AV × AHeap × Nat) → StepF (AV × AHeap × Nat)) (call : YldF → CallF) (Y : YldF) (lf : Nat) (n0 : Nat) (x0a : Option (Nat × Nat)) (x0n : Nat) (x0c : Bool) (x6a : Option (Nat × Nat)) (x6n : Nat) (x6c : Bool) (x8a : Option (Nat × Nat)) (x8n : Nat) (x8c : Bool) (x9 : Int) (x10 : Option (Nat × Nat)) (h : AHeap) (nx : Nat) : Option (AV × AHeap × Nat) :=
  goK W J drawK (machOf Try.prog) call Y (keepT 19) lf c19 [1, 1, 1, 1, 1, 1, 0, 1, 0, 0, 1, 0, 0, 1, 1] [n0] (retK (machOf Try.prog) ⟨c19, 62, r19, keepT 19⟩) ⟨62, mkL [(0, (.slice x0a x0n x0c)), (6, (.slice x6a x6n x6c)), (8, (.slice x8a x8n x8c)), (9, (.int .i64 x9)), (10, (.ptr x10))]⟩ h nx

noncomputable def F19_J4 (call : YldF → CallF) (Y : YldF) (lf : Nat) (n0 : Nat) (x0a : Option (Nat × Nat)) (x0n : Nat) (x0c : Bool) (x6a : Option (Nat × Nat)) (x6n : Nat) (x6c : Bool) (x8a : Option (Nat × Nat)) (x8n : Nat) (x8c : Bool) (x9 : Int) (x10 : Option (Nat × Nat)) (h : AHeap) (nx : Nat) : Option (AV × AHeap × Nat) := F19_J4' go1 go1 call Y lf n0 x0a x0n x0c x6a x6n x6c x8a x8n x8c x9 x10 h nx

theorem F19_L1_eq' (J : StepF (AV × AHeap × Nat) → StepF (AV × AHeap × Nat)) (call : YldF → CallF) (Y : YldF) (lf : Nat) (n0 : Nat) (x0a : Option (Nat × Nat)) (x0n : Nat) (x0c : Bool) (x4a : Option (Nat × Nat)) (x4n : Nat) (x4c : Bool) (x5 : Int) (h : AHeap) (nx : Nat) : F19_L1' go1 J call Y lf (n0 + 1) x0a x0n x0c x4a x4n x4c x5 h nx =
    if (decide ((x5 : Int) < 8)) = true then
    (let h1 := AHeap.put h (nx + 5) (some ⟨[(.int .i64 2), (.int .i64 x5), (.int .i64 0), (.slice none 0 false)], 4, true⟩)
    (srcS h1 (some ((nx + 5), 0)) 1 4).bind fun q2 =>
    (appD h1 x4a x4n x4c 4 48 (nx + 6) q2).bind fun e3 =>
    let h4 := AHeap.puts h1 e3.sets
    F19_L1' J J call Y lf n0 x0a x0n x0c e3.a e3.n e3.c (wrapA .i64 (x5 + 1)) h4 (nx + 11))
    else
    ((call Y 23 [(.int .i64 8), (.slice x4a x4n x4c)] h (nx + 9)).bind fun r5 =>
    (asTup 2 r5.1).bind fun d6 =>
    (asSl (d6.getD 0 .bad)).bind fun s7 =>
    (asI .i64 (d6.getD 1 .bad)).bind fun n8 =>
    if ((n8 : Int) != 0) = true then
    (some ((.tuple [(.slice none 0 false), (.bool false)]), r5.2.1, (r5.2.2 + 11)))
    else
    (if ((((s7.2.1 : Nat) : Int) : Int) != ((x4n : Nat) : Int)) = true then
    (some ((.tuple [(.slice none 0 false), (.bool false)]), r5.2.1, (r5.2.2 + 11)))
    else
    (F19_J2' J J call Y lf x0a x0n x0c s7.1 s7.2.1 s7.2.2 r5.2.1 (r5.2.2 + 9)))) := by kernel_rfl

theorem F19_L1_eq (call : YldF → CallF) (Y : YldF) (lf : Nat) (n0 : Nat) (x0a : Option (Nat × Nat)) (x0n : Nat) (x0c : Bool) (x4a : Option (Nat × Nat)) (x4n : Nat) (x4c : Bool) (x5 : Int) (h : AHeap) (nx : Nat) : F19_L1 call Y lf (n0 + 1) x0a x0n x0c x4a x4n x4c x5 h nx =
    if (decide ((x5 : Int) < 8)) = true then
    (let h1 := AHeap.put h (nx + 5) (some ⟨[(.int .i64 2), (.int .i64 x5), (.int .i64 0), (.slice none 0 false)], 4, true⟩)
    (srcS h1 (some ((nx + 5), 0)) 1 4).bind fun q2 =>
    (appD h1 x4a x4n x4c 4 48 (nx + 6) q2).bind fun e3 =>
    let h4 := AHeap.puts h1 e3.sets
    F19_L1 call Y lf n0 x0a x0n x0c e3.a e3.n e3.c (wrapA .i64 (x5 + 1)) h4 (nx + 11))
    else
    ((call Y 23 [(.int .i64 8), (.slice x4a x4n x4c)] h (nx + 9)).bind fun r5 =>
    (asTup 2 r5.1).bind fun d6 =>
    (asSl (d6.getD 0 .bad)).bind fun s7 =>
    (asI .i64 (d6.getD 1 .bad)).bind fun n8 =>
    if ((n8 : Int) != 0) = true then
    (some ((.tuple [(.slice none 0 false), (.bool false)]), r5.2.1, (r5.2.2 + 11)))
    else
    (if ((((s7.2.1 : Nat) : Int) : Int) != ((x4n : Nat) : Int)) = true then
    (some ((.tuple [(.slice none 0 false), (.bool false)]), r5.2.1, (r5.2.2 + 11)))
    else
    (F19_J2 call Y lf x0a x0n x0c s7.1 s7.2.1 s7.2.2 r5.2.1 (r5.2.2 + 9)))) := F19_L1_eq' go1 call Y lf n0 x0a x0n x0c x4a x4n x4c x5 h nx

theorem F19_L1_zero (call : YldF → CallF) (Y : YldF) (lf : Nat) (x0a : Option (Nat × Nat)) (x0n : Nat) (x0c : Bool) (x4a : Option (Nat × Nat)) (x4n : Nat) (x4c : Bool) (x5 : Int) (h : AHeap) (nx : Nat) : F19_L1 call Y lf 0 x0a x0n x0c x4a x4n x4c x5 h nx = none := by kernel_rfl

theorem F19_J2_eq' (J : StepF (AV × AHeap × Nat) → StepF (AV × AHeap × Nat)) (call : YldF → CallF) (Y : YldF) (lf : Nat) (x0a : Option (Nat × Nat)) (x0n : Nat) (x0c : Bool) (x6a : Option (Nat × Nat)) (x6n : Nat) (x6c : Bool) (h : AHeap) (nx : Nat) : F19_J2' go1 J call Y lf x0a x0n x0c x6a x6n x6c h nx =
    F19_L3' J J call Y lf lf x0a x0n x0c x6a x6n x6c none 0 false 0 h (nx + 2) := by kernel_rfl

theorem F19_J2_eq (call : YldF → CallF) (Y : YldF) (lf : Nat) (x0a : Option (Nat × Nat)) (x0n : Nat) (x0c : Bool) (x6a : Option (Nat × Nat)) (x6n : Nat) (x6c : Bool) (h : AHeap) (nx : Nat) : F19_J2 call Y lf x0a x0n x0c x6a x6n x6c h nx =
    F19_L3 call Y lf lf x0a x0n x0c x6a x6n x6c none 0 false 0 h (nx + 2) := F19_J2_eq' go1 call Y lf x0a x0n x0c x6a x6n x6c h nx

theorem F19_L3_eq' (J : StepF (AV × AHeap × Nat) → StepF (AV × AHeap × Nat)) (call : YldF → CallF) (Y : YldF) (lf : Nat) (n0 : Nat) (x0a : Option (Nat × Nat)) (x0n : Nat) (x0c : Bool) (x6a : Option (Nat × Nat)) (x6n : Nat) (x6c : Bool) (x8a : Option (Nat × Nat)) (x8n : Nat) (x8c : Bool) (x9 : Int) (h : AHeap) (nx : Nat) : F19_L3' go1 J call Y lf (n0 + 1) x0a x0n x0c x6a x6n x6c x8a x8n x8c x9 h nx =
    if (decide ((x9 : Int) < 8)) = true then
    ((x6a).bind fun p1 =>
    if 0 ≤ ((wrapA .i64 (((x0n : Nat) : Int) + x9)) : Int) ∧ (wrapA .i64 (((x0n : Nat) : Int) + x9)) < ((x6n : Nat) : Int) then
    ((ldR h p1.1 (p1.2 + Int.toNat (wrapA .i64 (((x0n : Nat) : Int) + x9)) * 2) 2).bind fun l2 =>
    (asAgg 2 (AV.agg l2)).bind fun d3 =>
    (asI .i64 (d3.getD 0 .bad)).bind fun n4 =>
    (asSl (d3.getD 1 .bad)).bind fun s5 =>
    let h6 := AHeap.put h (nx + 9) (some ⟨[(.int .i64 0), (.slice none 0 false)], 2, true⟩)
    (stA h6 (nx + 9) 0 (.agg [(.int .i64 n4), (.slice s5.1 s5.2.1 s5.2.2)]) 2).bind fun b7 =>
    let h8 := AHeap.put h6 (nx + 9) (some b7)
    (ldA h8 (nx + 9) 0).bind fun v9 =>
    (asI .i64 v9).bind fun n10 =>
    if ((n10 : Int) != 0) = true then
    (some ((.tuple [(.slice none 0 false), (.bool false)]), h8, (nx + 22)))
    else
    ((ldA h8 (nx + 9) 1).bind fun v11 =>
    (asSl v11).bind fun s12 =>
    if ((((s12.2.1 : Nat) : Int) : Int) != 128) = true then
    (some ((.tuple [(.slice none 0 false), (.bool false)]), h8, (nx + 22)))
    else
    (F19_J4' J J call Y lf n0 x0a x0n x0c x6a x6n x6c x8a x8n x8c x9 (some ((nx + 9), 0)) h8 (nx + 20))))
    else none)
    else
    (some ((.tuple [(.slice x8a x8n x8c), (.bool true)]), h, (nx + 5))) := by kernel_rfl

theorem F19_L3_eq (call : YldF → CallF) (Y : YldF) (lf : Nat) (n0 : Nat) (x0a : Option (Nat × Nat)) (x0n : Nat) (x0c : Bool) (x6a : Option (Nat × Nat)) (x6n : Nat) (x6c : Bool) (x8a : Option (Nat × Nat)) (x8n : Nat) (x8c : Bool) (x9 : Int) (h : AHeap) (nx : Nat) : F19_L3 call Y lf (n0 + 1) x0a x0n x0c x6a x6n x6c x8a x8n x8c x9 h nx =
    if (decide ((x9 : Int) < 8)) = true then
    ((x6a).bind fun p1 =>
    if 0 ≤ ((wrapA .i64 (((x0n : Nat) : Int) + x9)) : Int) ∧ (wrapA .i64 (((x0n : Nat) : Int) + x9)) < ((x6n : Nat) : Int) then
    ((ldR h p1.1 (p1.2 + Int.toNat (wrapA .i64 (((x0n : Nat) : Int) + x9)) * 2) 2).bind fun l2 =>
    (asAgg 2 (AV.agg l2)).bind fun d3 =>
    (asI .i64 (d3.getD 0 .bad)).bind fun n4 =>
    (asSl (d3.getD 1 .bad)).bind fun s5 =>
    let h6 := AHeap.put h (nx + 9) (some ⟨[(.int .i64 0), (.slice none 0 false)], 2, true⟩)
    (stA h6 (nx + 9) 0 (.agg [(.int .i64 n4), (.slice s5.1 s5.2.1 s5.2.2)]) 2).bind fun b7 =>
    let h8 := AHeap.put h6 (nx + 9) (some b7)
    (ldA h8 (nx + 9) 0).bind fun v9 =>
    (asI .i64 v9).bind fun n10 =>
    if ((n10 : Int) != 0) = true then
    (some ((.tuple [(.slice none 0 false), (.bool false)]), h8, (nx + 22)))
    else
    ((ldA h8 (nx + 9) 1).bind fun v11 =>
    (asSl v11).bind fun s12 =>
    if ((((s12.2.1 : Nat) : Int) : Int) != 128) = true then
    (some ((.tuple [(.slice none 0 false), (.bool false)]), h8, (nx + 22)))
    else
    (F19_J4 call Y lf n0 x0a x0n x0c x6a x6n x6c x8a x8n x8c x9 (some ((nx + 9), 0)) h8 (nx + 20))))
    else none)
    else
    (some ((.tuple [(.slice x8a x8n x8c), (.bool true)]), h, (nx + 5))) := F19_L3_eq' go1 call Y lf n0 x0a x0n x0c x6a x6n x6c x8a x8n x8c x9 h nx

theorem F19_L3_zero (call : YldF → CallF) (Y : YldF) (lf : Nat) (x0a : Option (Nat × Nat)) (x0n : Nat) (x0c : Bool) (x6a : Option (Nat × Nat)) (x6n : Nat) (x6c : Bool) (x8a : Option (Nat × Nat)) (x8n : Nat) (x8c : Bool) (x9 : Int) (h : AHeap) (nx : Nat) : F19_L3 call Y lf 0 x0a x0n x0c x6a x6n x6c x8a x8n x8c x9 h nx = none := by kernel_rfl

theorem F19_J4_eq' (J : StepF (AV × AHeap × Nat) → StepF (AV × AHeap × Nat)) (call : YldF → CallF) (Y : YldF) (lf : Nat) (n0 : Nat) (x0a : Option (Nat × Nat)) (x0n : Nat) (x0c : Bool) (x6a : Option (Nat × Nat)) (x6n : Nat) (x6c : Bool) (x8a : Option (Nat × Nat)) (x8n : Nat) (x8c : Bool) (x9 : Int) (x10 : Option (Nat × Nat)) (h : AHeap) (nx : Nat) : F19_J4' go1 J call Y lf n0 x0a x0n x0c x6a x6n x6c x8a x8n x8c x9 x10 h nx =
    (x10).bind fun p1 =>
    (ldA h p1.1 (p1.2 + 1)).bind fun v2 =>
    (asSl v2).bind fun s3 =>
    let h4 := AHeap.put h (nx + 3) (some ⟨[(.slice s3.1 s3.2.1 s3.2.2)], 1, true⟩)
    (srcS h4 (some ((nx + 3), 0)) 1 1).bind fun q5 =>
    (appD h4 x8a x8n x8c 1 24 (nx + 4) q5).bind fun e6 =>
    let h7 := AHeap.puts h4 e6.sets
    F19_L3' J J call Y lf n0 x0a x0n x0c x6a x6n x6c e6.a e6.n e6.c (wrapA .i64 (x9 + 1)) h7 (nx + 9) := by kernel_rfl

theorem F19_J4_eq (call : YldF → CallF) (Y : YldF) (lf : Nat) (n0 : Nat) (x0a : Option (Nat × Nat)) (x0n : Nat) (x0c : Bool) (x6a : Option (Nat × Nat)) (x6n : Nat) (x6c : Bool) (x8a : Option (Nat × Nat)) (x8n : Nat) (x8c : Bool) (x9 : Int) (x10 : Option (Nat × Nat)) (h : AHeap) (nx : Nat) : F19_J4 call Y lf n0 x0a x0n x0c x6a x6n x6c x8a x8n x8c x9 x10 h nx =
    (x10).bind fun p1 =>
    (ldA h p1.1 (p1.2 + 1)).bind fun v2 =>
    (asSl v2).bind fun s3 =>
    let h4 := AHeap.put h (nx + 3) (some ⟨[(.slice s3.1 s3.2.1 s3.2.2)], 1, true⟩)
    (srcS h4 (some ((nx + 3), 0)) 1 1).bind fun q5 =>
    (appD h4 x8a x8n x8c 1 24 (nx + 4) q5).bind fun e6 =>
    let h7 := AHeap.puts h4 e6.sets
    F19_L3 call Y lf n0 x0a x0n x0c x6a x6n x6c e6.a e6.n e6.c (wrapA .i64 (x9 + 1)) h7 (nx + 9) := F19_J4_eq' go1 call Y lf n0 x0a x0n x0c x6a x6n x6c x8a x8n x8c x9 x10 h nx

theorem F19_eq' (J : StepF (AV × AHeap × Nat) → StepF (AV × AHeap × Nat)) (n : Nat) (Y : YldF) (x0a : Option (Nat × Nat)) (x0n : Nat) (x0c : Bool) (h : AHeap) (nx : Nat) : rootJ J Try.prog keepT (callP Try.prog keepT n) Y n 19 [(.slice x0a x0n x0c)] h nx =
    (srcS h x0a x0n 4).bind fun q1 =>
    (appD h none 0 false 4 48 (nx + 3) q1).bind fun e2 =>
    let h3 := AHeap.puts h e2.sets
    F19_L1' J J (callP Try.prog keepT n) Y n n x0a x0n x0c e2.a e2.n e2.c 0 h3 (nx + 6) := by kernel_rfl

/-- quickset/quicksetkeep.gets -/
theorem F19_eq (n : Nat) (Y : YldF) (x0a : Option (Nat × Nat)) (x0n : Nat) (x0c : Bool) (h : AHeap) (nx : Nat) : callP Try.prog keepT (n + 1) Y 19 [(.slice x0a x0n x0c)] h nx =
    (srcS h x0a x0n 4).bind fun q1 =>
    (appD h none 0 false 4 48 (nx + 3) q1).bind fun e2 =>
    let h3 := AHeap.puts h e2.sets
    F19_L1 (callP Try.prog keepT n) Y n n x0a x0n x0c e2.a e2.n e2.c 0 h3 (nx + 6) := F19_eq' go1 n Y x0a x0n x0c h nx

noncomputable def c20 : Code := (Try.f20.body).getD .skip

noncomputable def r20 : List ResultVar := Try.f20.results.toList

noncomputable def F20_L1' (W J : StepF (AV × AHeap × Nat) → StepF (AV × AHeap × Nat)) (call : YldF → CallF) (Y : YldF) (lf : Nat) (n0 : Nat) (x0a : Option (Nat × Nat)) (x0n : Nat) (x0c : Bool) (x1a : Option (Nat × Nat)) (x1n : Nat) (x1c : Bool) (x5 : Int) (h : AHeap) (nx : Nat) : Option (AV × AHeap × Nat) :=
  goK W J drawK (machOf Try.prog) call Y (keepT 20) lf c20 [1, 1, 0, 1, 0, 9] [n0] (retK (machOf Try.prog) ⟨c20, 26, r20, keepT 20⟩) ⟨26, mkL [(0, (.slice x0a x0n x0c)), (1, (.slice x1a x1n x1c)), (5, (.int .i64 x5))]⟩ h nx

noncomputable def F20_L1 (call : YldF → CallF) (Y : YldF) (lf : Nat) (n0 : Nat) (x0a : Option (Nat × Nat)) (x0n : Nat) (x0c : Bool) (x1a : Option (Nat × Nat)) (x1n : Nat) (x1c : Bool) (x5 : Int) (h : AHeap) (nx : Nat) : Option (AV × AHeap × Nat) := F20_L1' go1 go1 call Y lf n0 x0a x0n x0c x1a x1n x1c x5 h nx

theorem F20_L1_eq' (J : StepF (AV × AHeap × Nat) → StepF (AV × AHeap × Nat)) (call : YldF → CallF) (Y : YldF) (lf : Nat) (n0 : Nat) (x0a : Option (Nat × Nat)) (x0n : Nat) (x0c : Bool) (x1a : Option (Nat × Nat)) (x1n : Nat) (x1c : Bool) (x5 : Int) (h : AHeap) (nx : Nat) : F20_L1' go1 J call Y lf (n0 + 1) x0a x0n x0c x1a x1n x1c x5 h nx =
    if (decide ((x5 : Int) < ((x0n : Nat) : Int))) = true then
    ((x0a).bind fun p1 =>
    if 0 ≤ (x5 : Int) ∧ x5 < ((x0n : Nat) : Int) then
    ((ldA h p1.1 (p1.2 + Int.toNat x5 * 1)).bind fun v2 =>
    (asI .u8 v2).bind fun n3 =>
    (x1a).bind fun p4 =>
    if 0 ≤ (x5 : Int) ∧ x5 < ((x1n : Nat) : Int) then
    ((ldA h p4.1 (p4.2 + Int.toNat x5 * 1)).bind fun v5 =>
    (asI .u8 v5).bind fun n6 =>
    if ((n3 : Int) != n6) = true then
    (some ((.bool false), h, (nx + 14)))
    else
    (F20_L1' J J call Y lf n0 x0a x0n x0c x1a x1n x1c (wrapA .i64 (x5 + 1)) h (nx + 16)))
    else none)
    else none)
    else
    (some ((.bool true), h, (nx + 5))) := by kernel_rfl

theorem F20_L1_eq (call : YldF → CallF) (Y : YldF) (lf : Nat) (n0 : Nat) (x0a : Option (Nat × Nat)) (x0n : Nat) (x0c : Bool) (x1a : Option (Nat × Nat)) (x1n : Nat) (x1c : Bool) (x5 : Int) (h : AHeap) (nx : Nat) : F20_L1 call Y lf (n0 + 1) x0a x0n x0c x1a x1n x1c x5 h nx =
    if (decide ((x5 : Int) < ((x0n : Nat) : Int))) = true then
    ((x0a).bind fun p1 =>
    if 0 ≤ (x5 : Int) ∧ x5 < ((x0n : Nat) : Int) then
    ((ldA h p1.1 (p1.2 + Int.toNat x5 * 1)).bind fun v2 =>
    (asI .u8 v2).bind fun n3 =>
    (x1a).bind fun p4 =>
    if 0 ≤ (x5 : Int) ∧ x5 < ((x1n : Nat) : Int) then
    ((ldA h p4.1 (p4.2 + Int.toNat x5 * 1)).bind fun v5 =>
    (asI .u8 v5).bind fun n6 =>
    if ((n3 : Int) != n6) = true then
    (some ((.bool false), h, (nx + 14)))
    else
    (F20_L1 call Y lf n0 x0a x0n x0c x1a x1n x1c (wrapA .i64 (x5 + 1)) h (nx + 16)))
    else none)
    else none)
    else
    (some ((.bool true), h, (nx + 5))) := F20_L1_eq' go1 call Y lf n0 x0a x0n x0c x1a x1n x1c x5 h nx

theorem F20_L1_zero (call : YldF → CallF) (Y : YldF) (lf : Nat) (x0a : Option (Nat × Nat)) (x0n : Nat) (x0c : Bool) (x1a : Option (Nat × Nat)) (x1n : Nat) (x1c : Bool) (x5 : Int) (h : AHeap) (nx : Nat) : F20_L1 call Y lf 0 x0a x0n x0c x1a x1n x1c x5 h nx = none := by kernel_rfl

theorem F20_eq' (J : StepF (AV × AHeap × Nat) → StepF (AV × AHeap × Nat)) (n : Nat) (Y : YldF) (x0a : Option (Nat × Nat)) (x0n : Nat) (x0c : Bool) (x1a : Option (Nat × Nat)) (x1n : Nat) (x1c : Bool) (h : AHeap) (nx : Nat) : rootJ J Try.prog keepT (callP Try.prog keepT n) Y n 20 [(.slice x0a x0n x0c), (.slice x1a x1n x1c)] h nx =
    if ((((x0n : Nat) : Int) : Int) != ((x1n : Nat) : Int)) = true then
    (some ((.bool false), h, (nx + 7)))
    else
    (F20_L1' J J (callP Try.prog keepT n) Y n n x0a x0n x0c x1a x1n x1c 0 h (nx + 7)) := by kernel_rfl

/-- quickset/quicksetkeep.sameBytes -/
theorem F20_eq (n : Nat) (Y : YldF) (x0a : Option (Nat × Nat)) (x0n : Nat) (x0c : Bool) (x1a : Option (Nat × Nat)) (x1n : Nat) (x1c : Bool) (h : AHeap) (nx : Nat) : callP Try.prog keepT (n + 1) Y 20 [(.slice x0a x0n x0c), (.slice x1a x1n x1c)] h nx =
    if ((((x0n : Nat) : Int) : Int) != ((x1n : Nat) : Int)) = true then
    (some ((.bool false), h, (nx + 7)))
    else
    (F20_L1 (callP Try.prog keepT n) Y n n x0a x0n x0c x1a x1n x1c 0 h (nx + 7)) := F20_eq' go1 n Y x0a x0n x0c x1a x1n x1c h nx

noncomputable def c21 : Code := (Try.f21.body).getD .skip

noncomputable def r21 : List ResultVar := Try.f21.results.toList

noncomputable def F21_L1' (W J : StepF (AV × AHeap × Nat) → StepF (AV × AHeap × Nat)) (call : YldF → CallF) (Y : YldF) (lf : Nat) (n0 : Nat) (x0a : Option (Nat × Nat)) (x0n : Nat) (x0c : Bool) (x1a : Option (Nat × Nat)) (x1n : Nat) (x1c : Bool) (x5 : Int) (h : AHeap) (nx : Nat) : Option (AV × AHeap × Nat) :=
  goK W J drawK (machOf Try.prog) call Y (keepT 21) lf c21 [1, 1, 0, 1, 0, 9] [n0] (retK (machOf Try.prog) ⟨c21, 27, r21, keepT 21⟩) ⟨27, mkL [(0, (.slice x0a x0n x0c)), (1, (.slice x1a x1n x1c)), (5, (.int .i64 x5))]⟩ h nx

noncomputable def F21_L1 (call : YldF → CallF) (Y : YldF) (lf : Nat) (n0 : Nat) (x0a : Option (Nat × Nat)) (x0n : Nat) (x0c : Bool) (x1a : Option (Nat × Nat)) (x1n : Nat) (x1c : Bool) (x5 : Int) (h : AHeap) (nx : Nat) : Option (AV × AHeap × Nat) := F21_L1' go1 go1 call Y lf n0 x0a x0n x0c x1a x1n x1c x5 h nx

theorem F21_L1_eq' (J : StepF (AV × AHeap × Nat) → StepF (AV × AHeap × Nat)) (call : YldF → CallF) (Y : YldF) (lf : Nat) (n0 : Nat) (x0a : Option (Nat × Nat)) (x0n : Nat) (x0c : Bool) (x1a : Option (Nat × Nat)) (x1n : Nat) (x1c : Bool) (x5 : Int) (h : AHeap) (nx : Nat) : F21_L1' go1 J call Y lf (n0 + 1) x0a x0n x0c x1a x1n x1c x5 h nx =
    if (decide ((x5 : Int) < ((x0n : Nat) : Int))) = true then
    ((x0a).bind fun p1 =>
    if 0 ≤ (x5 : Int) ∧ x5 < ((x0n : Nat) : Int) then
    ((ldA h p1.1 (p1.2 + Int.toNat x5 * 1)).bind fun v2 =>
    (asSl v2).bind fun s3 =>
    (x1a).bind fun p4 =>
    if 0 ≤ (x5 : Int) ∧ x5 < ((x1n : Nat) : Int) then
    ((ldA h p4.1 (p4.2 + Int.toNat x5 * 1)).bind fun v5 =>
    (asSl v5).bind fun s6 =>
    (call Y 20 [(.slice s3.1 s3.2.1 s3.2.2), (.slice s6.1 s6.2.1 s6.2.2)] h (nx + 14)).bind fun r7 =>
    (asB r7.1).bind fun t8 =>
    if (!t8) = true then
    (some ((.bool false), r7.2.1, (r7.2.2 + 1)))
    else
    (F21_L1' J J call Y lf n0 x0a x0n x0c x1a x1n x1c (wrapA .i64 (x5 + 1)) r7.2.1 (r7.2.2 + 3)))
    else none)
    else none)
    else
    (some ((.bool true), h, (nx + 5))) := by kernel_rfl

theorem F21_L1_eq (call : YldF → CallF) (Y : YldF) (lf : Nat) (n0 : Nat) (x0a : Option (Nat × Nat)) (x0n : Nat) (x0c : Bool) (x1a : Option (Nat × Nat)) (x1n : Nat) (x1c : Bool) (x5 : Int) (h : AHeap) (nx : Nat) : F21_L1 call Y lf (n0 + 1) x0a x0n x0c x1a x1n x1c x5 h nx =
    if (decide ((x5 : Int) < ((x0n : Nat) : Int))) = true then
    ((x0a).bind fun p1 =>
    if 0 ≤ (x5 : Int) ∧ x5 < ((x0n : Nat) : Int) then
    ((ldA h p1.1 (p1.2 + Int.toNat x5 * 1)).bind fun v2 =>
    (asSl v2).bind fun s3 =>
    (x1a).bind fun p4 =>
    if 0 ≤ (x5 : Int) ∧ x5 < ((x1n : Nat) : Int) then
    ((ldA h p4.1 (p4.2 + Int.toNat x5 * 1)).bind fun v5 =>
    (asSl v5).bind fun s6 =>
    (call Y 20 [(.slice s3.1 s3.2.1 s3.2.2), (.slice s6.1 s6.2.1 s6.2.2)] h (nx + 14)).bind fun r7 =>
    (asB r7.1).bind fun t8 =>
    if (!t8) = true then
    (some ((.bool false), r7.2.1, (r7.2.2 + 1)))
    else
    (F21_L1 call Y lf n0 x0a x0n x0c x1a x1n x1c (wrapA .i64 (x5 + 1)) r7.2.1 (r7.2.2 + 3)))
    else none)
    else none)
    else
    (some ((.bool true), h, (nx + 5))) := F21_L1_eq' go1 call Y lf n0 x0a x0n x0c x1a x1n x1c x5 h nx

theorem F21_L1_zero (call : YldF → CallF) (Y : YldF) (lf : Nat) (x0a : Option (Nat × Nat)) (x0n : Nat) (x0c : Bool) (x1a : Option (Nat × Nat)) (x1n : Nat) (x1c : Bool) (x5 : Int) (h : AHeap) (nx : Nat) : F21_L1 call Y lf 0 x0a x0n x0c x1a x1n x1c x5 h nx = none := by kernel_rfl

theorem F21_eq' (J : StepF (AV × AHeap × Nat) → StepF (AV × AHeap × Nat)) (n : Nat) (Y : YldF) (x0a : Option (Nat × Nat)) (x0n : Nat) (x0c : Bool) (x1a : Option (Nat × Nat)) (x1n : Nat) (x1c : Bool) (h : AHeap) (nx : Nat) : rootJ J Try.prog keepT (callP Try.prog keepT n) Y n 21 [(.slice x0a x0n x0c), (.slice x1a x1n x1c)] h nx =
    if ((((x0n : Nat) : Int) : Int) != ((x1n : Nat) : Int)) = true then
    (some ((.bool false), h, (nx + 7)))
    else
    (F21_L1' J J (callP Try.prog keepT n) Y n n x0a x0n x0c x1a x1n x1c 0 h (nx + 7)) := by kernel_rfl

/-- quickset/quicksetkeep.sameLists -/
theorem F21_eq (n : Nat) (Y : YldF) (x0a : Option (Nat × Nat)) (x0n : Nat) (x0c : Bool) (x1a : Option (Nat × Nat)) (x1n : Nat) (x1c : Bool) (h : AHeap) (nx : Nat) : callP Try.prog keepT (n + 1) Y 21 [(.slice x0a x0n x0c), (.slice x1a x1n x1c)] h nx =
    if ((((x0n : Nat) : Int) : Int) != ((x1n : Nat) : Int)) = true then
    (some ((.bool false), h, (nx + 7)))
    else
    (F21_L1 (callP Try.prog keepT n) Y n n x0a x0n x0c x1a x1n x1c 0 h (nx + 7)) := F21_eq' go1 n Y x0a x0n x0c x1a x1n x1c h nx

noncomputable def c22 : Code := (Try.f22.body).getD .skip

noncomputable def r22 : List ResultVar := Try.f22.results.toList

noncomputable def F22_L1' (W J : StepF (AV × AHeap × Nat) → StepF (AV × AHeap × Nat)) (call : YldF → CallF) (Y : YldF) (lf : Nat) (n0 : Nat) (x0 : Int) (x3a : Option (Nat × Nat)) (x3n : Nat) (x3c : Bool) (x4 : Int) (h : AHeap) (nx : Nat) : Option (AV × AHeap × Nat) :=
  goK W J drawK (machOf Try.prog) call Y (keepT 22) lf c22 [1, 1, 0, 1, 0, 9] [n0] (retK (machOf Try.prog) ⟨c22, 22, r22, keepT 22⟩) ⟨22, mkL [(0, (.int .i64 x0)), (3, (.slice x3a x3n x3c)), (4, (.int .i64 x4))]⟩ h nx

noncomputable def F22_L1 (call : YldF → CallF) (Y : YldF) (lf : Nat) (n0 : Nat) (x0 : Int) (x3a : Option (Nat × Nat)) (x3n : Nat) (x3c : Bool) (x4 : Int) (h : AHeap) (nx : Nat) : Option (AV × AHeap × Nat) := F22_L1' go1 go1 call Y lf n0 x0 x3a x3n x3c x4 h nx

theorem F22_L1_eq' (J : StepF (AV × AHeap × Nat) → StepF (AV × AHeap × Nat)) (call : YldF → CallF) (Y : YldF) (lf : Nat) (n0 : Nat) (x0 : Int) (x3a : Option (Nat × Nat)) (x3n : Nat) (x3c : Bool) (x4 : Int) (h : AHeap) (nx : Nat) : F22_L1' go1 J call Y lf (n0 + 1) x0 x3a x3n x3c x4 h nx =
    if (decide ((x4 : Int) < ((x3n : Nat) : Int))) = true then
    (if ((wrapA .i64 (8 * (Int.tmod x4 8))) : Int) < 0 then none else
    ((x3a).bind fun p1 =>
    if 0 ≤ (x4 : Int) ∧ x4 < ((x3n : Nat) : Int) then
    ((stA h p1.1 (p1.2 + Int.toNat x4 * 1) (.int .u8 (wrapA .u8 (Int.fdiv x0 ((2:Int) ^ min (Int.toNat (wrapA .i64 (8 * (Int.tmod x4 8)))) (IntKind.bits .i64))))) 1).bind fun b2 =>
    let h3 := AHeap.put h p1.1 (some b2)
    F22_L1' J J call Y lf n0 x0 x3a x3n x3c (wrapA .i64 (x4 + 1)) h3 (nx + 17))
    else none))
    else
    (some ((.slice x3a x3n x3c), h, (nx + 6))) := by kernel_rfl

theorem F22_L1_eq (call : YldF → CallF) (Y : YldF) (lf : Nat) (n0 : Nat) (x0 : Int) (x3a : Option (Nat × Nat)) (x3n : Nat) (x3c : Bool) (x4 : Int) (h : AHeap) (nx : Nat) : F22_L1 call Y lf (n0 + 1) x0 x3a x3n x3c x4 h nx =
    if (decide ((x4 : Int) < ((x3n : Nat) : Int))) = true then
    (if ((wrapA .i64 (8 * (Int.tmod x4 8))) : Int) < 0 then none else
    ((x3a).bind fun p1 =>
    if 0 ≤ (x4 : Int) ∧ x4 < ((x3n : Nat) : Int) then
    ((stA h p1.1 (p1.2 + Int.toNat x4 * 1) (.int .u8 (wrapA .u8 (Int.fdiv x0 ((2:Int) ^ min (Int.toNat (wrapA .i64 (8 * (Int.tmod x4 8)))) (IntKind.bits .i64))))) 1).bind fun b2 =>
    let h3 := AHeap.put h p1.1 (some b2)
    F22_L1 call Y lf n0 x0 x3a x3n x3c (wrapA .i64 (x4 + 1)) h3 (nx + 17))
    else none))
    else
    (some ((.slice x3a x3n x3c), h, (nx + 6))) := F22_L1_eq' go1 call Y lf n0 x0 x3a x3n x3c x4 h nx

theorem F22_L1_zero (call : YldF → CallF) (Y : YldF) (lf : Nat) (x0 : Int) (x3a : Option (Nat × Nat)) (x3n : Nat) (x3c : Bool) (x4 : Int) (h : AHeap) (nx : Nat) : F22_L1 call Y lf 0 x0 x3a x3n x3c x4 h nx = none := by kernel_rfl

theorem F22_eq' (J : StepF (AV × AHeap × Nat) → StepF (AV × AHeap × Nat)) (n : Nat) (Y : YldF) (x0 : Int) (h : AHeap) (nx : Nat) : rootJ J Try.prog keepT (callP Try.prog keepT n) Y n 22 [(.int .i64 x0)] h nx =
    if (decide (0 ≤ (128 : Int)) && decide ((128 : Int) ≤ 128) && decide (((1 : Nat) : Int) * 128 ≤ 281474976710656) && decide ((128 : Int) ≤ 9223372036854775807) && 1 != 0) = true then
    (let h1 := AHeap.put h (nx + 1) (some ⟨(madeA [(.int .u8 0)] (Int.toNat 128 * 1)), 1, true⟩)
    F22_L1' J J (callP Try.prog keepT n) Y n n x0 (some ((nx + 1), 0)) (Int.toNat 128) true 0 h1 (nx + 4))
    else none := by kernel_rfl

/-- quickset/quicksetkeep.SectorOf -/
theorem F22_eq (n : Nat) (Y : YldF) (x0 : Int) (h : AHeap) (nx : Nat) : callP Try.prog keepT (n + 1) Y 22 [(.int .i64 x0)] h nx =
    if (decide (0 ≤ (128 : Int)) && decide ((128 : Int) ≤ 128) && decide (((1 : Nat) : Int) * 128 ≤ 281474976710656) && decide ((128 : Int) ≤ 9223372036854775807) && 1 != 0) = true then
    (let h1 := AHeap.put h (nx + 1) (some ⟨(madeA [(.int .u8 0)] (Int.toNat 128 * 1)), 1, true⟩)
    F22_L1 (callP Try.prog keepT n) Y n n x0 (some ((nx + 1), 0)) (Int.toNat 128) true 0 h1 (nx + 4))
    else none := F22_eq' go1 n Y x0 h nx

noncomputable def c23 : Code := (Try.f23.body).getD .skip

noncomputable def r23 : List ResultVar := Try.f23.results.toList

noncomputable def F23_J1' (W J : StepF (AV × AHeap × Nat) → StepF (AV × AHeap × Nat)) (call : YldF → CallF) (Y : YldF) (lf : Nat) (x0 : Int) (x1a : Option (Nat × Nat)) (x1n : Nat) (x1c : Bool) (h : AHeap) (nx : Nat) : Option (AV × AHeap × Nat) :=
  goK W J drawK (machOf Try.prog) call Y (keepT 23) lf c23 [1, 1] [] (retK (machOf Try.prog) ⟨c23, 35, r23, keepT 23⟩) ⟨35, mkL [(0, (.int .i64 x0)), (1, (.slice x1a x1n x1c))]⟩ h nx

noncomputable def F23_J1 (call : YldF → CallF) (Y : YldF) (lf : Nat) (x0 : Int) (x1a : Option (Nat × Nat)) (x1n : Nat) (x1c : Bool) (h : AHeap) (nx : Nat) : Option (AV × AHeap × Nat) := F23_J1' go1 go1 call Y lf x0 x1a x1n x1c h nx

noncomputable def F23_L2' (W J : StepF (AV × AHeap × Nat) → StepF (AV × AHeap × Nat)) (call : YldF → CallF) (Y : YldF) (lf : Nat) (n0 : Nat) (x6 : Option (Nat × Nat)) (x7a : Option (Nat × Nat)) (x7n : Nat) (x7c : Bool) (x21a : Option (Nat × Nat)) (x21n : Nat) (x21c : Bool) (x22 : Int) (x23 : Int) (h : AHeap) (nx : Nat) : Option (AV × AHeap × Nat) :=
  goK W J drawK (machOf Try.prog) call Y (keepT 23) lf c23 [1, 1, 1, 1, 1, 0, 1, 0, 9] [n0] (retK (machOf Try.prog) ⟨c23, 35, r23, keepT 23⟩) ⟨35, mkL [(6, (.ptr x6)), (7, (.slice x7a x7n x7c)), (21, (.slice x21a x21n x21c)), (22, (.int .i64 x22)), (23, (.int .i64 x23))]⟩ h nx

noncomputable def F23_L2 (call : YldF → CallF) (Y : YldF) (lf : Nat) (n0 : Nat) (x6 : Option (Nat × Nat)) (x7a : Option (Nat × Nat)) (x7n : Nat) (x7c : Bool) (x21a : Option (Nat × Nat)) (x21n : Nat) (x21c : Bool) (x22 : Int) (x23 : Int) (h : AHeap) (nx : Nat) : Option (AV × AHeap × Nat) := F23_L2' go1 go1 call Y lf n0 x6 x7a x7n x7c x21a x21n x21c x22 x23 h nx

theorem F23_J1_eq' (J : StepF (AV × AHeap × Nat) → StepF (AV × AHeap × Nat)) (call : YldF → CallF) (Y : YldF) (lf : Nat) (x0 : Int) (x1a : Option (Nat × Nat)) (x1n : Nat) (x1c : Bool) (h : AHeap) (nx : Nat) : F23_J1' go1 J call Y lf x0 x1a x1n x1c h nx =
    if (decide ((((x1n : Nat) : Int) : Int) > 300)) = true then
    (some ((.tuple [(.slice none 0 false), (.int .i64 1)]), h, (nx + 5)))
    else
    ((call Y 37 [(.int .i64 x0)] h (nx + 6)).bind fun r1 =>
    (asP r1.1).bind fun p2 =>
    F23_L2' J J call Y lf lf p2 none 0 false x1a x1n x1c ((x1n : Nat) : Int) 0 r1.2.1 (r1.2.2 + 4)) := by kernel_rfl

theorem F23_J1_eq (call : YldF → CallF) (Y : YldF) (lf : Nat) (x0 : Int) (x1a : Option (Nat × Nat)) (x1n : Nat) (x1c : Bool) (h : AHeap) (nx : Nat) : F23_J1 call Y lf x0 x1a x1n x1c h nx =
    if (decide ((((x1n : Nat) : Int) : Int) > 300)) = true then
    (some ((.tuple [(.slice none 0 false), (.int .i64 1)]), h, (nx + 5)))
    else
    ((call Y 37 [(.int .i64 x0)] h (nx + 6)).bind fun r1 =>
    (asP r1.1).bind fun p2 =>
    F23_L2 call Y lf lf p2 none 0 false x1a x1n x1c ((x1n : Nat) : Int) 0 r1.2.1 (r1.2.2 + 4)) := F23_J1_eq' go1 call Y lf x0 x1a x1n x1c h nx

theorem F23_L2_eq' (J : StepF (AV × AHeap × Nat) → StepF (AV × AHeap × Nat)) (call : YldF → CallF) (Y : YldF) (lf : Nat) (n0 : Nat) (x6 : Option (Nat × Nat)) (x7a : Option (Nat × Nat)) (x7n : Nat) (x7c : Bool) (x21a : Option (Nat × Nat)) (x21n : Nat) (x21c : Bool) (x22 : Int) (x23 : Int) (h : AHeap) (nx : Nat) : F23_L2' go1 J call Y lf (n0 + 1) x6 x7a x7n x7c x21a x21n x21c x22 x23 h nx =
    if (decide ((x23 : Int) < x22)) = true then
    ((x21a).bind fun p1 =>
    if 0 ≤ (x23 : Int) ∧ x23 < ((x21n : Nat) : Int) then
    ((ldR h p1.1 (p1.2 + Int.toNat x23 * 4) 4).bind fun l2 =>
    (asAgg 4 (AV.agg l2)).bind fun d3 =>
    (asI .i64 (d3.getD 0 .bad)).bind fun n4 =>
    (asI .i64 (d3.getD 1 .bad)).bind fun n5 =>
    (asI .i64 (d3.getD 2 .bad)).bind fun n6 =>
    (asSl (d3.getD 3 .bad)).bind fun s7 =>
    let h8 := AHeap.put h (nx + 3) (some ⟨[(.int .i64 0), (.int .i64 0), (.int .i64 0), (.slice none 0 false)], 4, true⟩)
    (stA h8 (nx + 3) 0 (.agg [(.int .i64 n4), (.int .i64 n5), (.int .i64 n6), (.slice s7.1 s7.2.1 s7.2.2)]) 4).bind fun b9 =>
    let h10 := AHeap.put h8 (nx + 3) (some b9)
    (ldR h10 (nx + 3) 0 4).bind fun l11 =>
    (asAgg 4 (AV.agg l11)).bind fun d12 =>
    (asI .i64 (d12.getD 0 .bad)).bind fun n13 =>
    (asI .i64 (d12.getD 1 .bad)).bind fun n14 =>
    (asI .i64 (d12.getD 2 .bad)).bind fun n15 =>
    (asSl (d12.getD 3 .bad)).bind fun s16 =>
    (call Y 38 [(.ptr x6), (.agg [(.int .i64 n13), (.int .i64 n14), (.int .i64 n15), (.slice s16.1 s16.2.1 s16.2.2)])] h10 (nx + 12)).bind fun r17 =>
    (asAgg 2 r17.1).bind fun d18 =>
    (asI .i64 (d18.getD 0 .bad)).bind fun n19 =>
    (asSl (d18.getD 1 .bad)).bind fun s20 =>
    let h21 := AHeap.put r17.2.1 (nx + 9) (some ⟨[(.int .i64 n19), (.slice s20.1 s20.2.1 s20.2.2)], 2, true⟩)
    (srcS h21 (some ((nx + 9), 0)) 1 2).bind fun q22 =>
    (appD h21 x7a x7n x7c 2 32 (nx + 10) q22).bind fun e23 =>
    let h24 := AHeap.puts h21 e23.sets
    F23_L2' J J call Y lf n0 x6 e23.a e23.n e23.c x21a x21n x21c x22 (wrapA .i64 (x23 + 1)) h24 (r17.2.2 + 2))
    else none)
    else
    (some ((.tuple [(.slice x7a x7n x7c), (.int .i64 0)]), h, (nx + 4))) := by kernel_rfl

theorem F23_L2_eq (call : YldF → CallF) (Y : YldF) (lf : Nat) (n0 : Nat) (x6 : Option (Nat × Nat)) (x7a : Option (Nat × Nat)) (x7n : Nat) (x7c : Bool) (x21a : Option (Nat × Nat)) (x21n : Nat) (x21c : Bool) (x22 : Int) (x23 : Int) (h : AHeap) (nx : Nat) : F23_L2 call Y lf (n0 + 1) x6 x7a x7n x7c x21a x21n x21c x22 x23 h nx =
    if (decide ((x23 : Int) < x22)) = true then
    ((x21a).bind fun p1 =>
    if 0 ≤ (x23 : Int) ∧ x23 < ((x21n : Nat) : Int) then
    ((ldR h p1.1 (p1.2 + Int.toNat x23 * 4) 4).bind fun l2 =>
    (asAgg 4 (AV.agg l2)).bind fun d3 =>
    (asI .i64 (d3.getD 0 .bad)).bind fun n4 =>
    (asI .i64 (d3.getD 1 .bad)).bind fun n5 =>
    (asI .i64 (d3.getD 2 .bad)).bind fun n6 =>
    (asSl (d3.getD 3 .bad)).bind fun s7 =>
    let h8 := AHeap.put h (nx + 3) (some ⟨[(.int .i64 0), (.int .i64 0), (.int .i64 0), (.slice none 0 false)], 4, true⟩)
    (stA h8 (nx + 3) 0 (.agg [(.int .i64 n4), (.int .i64 n5), (.int .i64 n6), (.slice s7.1 s7.2.1 s7.2.2)]) 4).bind fun b9 =>
    let h10 := AHeap.put h8 (nx + 3) (some b9)
    (ldR h10 (nx + 3) 0 4).bind fun l11 =>
    (asAgg 4 (AV.agg l11)).bind fun d12 =>
    (asI .i64 (d12.getD 0 .bad)).bind fun n13 =>
    (asI .i64 (d12.getD 1 .bad)).bind fun n14 =>
    (asI .i64 (d12.getD 2 .bad)).bind fun n15 =>
    (asSl (d12.getD 3 .bad)).bind fun s16 =>
    (call Y 38 [(.ptr x6), (.agg [(.int .i64 n13), (.int .i64 n14), (.int .i64 n15), (.slice s16.1 s16.2.1 s16.2.2)])] h10 (nx + 12)).bind fun r17 =>
    (asAgg 2 r17.1).bind fun d18 =>
    (asI .i64 (d18.getD 0 .bad)).bind fun n19 =>
    (asSl (d18.getD 1 .bad)).bind fun s20 =>
    let h21 := AHeap.put r17.2.1 (nx + 9) (some ⟨[(.int .i64 n19), (.slice s20.1 s20.2.1 s20.2.2)], 2, true⟩)
    (srcS h21 (some ((nx + 9), 0)) 1 2).bind fun q22 =>
    (appD h21 x7a x7n x7c 2 32 (nx + 10) q22).bind fun e23 =>
    let h24 := AHeap.puts h21 e23.sets
    F23_L2 call Y lf n0 x6 e23.a e23.n e23.c x21a x21n x21c x22 (wrapA .i64 (x23 + 1)) h24 (r17.2.2 + 2))
    else none)
    else
    (some ((.tuple [(.slice x7a x7n x7c), (.int .i64 0)]), h, (nx + 4))) := F23_L2_eq' go1 call Y lf n0 x6 x7a x7n x7c x21a x21n x21c x22 x23 h nx

theorem F23_L2_zero (call : YldF → CallF) (Y : YldF) (lf : Nat) (x6 : Option (Nat × Nat)) (x7a : Option (Nat × Nat)) (x7n : Nat) (x7c : Bool) (x21a : Option (Nat × Nat)) (x21n : Nat) (x21c : Bool) (x22 : Int) (x23 : Int) (h : AHeap) (nx : Nat) : F23_L2 call Y lf 0 x6 x7a x7n x7c x21a x21n x21c x22 x23 h nx = none := by kernel_rfl

theorem F23_eq' (J : StepF (AV × AHeap × Nat) → StepF (AV × AHeap × Nat)) (n : Nat) (Y : YldF) (x0 : Int) (x1a : Option (Nat × Nat)) (x1n : Nat) (x1c : Bool) (h : AHeap) (nx : Nat) : rootJ J Try.prog keepT (callP Try.prog keepT n) Y n 23 [(.int .i64 x0), (.slice x1a x1n x1c)] h nx =
    if (decide ((x0 : Int) < 1)) = true then
    (some ((.tuple [(.slice none 0 false), (.int .i64 2)]), h, (nx + 10)))
    else
    (if (decide ((x0 : Int) > 512)) = true then
    (some ((.tuple [(.slice none 0 false), (.int .i64 2)]), h, (nx + 10)))
    else
    (F23_J1' J J (callP Try.prog keepT n) Y n x0 x1a x1n x1c h (nx + 8))) := by kernel_rfl

/-- quickset/drive.Play -/
theorem F23_eq (n : Nat) (Y : YldF) (x0 : Int) (x1a : Option (Nat × Nat)) (x1n : Nat) (x1c : Bool) (h : AHeap) (nx : Nat) : callP Try.prog keepT (n + 1) Y 23 [(.int .i64 x0), (.slice x1a x1n x1c)] h nx =
    if (decide ((x0 : Int) < 1)) = true then
    (some ((.tuple [(.slice none 0 false), (.int .i64 2)]), h, (nx + 10)))
    else
    (if (decide ((x0 : Int) > 512)) = true then
    (some ((.tuple [(.slice none 0 false), (.int .i64 2)]), h, (nx + 10)))
    else
    (F23_J1 (callP Try.prog keepT n) Y n x0 x1a x1n x1c h (nx + 8))) := F23_eq' go1 n Y x0 x1a x1n x1c h nx

noncomputable def c24 : Code := (Try.f24.body).getD .skip

noncomputable def r24 : List ResultVar := Try.f24.results.toList

theorem F24_eq' (J : StepF (AV × AHeap × Nat) → StepF (AV × AHeap × Nat)) (n : Nat) (Y : YldF) (x0_0 : Int) (x0_1 : Int) (x0_2 : Int) (x0_3 : Int) (x0_4 : Int) (x0_5 : Int) (x0_6 : Int) (x0_7 : Int) (x0_8 : Int) (x0_9 : Int) (x0_10 : Int) (x0_11 : Int) (h : AHeap) (nx : Nat) : rootJ J Try.prog keepT (callP Try.prog keepT n) Y n 24 [(.agg [(.int .i64 x0_0), (.int .i64 x0_1), (.int .i64 x0_2), (.int .i64 x0_3), (.int .i64 x0_4), (.int .i64 x0_5), (.int .i64 x0_6), (.int .i64 x0_7), (.int .i64 x0_8), (.int .i64 x0_9), (.int .i64 x0_10), (.int .i64 x0_11)])] h nx =
    let h1 := AHeap.put h nx (some ⟨[(.int .i64 x0_0), (.int .i64 x0_1), (.int .i64 x0_2), (.int .i64 x0_3), (.int .i64 x0_4), (.int .i64 x0_5), (.int .i64 x0_6), (.int .i64 x0_7), (.int .i64 x0_8), (.int .i64 x0_9), (.int .i64 x0_10), (.int .i64 x0_11)], 12, true⟩)
    let h2 := AHeap.put h1 (nx + 1) (some ⟨[(.int .i64 0), (.int .i64 0), (.int .i64 0), (.int .i64 0), (.int .i64 0), (.int .i64 0), (.int .i64 0), (.int .i64 0), (.int .i64 0), (.int .i64 0), (.int .i64 0), (.int .i64 0), (.int .i64 0)], 13, true⟩)
    (ldA h2 nx 0).bind fun v3 =>
    (asI .i64 v3).bind fun n4 =>
    ((callP Try.prog keepT n) Y 15 [(.int .i64 n4), (.int .i64 1048576)] h2 (nx + 16)).bind fun r5 =>
    (asI .i64 r5.1).bind fun n6 =>
    (ldA r5.2.1 nx 2).bind fun v7 =>
    (asI .i64 v7).bind fun n8 =>
    ((callP Try.prog keepT n) Y 15 [(.int .i64 n8), (.int .i64 7)] r5.2.1 r5.2.2).bind fun r9 =>
    (asI .i64 r9.1).bind fun n10 =>
    (ldA r9.2.1 nx 4).bind fun v11 =>
    (asI .i64 v11).bind fun n12 =>
    ((callP Try.prog keepT n) Y 15 [(.int .i64 n12), (.int .i64 1048577)] r9.2.1 r9.2.2).bind fun r13 =>
    (asI .i64 r13.1).bind fun n14 =>
    let h15 := AHeap.put r13.2.1 (nx + 14) (some ⟨[(.int .i64 0), (.int .i64 0), (.int .i64 0), (.int .i64 0), (.int .i64 0), (.int .i64 0), (.int .i64 0), (.int .i64 0), (.int .i64 0), (.int .i64 0), (.int .i64 0), (.int .i64 0), (.int .i64 0)], 13, true⟩)
    (stA h15 (nx + 14) 0 (.agg [(.int .i64 (wrapA .i64 (1 + n6))), (.int .i64 0), (.int .i64 (wrapA .i64 (2 + n10))), (.int .i64 0), (.int .i64 n14), (.int .i64 0), (.int .i64 0), (.int .i64 0), (.int .i64 0), (.int .i64 0), (.int .i64 0), (.int .i64 0), (.int .i64 0)]) 13).bind fun b16 =>
    let h17 := AHeap.put h15 (nx + 14) (some b16)
    ifApart [([(nx + 14)], [nx]), ([(nx + 14)], [nx]), ([(nx + 14)], [nx])]
    (ifKept [(h2, r5.2.1, [nx]), (h2, r5.2.1, [nx]), (r5.2.1, r9.2.1, [nx])]
    (ifRob (callC ((callP Try.prog keepT n) Y) Y) [⟨(.fn 15), [(.int .i64 n4), (.int .i64 1048576)], (.int .i64 n6), h2, r5.2.1, (nx + 16), r5.2.2, [(nx + 14)]⟩, ⟨(.fn 15), [(.int .i64 n8), (.int .i64 7)], (.int .i64 n10), r5.2.1, r9.2.1, r5.2.2, r9.2.2, [(nx + 14)]⟩, ⟨(.fn 15), [(.int .i64 n12), (.int .i64 1048577)], (.int .i64 n14), r9.2.1, r13.2.1, r9.2.2, r13.2.2, [(nx + 14)]⟩]
    ((ldA h17 nx 1).bind fun v18 =>
    (asI .i64 v18).bind fun n19 =>
    (ldA h17 (nx + 14) 2).bind fun v20 =>
    (asI .i64 v20).bind fun n21 =>
    ((callP Try.prog keepT n) Y 15 [(.int .i64 n19), (.int .i64 n21)] h17 (r13.2.2 + 7)).bind fun r22 =>
    (asI .i64 r22.1).bind fun n23 =>
    (stA r22.2.1 (nx + 14) 1 (.int .i64 n23) 1).bind fun b24 =>
    let h25 := AHeap.put r22.2.1 (nx + 14) (some b24)
    (ldA h25 nx 3).bind fun v26 =>
    (asI .i64 v26).bind fun n27 =>
    (ldA h25 (nx + 14) 2).bind fun v28 =>
    (asI .i64 v28).bind fun n29 =>
    ((callP Try.prog keepT n) Y 15 [(.int .i64 n27), (.int .i64 (if (wrapA .i64 (n29 - 1)) < 3 then (wrapA .i64 (n29 - 1)) else 3))] h25 (r22.2.2 + 10)).bind fun r30 =>
    (asI .i64 r30.1).bind fun n31 =>
    (stA r30.2.1 (nx + 14) 3 (.int .i64 (wrapA .i64 (1 + n31))) 1).bind fun b32 =>
    let h33 := AHeap.put r30.2.1 (nx + 14) (some b32)
    (ldA h33 nx 5).bind fun v34 =>
    (asI .i64 v34).bind fun n35 =>
    ((callP Try.prog keepT n) Y 15 [(.int .i64 n35), (.int .i64 65537)] h33 (r30.2.2 + 17)).bind fun r36 =>
    (asI .i64 r36.1).bind fun n37 =>
    (ldA r36.2.1 nx 6).bind fun v38 =>
    (asI .i64 v38).bind fun n39 =>
    ((callP Try.prog keepT n) Y 15 [(.int .i64 n39), (.int .i64 33)] r36.2.1 r36.2.2).bind fun r40 =>
    (asI .i64 r40.1).bind fun n41 =>
    (ldA r40.2.1 nx 5).bind fun v42 =>
    (asI .i64 v42).bind fun n43 =>
    (ldA r40.2.1 (nx + 14) 4).bind fun v44 =>
    (asI .i64 v44).bind fun n45 =>
    ((callP Try.prog keepT n) Y 15 [(.int .i64 n43), (.int .i64 (wrapA .i64 (n45 + 1)))] r40.2.1 r40.2.2).bind fun r46 =>
    (asI .i64 r46.1).bind fun n47 =>
    (ldR r46.2.1 nx 8 4).bind fun l48 =>
    (asAgg 4 (AV.agg l48)).bind fun d49 =>
    (asI .i64 (d49.getD 0 .bad)).bind fun n50 =>
    (asI .i64 (d49.getD 1 .bad)).bind fun n51 =>
    (asI .i64 (d49.getD 2 .bad)).bind fun n52 =>
    (asI .i64 (d49.getD 3 .bad)).bind fun n53 =>
    (stA r46.2.1 (nx + 14) 5 (.agg [(.int .i64 n37), (.int .i64 n41), (.int .i64 0), (.int .i64 n47), (.int .i64 n50), (.int .i64 n51), (.int .i64 n52), (.int .i64 n53)]) 8).bind fun b54 =>
    let h55 := AHeap.put r46.2.1 (nx + 14) (some b54)
    ifKept [(h33, r36.2.1, [nx]), (h33, r36.2.1, [nx]), (h33, r36.2.1, [(nx + 14)]), (h33, r36.2.1, [nx]), (r36.2.1, r40.2.1, [nx]), (r36.2.1, r40.2.1, [(nx + 14)]), (r36.2.1, r40.2.1, [nx]), (r40.2.1, r46.2.1, [nx])]
    ((ldA h55 nx 7).bind fun v56 =>
    (asI .i64 v56).bind fun n57 =>
    (ldA h55 (nx + 14) 6).bind fun v58 =>
    (asI .i64 v58).bind fun n59 =>
    ((callP Try.prog keepT n) Y 15 [(.int .i64 n57), (.int .i64 (wrapA .i64 ((wrapA .i64 (n59 * 128)) + 1)))] h55 (r46.2.2 + 11)).bind fun r60 =>
    (asI .i64 r60.1).bind fun n61 =>
    (stA r60.2.1 (nx + 14) 7 (.int .i64 n61) 1).bind fun b62 =>
    let h63 := AHeap.put r60.2.1 (nx + 14) (some b62)
    (ldR h63 (nx + 14) 0 13).bind fun l64 =>
    (asAgg 13 (AV.agg l64)).bind fun d65 =>
    (asI .i64 (d65.getD 0 .bad)).bind fun n66 =>
    (asI .i64 (d65.getD 1 .bad)).bind fun n67 =>
    (asI .i64 (d65.getD 2 .bad)).bind fun n68 =>
    (asI .i64 (d65.getD 3 .bad)).bind fun n69 =>
    (asI .i64 (d65.getD 4 .bad)).bind fun n70 =>
    (asI .i64 (d65.getD 5 .bad)).bind fun n71 =>
    (asI .i64 (d65.getD 6 .bad)).bind fun n72 =>
    (asI .i64 (d65.getD 7 .bad)).bind fun n73 =>
    (asI .i64 (d65.getD 8 .bad)).bind fun n74 =>
    (asI .i64 (d65.getD 9 .bad)).bind fun n75 =>
    (asI .i64 (d65.getD 10 .bad)).bind fun n76 =>
    (asI .i64 (d65.getD 11 .bad)).bind fun n77 =>
    (asI .i64 (d65.getD 12 .bad)).bind fun n78 =>
    (stA h63 (nx + 1) 0 (.agg [(.int .i64 n66), (.int .i64 n67), (.int .i64 n68), (.int .i64 n69), (.int .i64 n70), (.int .i64 n71), (.int .i64 n72), (.int .i64 n73), (.int .i64 n74), (.int .i64 n75), (.int .i64 n76), (.int .i64 n77), (.int .i64 n78)]) 13).bind fun b79 =>
    let h80 := AHeap.put h63 (nx + 1) (some b79)
    (ldR h80 (nx + 1) 0 13).bind fun l81 =>
    (asAgg 13 (AV.agg l81)).bind fun d82 =>
    (asI .i64 (d82.getD 0 .bad)).bind fun n83 =>
    (asI .i64 (d82.getD 1 .bad)).bind fun n84 =>
    (asI .i64 (d82.getD 2 .bad)).bind fun n85 =>
    (asI .i64 (d82.getD 3 .bad)).bind fun n86 =>
    (asI .i64 (d82.getD 4 .bad)).bind fun n87 =>
    (asI .i64 (d82.getD 5 .bad)).bind fun n88 =>
    (asI .i64 (d82.getD 6 .bad)).bind fun n89 =>
    (asI .i64 (d82.getD 7 .bad)).bind fun n90 =>
    (asI .i64 (d82.getD 8 .bad)).bind fun n91 =>
    (asI .i64 (d82.getD 9 .bad)).bind fun n92 =>
    (asI .i64 (d82.getD 10 .bad)).bind fun n93 =>
    (asI .i64 (d82.getD 11 .bad)).bind fun n94 =>
    (asI .i64 (d82.getD 12 .bad)).bind fun n95 =>
    some ((.agg [(.int .i64 n83), (.int .i64 n84), (.int .i64 n85), (.int .i64 n86), (.int .i64 n87), (.int .i64 n88), (.int .i64 n89), (.int .i64 n90), (.int .i64 n91), (.int .i64 n92), (.int .i64 n93), (.int .i64 n94), (.int .i64 n95)]), h80, (r60.2.2 + 2)))))) := by kernel_rfl

/-- quickset/quicksetkeep.LabelOf -/
theorem F24_eq (n : Nat) (Y : YldF) (x0_0 : Int) (x0_1 : Int) (x0_2 : Int) (x0_3 : Int) (x0_4 : Int) (x0_5 : Int) (x0_6 : Int) (x0_7 : Int) (x0_8 : Int) (x0_9 : Int) (x0_10 : Int) (x0_11 : Int) (h : AHeap) (nx : Nat) : callP Try.prog keepT (n + 1) Y 24 [(.agg [(.int .i64 x0_0), (.int .i64 x0_1), (.int .i64 x0_2), (.int .i64 x0_3), (.int .i64 x0_4), (.int .i64 x0_5), (.int .i64 x0_6), (.int .i64 x0_7), (.int .i64 x0_8), (.int .i64 x0_9), (.int .i64 x0_10), (.int .i64 x0_11)])] h nx =
    let h1 := AHeap.put h nx (some ⟨[(.int .i64 x0_0), (.int .i64 x0_1), (.int .i64 x0_2), (.int .i64 x0_3), (.int .i64 x0_4), (.int .i64 x0_5), (.int .i64 x0_6), (.int .i64 x0_7), (.int .i64 x0_8), (.int .i64 x0_9), (.int .i64 x0_10), (.int .i64 x0_11)], 12, true⟩)
    let h2 := AHeap.put h1 (nx + 1) (some ⟨[(.int .i64 0), (.int .i64 0), (.int .i64 0), (.int .i64 0), (.int .i64 0), (.int .i64 0), (.int .i64 0), (.int .i64 0), (.int .i64 0), (.int .i64 0), (.int .i64 0), (.int .i64 0), (.int .i64 0)], 13, true⟩)
    (ldA h2 nx 0).bind fun v3 =>
    (asI .i64 v3).bind fun n4 =>
    ((callP Try.prog keepT n) Y 15 [(.int .i64 n4), (.int .i64 1048576)] h2 (nx + 16)).bind fun r5 =>
    (asI .i64 r5.1).bind fun n6 =>
    (ldA r5.2.1 nx 2).bind fun v7 =>
    (asI .i64 v7).bind fun n8 =>
    ((callP Try.prog keepT n) Y 15 [(.int .i64 n8), (.int .i64 7)] r5.2.1 r5.2.2).bind fun r9 =>
    (asI .i64 r9.1).bind fun n10 =>
    (ldA r9.2.1 nx 4).bind fun v11 =>
    (asI .i64 v11).bind fun n12 =>
    ((callP Try.prog keepT n) Y 15 [(.int .i64 n12), (.int .i64 1048577)] r9.2.1 r9.2.2).bind fun r13 =>
    (asI .i64 r13.1).bind fun n14 =>
    let h15 := AHeap.put r13.2.1 (nx + 14) (some ⟨[(.int .i64 0), (.int .i64 0), (.int .i64 0), (.int .i64 0), (.int .i64 0), (.int .i64 0), (.int .i64 0), (.int .i64 0), (.int .i64 0), (.int .i64 0), (.int .i64 0), (.int .i64 0), (.int .i64 0)], 13, true⟩)
    (stA h15 (nx + 14) 0 (.agg [(.int .i64 (wrapA .i64 (1 + n6))), (.int .i64 0), (.int .i64 (wrapA .i64 (2 + n10))), (.int .i64 0), (.int .i64 n14), (.int .i64 0), (.int .i64 0), (.int .i64 0), (.int .i64 0), (.int .i64 0), (.int .i64 0), (.int .i64 0), (.int .i64 0)]) 13).bind fun b16 =>
    let h17 := AHeap.put h15 (nx + 14) (some b16)
    ifApart [([(nx + 14)], [nx]), ([(nx + 14)], [nx]), ([(nx + 14)], [nx])]
    (ifKept [(h2, r5.2.1, [nx]), (h2, r5.2.1, [nx]), (r5.2.1, r9.2.1, [nx])]
    (ifRob (callC ((callP Try.prog keepT n) Y) Y) [⟨(.fn 15), [(.int .i64 n4), (.int .i64 1048576)], (.int .i64 n6), h2, r5.2.1, (nx + 16), r5.2.2, [(nx + 14)]⟩, ⟨(.fn 15), [(.int .i64 n8), (.int .i64 7)], (.int .i64 n10), r5.2.1, r9.2.1, r5.2.2, r9.2.2, [(nx + 14)]⟩, ⟨(.fn 15), [(.int .i64 n12), (.int .i64 1048577)], (.int .i64 n14), r9.2.1, r13.2.1, r9.2.2, r13.2.2, [(nx + 14)]⟩]
    ((ldA h17 nx 1).bind fun v18 =>
    (asI .i64 v18).bind fun n19 =>
    (ldA h17 (nx + 14) 2).bind fun v20 =>
    (asI .i64 v20).bind fun n21 =>
    ((callP Try.prog keepT n) Y 15 [(.int .i64 n19), (.int .i64 n21)] h17 (r13.2.2 + 7)).bind fun r22 =>
    (asI .i64 r22.1).bind fun n23 =>
    (stA r22.2.1 (nx + 14) 1 (.int .i64 n23) 1).bind fun b24 =>
    let h25 := AHeap.put r22.2.1 (nx + 14) (some b24)
    (ldA h25 nx 3).bind fun v26 =>
    (asI .i64 v26).bind fun n27 =>
    (ldA h25 (nx + 14) 2).bind fun v28 =>
    (asI .i64 v28).bind fun n29 =>
    ((callP Try.prog keepT n) Y 15 [(.int .i64 n27), (.int .i64 (if (wrapA .i64 (n29 - 1)) < 3 then (wrapA .i64 (n29 - 1)) else 3))] h25 (r22.2.2 + 10)).bind fun r30 =>
    (asI .i64 r30.1).bind fun n31 =>
    (stA r30.2.1 (nx + 14) 3 (.int .i64 (wrapA .i64 (1 + n31))) 1).bind fun b32 =>
    let h33 := AHeap.put r30.2.1 (nx + 14) (some b32)
    (ldA h33 nx 5).bind fun v34 =>
    (asI .i64 v34).bind fun n35 =>
    ((callP Try.prog keepT n) Y 15 [(.int .i64 n35), (.int .i64 65537)] h33 (r30.2.2 + 17)).bind fun r36 =>
    (asI .i64 r36.1).bind fun n37 =>
    (ldA r36.2.1 nx 6).bind fun v38 =>
    (asI .i64 v38).bind fun n39 =>
    ((callP Try.prog keepT n) Y 15 [(.int .i64 n39), (.int .i64 33)] r36.2.1 r36.2.2).bind fun r40 =>
    (asI .i64 r40.1).bind fun n41 =>
    (ldA r40.2.1 nx 5).bind fun v42 =>
    (asI .i64 v42).bind fun n43 =>
    (ldA r40.2.1 (nx + 14) 4).bind fun v44 =>
    (asI .i64 v44).bind fun n45 =>
    ((callP Try.prog keepT n) Y 15 [(.int .i64 n43), (.int .i64 (wrapA .i64 (n45 + 1)))] r40.2.1 r40.2.2).bind fun r46 =>
    (asI .i64 r46.1).bind fun n47 =>
    (ldR r46.2.1 nx 8 4).bind fun l48 =>
    (asAgg 4 (AV.agg l48)).bind fun d49 =>
    (asI .i64 (d49.getD 0 .bad)).bind fun n50 =>
    (asI .i64 (d49.getD 1 .bad)).bind fun n51 =>
    (asI .i64 (d49.getD 2 .bad)).bind fun n52 =>
    (asI .i64 (d49.getD 3 .bad)).bind fun n53 =>
    (stA r46.2.1 (nx + 14) 5 (.agg [(.int .i64 n37), (.int .i64 n41), (.int .i64 0), (.int .i64 n47), (.int .i64 n50), (.int .i64 n51), (.int .i64 n52), (.int .i64 n53)]) 8).bind fun b54 =>
    let h55 := AHeap.put r46.2.1 (nx + 14) (some b54)
    ifKept [(h33, r36.2.1, [nx]), (h33, r36.2.1, [nx]), (h33, r36.2.1, [(nx + 14)]), (h33, r36.2.1, [nx]), (r36.2.1, r40.2.1, [nx]), (r36.2.1, r40.2.1, [(nx + 14)]), (r36.2.1, r40.2.1, [nx]), (r40.2.1, r46.2.1, [nx])]
    ((ldA h55 nx 7).bind fun v56 =>
    (asI .i64 v56).bind fun n57 =>
    (ldA h55 (nx + 14) 6).bind fun v58 =>
    (asI .i64 v58).bind fun n59 =>
    ((callP Try.prog keepT n) Y 15 [(.int .i64 n57), (.int .i64 (wrapA .i64 ((wrapA .i64 (n59 * 128)) + 1)))] h55 (r46.2.2 + 11)).bind fun r60 =>
    (asI .i64 r60.1).bind fun n61 =>
    (stA r60.2.1 (nx + 14) 7 (.int .i64 n61) 1).bind fun b62 =>
    let h63 := AHeap.put r60.2.1 (nx + 14) (some b62)
    (ldR h63 (nx + 14) 0 13).bind fun l64 =>
    (asAgg 13 (AV.agg l64)).bind fun d65 =>
    (asI .i64 (d65.getD 0 .bad)).bind fun n66 =>
    (asI .i64 (d65.getD 1 .bad)).bind fun n67 =>
    (asI .i64 (d65.getD 2 .bad)).bind fun n68 =>
    (asI .i64 (d65.getD 3 .bad)).bind fun n69 =>
    (asI .i64 (d65.getD 4 .bad)).bind fun n70 =>
    (asI .i64 (d65.getD 5 .bad)).bind fun n71 =>
    (asI .i64 (d65.getD 6 .bad)).bind fun n72 =>
    (asI .i64 (d65.getD 7 .bad)).bind fun n73 =>
    (asI .i64 (d65.getD 8 .bad)).bind fun n74 =>
    (asI .i64 (d65.getD 9 .bad)).bind fun n75 =>
    (asI .i64 (d65.getD 10 .bad)).bind fun n76 =>
    (asI .i64 (d65.getD 11 .bad)).bind fun n77 =>
    (asI .i64 (d65.getD 12 .bad)).bind fun n78 =>
    (stA h63 (nx + 1) 0 (.agg [(.int .i64 n66), (.int .i64 n67), (.int .i64 n68), (.int .i64 n69), (.int .i64 n70), (.int .i64 n71), (.int .i64 n72), (.int .i64 n73), (.int .i64 n74), (.int .i64 n75), (.int .i64 n76), (.int .i64 n77), (.int .i64 n78)]) 13).bind fun b79 =>
    let h80 := AHeap.put h63 (nx + 1) (some b79)
    (ldR h80 (nx + 1) 0 13).bind fun l81 =>
    (asAgg 13 (AV.agg l81)).bind fun d82 =>
    (asI .i64 (d82.getD 0 .bad)).bind fun n83 =>
    (asI .i64 (d82.getD 1 .bad)).bind fun n84 =>
    (asI .i64 (d82.getD 2 .bad)).bind fun n85 =>
    (asI .i64 (d82.getD 3 .bad)).bind fun n86 =>
    (asI .i64 (d82.getD 4 .bad)).bind fun n87 =>
    (asI .i64 (d82.getD 5 .bad)).bind fun n88 =>
    (asI .i64 (d82.getD 6 .bad)).bind fun n89 =>
    (asI .i64 (d82.getD 7 .bad)).bind fun n90 =>
    (asI .i64 (d82.getD 8 .bad)).bind fun n91 =>
    (asI .i64 (d82.getD 9 .bad)).bind fun n92 =>
    (asI .i64 (d82.getD 10 .bad)).bind fun n93 =>
    (asI .i64 (d82.getD 11 .bad)).bind fun n94 =>
    (asI .i64 (d82.getD 12 .bad)).bind fun n95 =>
    some ((.agg [(.int .i64 n83), (.int .i64 n84), (.int .i64 n85), (.int .i64 n86), (.int .i64 n87), (.int .i64 n88), (.int .i64 n89), (.int .i64 n90), (.int .i64 n91), (.int .i64 n92), (.int .i64 n93), (.int .i64 n94), (.int .i64 n95)]), h80, (r60.2.2 + 2)))))) := F24_eq' go1 n Y x0_0 x0_1 x0_2 x0_3 x0_4 x0_5 x0_6 x0_7 x0_8 x0_9 x0_10 x0_11 h nx

noncomputable def c25 : Code := (Try.f25.body).getD .skip

noncomputable def r25 : List ResultVar := Try.f25.results.toList

noncomputable def F25_L1' (W J : StepF (AV × AHeap × Nat) → StepF (AV × AHeap × Nat)) (call : YldF → CallF) (Y : YldF) (lf : Nat) (n0 : Nat) (x1 : Option (Nat × Nat)) (x4a : Option (Nat × Nat)) (x4n : Nat) (x4c : Bool) (x17 : List AV) (x18 : Int) (h : AHeap) (nx : Nat) : Option (AV × AHeap × Nat) :=
  goK W J drawK (machOf Try.prog) call Y (keepT 25) lf c25 [1, 1, 1, 0, 1, 0, 9] [n0] (retK (machOf Try.prog) ⟨c25, 57, r25, keepT 25⟩) ⟨57, mkL [(1, (.ptr x1)), (4, (.slice x4a x4n x4c)), (17, (.agg x17)), (18, (.int .i64 x18))]⟩ h nx

noncomputable def F25_L1 (call : YldF → CallF) (Y : YldF) (lf : Nat) (n0 : Nat) (x1 : Option (Nat × Nat)) (x4a : Option (Nat × Nat)) (x4n : Nat) (x4c : Bool) (x17 : List AV) (x18 : Int) (h : AHeap) (nx : Nat) : Option (AV × AHeap × Nat) := F25_L1' go1 go1 call Y lf n0 x1 x4a x4n x4c x17 x18 h nx

noncomputable def F25_L2' (W J : StepF (AV × AHeap × Nat) → StepF (AV × AHeap × Nat)) (call : YldF → CallF) (Y : YldF) (lf : Nat) (n0 : Nat) (x4a : Option (Nat × Nat)) (x4n : Nat) (x4c : Bool) (x29 : List AV) (x30 : Int) (h : AHeap) (nx : Nat) : Option (AV × AHeap × Nat) :=
  goK W J drawK (machOf Try.prog) call Y (keepT 25) lf c25 [1, 1, 1, 1, 0, 1, 0, 9] [n0] (retK (machOf Try.prog) ⟨c25, 57, r25, keepT 25⟩) ⟨57, mkL [(4, (.slice x4a x4n x4c)), (29, (.agg x29)), (30, (.int .i64 x30))]⟩ h nx

noncomputable def F25_L2 (call : YldF → CallF) (Y : YldF) (lf : Nat) (n0 : Nat) (x4a : Option (Nat × Nat)) (x4n : Nat) (x4c : Bool) (x29 : List AV) (x30 : Int) (h : AHeap) (nx : Nat) : Option (AV × AHeap × Nat) := F25_L2' go1 go1 call Y lf n0 x4a x4n x4c x29 x30 h nx

noncomputable def F25_L3' (W J : StepF (AV × AHeap × Nat) → StepF (AV × AHeap × Nat)) (call : YldF → CallF) (Y : YldF) (lf : Nat) (n0 : Nat) (x4a : Option (Nat × Nat)) (x4n : Nat) (x4c : Bool) (x46 : List AV) (x47 : Int) (h : AHeap) (nx : Nat) : Option (AV × AHeap × Nat) :=
  goK W J drawK (machOf Try.prog) call Y (keepT 25) lf c25 [1, 1, 1, 1, 1, 1, 1, 0, 1, 0, 9] [n0] (retK (machOf Try.prog) ⟨c25, 57, r25, keepT 25⟩) ⟨57, mkL [(4, (.slice x4a x4n x4c)), (46, (.agg x46)), (47, (.int .i64 x47))]⟩ h nx

noncomputable def F25_L3 (call : YldF → CallF) (Y : YldF) (lf : Nat) (n0 : Nat) (x4a : Option (Nat × Nat)) (x4n : Nat) (x4c : Bool) (x46 : List AV) (x47 : Int) (h : AHeap) (nx : Nat) : Option (AV × AHeap × Nat) := F25_L3' go1 go1 call Y lf n0 x4a x4n x4c x46 x47 h nx

theorem F25_L1_eq' (J : StepF (AV × AHeap × Nat) → StepF (AV × AHeap × Nat)) (call : YldF → CallF) (Y : YldF) (lf : Nat) (n0 : Nat) (x1 : Option (Nat × Nat)) (x4a : Option (Nat × Nat)) (x4n : Nat) (x4c : Bool) (x17 : List AV) (x18 : Int) (h : AHeap) (nx : Nat) : F25_L1' go1 J call Y lf (n0 + 1) x1 x4a x4n x4c x17 x18 h nx =
    if (decide ((x18 : Int) < 9)) = true then
    (if 0 ≤ (x18 : Int) ∧ x18 < ((9 : Nat) : Int) then
    ((x17[(Int.toNat x18 * 1)]?).bind fun c1 =>
    (asP c1).bind fun p2 =>
    (p2).bind fun p3 =>
    (ldA h p3.1 p3.2).bind fun v4 =>
    (asI .i64 v4).bind fun n5 =>
    (call Y 40 [(.slice x4a x4n x4c), (.int .i64 n5), (.int .i64 4)] h (nx + 9)).bind fun r6 =>
    (asSl r6.1).bind fun s7 =>
    F25_L1' J J call Y lf n0 x1 s7.1 s7.2.1 s7.2.2 x17 (wrapA .i64 (x18 + 1)) r6.2.1 (r6.2.2 + 2))
    else none)
    else
    ((x1).bind fun p8 =>
    (call Y 41 [(.ptr (some (p8.1, ((p8.2 + 5) + 4))))] h (nx + 5)).bind fun r9 =>
    (asRow r9.1).bind fun d10 =>
    F25_L2' J J call Y lf lf x4a x4n x4c d10 0 r9.2.1 r9.2.2) := by kernel_rfl

theorem F25_L1_eq (call : YldF → CallF) (Y : YldF) (lf : Nat) (n0 : Nat) (x1 : Option (Nat × Nat)) (x4a : Option (Nat × Nat)) (x4n : Nat) (x4c : Bool) (x17 : List AV) (x18 : Int) (h : AHeap) (nx : Nat) : F25_L1 call Y lf (n0 + 1) x1 x4a x4n x4c x17 x18 h nx =
    if (decide ((x18 : Int) < 9)) = true then
    (if 0 ≤ (x18 : Int) ∧ x18 < ((9 : Nat) : Int) then
    ((x17[(Int.toNat x18 * 1)]?).bind fun c1 =>
    (asP c1).bind fun p2 =>
    (p2).bind fun p3 =>
    (ldA h p3.1 p3.2).bind fun v4 =>
    (asI .i64 v4).bind fun n5 =>
    (call Y 40 [(.slice x4a x4n x4c), (.int .i64 n5), (.int .i64 4)] h (nx + 9)).bind fun r6 =>
    (asSl r6.1).bind fun s7 =>
    F25_L1 call Y lf n0 x1 s7.1 s7.2.1 s7.2.2 x17 (wrapA .i64 (x18 + 1)) r6.2.1 (r6.2.2 + 2))
    else none)
    else
    ((x1).bind fun p8 =>
    (call Y 41 [(.ptr (some (p8.1, ((p8.2 + 5) + 4))))] h (nx + 5)).bind fun r9 =>
    (asRow r9.1).bind fun d10 =>
    F25_L2 call Y lf lf x4a x4n x4c d10 0 r9.2.1 r9.2.2) := F25_L1_eq' go1 call Y lf n0 x1 x4a x4n x4c x17 x18 h nx

theorem F25_L1_zero (call : YldF → CallF) (Y : YldF) (lf : Nat) (x1 : Option (Nat × Nat)) (x4a : Option (Nat × Nat)) (x4n : Nat) (x4c : Bool) (x17 : List AV) (x18 : Int) (h : AHeap) (nx : Nat) : F25_L1 call Y lf 0 x1 x4a x4n x4c x17 x18 h nx = none := by kernel_rfl

theorem F25_L2_eq' (J : StepF (AV × AHeap × Nat) → StepF (AV × AHeap × Nat)) (call : YldF → CallF) (Y : YldF) (lf : Nat) (n0 : Nat) (x4a : Option (Nat × Nat)) (x4n : Nat) (x4c : Bool) (x29 : List AV) (x30 : Int) (h : AHeap) (nx : Nat) : F25_L2' go1 J call Y lf (n0 + 1) x4a x4n x4c x29 x30 h nx =
    if (decide ((x30 : Int) < 4)) = true then
    (if 0 ≤ (x30 : Int) ∧ x30 < ((4 : Nat) : Int) then
    ((x29[(Int.toNat x30 * 1)]?).bind fun c1 =>
    (asP c1).bind fun p2 =>
    (p2).bind fun p3 =>
    (ldA h p3.1 p3.2).bind fun v4 =>
    (asI .i64 v4).bind fun n5 =>
    (call Y 40 [(.slice x4a x4n x4c), (.int .i64 n5), (.int .i64 8)] h (nx + 9)).bind fun r6 =>
    (asSl r6.1).bind fun s7 =>
    F25_L2' J J call Y lf n0 s7.1 s7.2.1 s7.2.2 x29 (wrapA .i64 (x30 + 1)) r6.2.1 (r6.2.2 + 2))
    else none)
    else
    ((cutA h x4a x4n x4c 1 none (some (.int .i64 96)) none).bind fun s8 =>
    (call Y 42 [(.slice s8.1 s8.2.1 s8.2.2)] h (nx + 12)).bind fun r9 =>
    (asTup 2 r9.1).bind fun d10 =>
    (asAgg 4 (d10.getD 0 .bad)).bind fun d11 =>
    (asI .i64 (d11.getD 0 .bad)).bind fun n12 =>
    (asI .i64 (d11.getD 1 .bad)).bind fun n13 =>
    (asI .i64 (d11.getD 2 .bad)).bind fun n14 =>
    (asI .i64 (d11.getD 3 .bad)).bind fun n15 =>
    (asI .i64 (d10.getD 1 .bad)).bind fun n16 =>
    let h17 := AHeap.put r9.2.1 (nx + 9) (some ⟨[(.int .i64 0), (.int .i64 0), (.int .i64 0), (.int .i64 0)], 4, true⟩)
    (stA h17 (nx + 9) 0 (.agg [(.int .i64 n12), (.int .i64 n13), (.int .i64 n14), (.int .i64 n15)]) 4).bind fun b18 =>
    let h19 := AHeap.put h17 (nx + 9) (some b18)
    (call Y 41 [(.ptr (some ((nx + 9), 0)))] h19 (r9.2.2 + 2)).bind fun r20 =>
    (asRow r20.1).bind fun d21 =>
    F25_L3' J J call Y lf lf s8.1 s8.2.1 s8.2.2 d21 0 r20.2.1 r20.2.2) := by kernel_rfl

theorem F25_L2_eq (call : YldF → CallF) (Y : YldF) (lf : Nat) (n0 : Nat) (x4a : Option (Nat × Nat)) (x4n : Nat) (x4c : Bool) (x29 : List AV) (x30 : Int) (h : AHeap) (nx : Nat) : F25_L2 call Y lf (n0 + 1) x4a x4n x4c x29 x30 h nx =
    if (decide ((x30 : Int) < 4)) = true then
    (if 0 ≤ (x30 : Int) ∧ x30 < ((4 : Nat) : Int) then
    ((x29[(Int.toNat x30 * 1)]?).bind fun c1 =>
    (asP c1).bind fun p2 =>
    (p2).bind fun p3 =>
    (ldA h p3.1 p3.2).bind fun v4 =>
    (asI .i64 v4).bind fun n5 =>
    (call Y 40 [(.slice x4a x4n x4c), (.int .i64 n5), (.int .i64 8)] h (nx + 9)).bind fun r6 =>
    (asSl r6.1).bind fun s7 =>
    F25_L2 call Y lf n0 s7.1 s7.2.1 s7.2.2 x29 (wrapA .i64 (x30 + 1)) r6.2.1 (r6.2.2 + 2))
    else none)
    else
    ((cutA h x4a x4n x4c 1 none (some (.int .i64 96)) none).bind fun s8 =>
    (call Y 42 [(.slice s8.1 s8.2.1 s8.2.2)] h (nx + 12)).bind fun r9 =>
    (asTup 2 r9.1).bind fun d10 =>
    (asAgg 4 (d10.getD 0 .bad)).bind fun d11 =>
    (asI .i64 (d11.getD 0 .bad)).bind fun n12 =>
    (asI .i64 (d11.getD 1 .bad)).bind fun n13 =>
    (asI .i64 (d11.getD 2 .bad)).bind fun n14 =>
    (asI .i64 (d11.getD 3 .bad)).bind fun n15 =>
    (asI .i64 (d10.getD 1 .bad)).bind fun n16 =>
    let h17 := AHeap.put r9.2.1 (nx + 9) (some ⟨[(.int .i64 0), (.int .i64 0), (.int .i64 0), (.int .i64 0)], 4, true⟩)
    (stA h17 (nx + 9) 0 (.agg [(.int .i64 n12), (.int .i64 n13), (.int .i64 n14), (.int .i64 n15)]) 4).bind fun b18 =>
    let h19 := AHeap.put h17 (nx + 9) (some b18)
    (call Y 41 [(.ptr (some ((nx + 9), 0)))] h19 (r9.2.2 + 2)).bind fun r20 =>
    (asRow r20.1).bind fun d21 =>
    F25_L3 call Y lf lf s8.1 s8.2.1 s8.2.2 d21 0 r20.2.1 r20.2.2) := F25_L2_eq' go1 call Y lf n0 x4a x4n x4c x29 x30 h nx

theorem F25_L2_zero (call : YldF → CallF) (Y : YldF) (lf : Nat) (x4a : Option (Nat × Nat)) (x4n : Nat) (x4c : Bool) (x29 : List AV) (x30 : Int) (h : AHeap) (nx : Nat) : F25_L2 call Y lf 0 x4a x4n x4c x29 x30 h nx = none := by kernel_rfl

theorem F25_L3_eq' (J : StepF (AV × AHeap × Nat) → StepF (AV × AHeap × Nat)) (call : YldF → CallF) (Y : YldF) (lf : Nat) (n0 : Nat) (x4a : Option (Nat × Nat)) (x4n : Nat) (x4c : Bool) (x46 : List AV) (x47 : Int) (h : AHeap) (nx : Nat) : F25_L3' go1 J call Y lf (n0 + 1) x4a x4n x4c x46 x47 h nx =
    if (decide ((x47 : Int) < 4)) = true then
    (if 0 ≤ (x47 : Int) ∧ x47 < ((4 : Nat) : Int) then
    ((x46[(Int.toNat x47 * 1)]?).bind fun c1 =>
    (asP c1).bind fun p2 =>
    (p2).bind fun p3 =>
    (ldA h p3.1 p3.2).bind fun v4 =>
    (asI .i64 v4).bind fun n5 =>
    (call Y 40 [(.slice x4a x4n x4c), (.int .i64 n5), (.int .i64 8)] h (nx + 9)).bind fun r6 =>
    (asSl r6.1).bind fun s7 =>
    F25_L3' J J call Y lf n0 s7.1 s7.2.1 s7.2.2 x46 (wrapA .i64 (x47 + 1)) r6.2.1 (r6.2.2 + 2))
    else none)
    else
    (some ((.tuple [(.slice x4a x4n x4c), (.int .i64 0)]), h, (nx + 4))) := by kernel_rfl

theorem F25_L3_eq (call : YldF → CallF) (Y : YldF) (lf : Nat) (n0 : Nat) (x4a : Option (Nat × Nat)) (x4n : Nat) (x4c : Bool) (x46 : List AV) (x47 : Int) (h : AHeap) (nx : Nat) : F25_L3 call Y lf (n0 + 1) x4a x4n x4c x46 x47 h nx =
    if (decide ((x47 : Int) < 4)) = true then
    (if 0 ≤ (x47 : Int) ∧ x47 < ((4 : Nat) : Int) then
    ((x46[(Int.toNat x47 * 1)]?).bind fun c1 =>
    (asP c1).bind fun p2 =>
    (p2).bind fun p3 =>
    (ldA h p3.1 p3.2).bind fun v4 =>
    (asI .i64 v4).bind fun n5 =>
    (call Y 40 [(.slice x4a x4n x4c), (.int .i64 n5), (.int .i64 8)] h (nx + 9)).bind fun r6 =>
    (asSl r6.1).bind fun s7 =>
    F25_L3 call Y lf n0 s7.1 s7.2.1 s7.2.2 x46 (wrapA .i64 (x47 + 1)) r6.2.1 (r6.2.2 + 2))
    else none)
    else
    (some ((.tuple [(.slice x4a x4n x4c), (.int .i64 0)]), h, (nx + 4))) := F25_L3_eq' go1 call Y lf n0 x4a x4n x4c x46 x47 h nx

theorem F25_L3_zero (call : YldF → CallF) (Y : YldF) (lf : Nat) (x4a : Option (Nat × Nat)) (x4n : Nat) (x4c : Bool) (x46 : List AV) (x47 : Int) (h : AHeap) (nx : Nat) : F25_L3 call Y lf 0 x4a x4n x4c x46 x47 h nx = none := by kernel_rfl

theorem F25_eq' (J : StepF (AV × AHeap × Nat) → StepF (AV × AHeap × Nat)) (n : Nat) (Y : YldF) (x0_0 : Int) (x0_1 : Int) (x0_2 : Int) (x0_3 : Int) (x0_4 : Int) (x0_5 : Int) (x0_6 : Int) (x0_7 : Int) (x0_8 : Int) (x0_9 : Int) (x0_10 : Int) (x0_11 : Int) (x0_12 : Int) (h : AHeap) (nx : Nat) : rootJ J Try.prog keepT (callP Try.prog keepT n) Y n 25 [(.agg [(.int .i64 x0_0), (.int .i64 x0_1), (.int .i64 x0_2), (.int .i64 x0_3), (.int .i64 x0_4), (.int .i64 x0_5), (.int .i64 x0_6), (.int .i64 x0_7), (.int .i64 x0_8), (.int .i64 x0_9), (.int .i64 x0_10), (.int .i64 x0_11), (.int .i64 x0_12)])] h nx =
    let h1 := AHeap.put h nx (some ⟨[(.int .i64 x0_0), (.int .i64 x0_1), (.int .i64 x0_2), (.int .i64 x0_3), (.int .i64 x0_4), (.int .i64 x0_5), (.int .i64 x0_6), (.int .i64 x0_7), (.int .i64 x0_8), (.int .i64 x0_9), (.int .i64 x0_10), (.int .i64 x0_11), (.int .i64 x0_12)], 13, true⟩)
    (ldR h1 nx 0 13).bind fun l2 =>
    (asAgg 13 (AV.agg l2)).bind fun d3 =>
    (asI .i64 (d3.getD 0 .bad)).bind fun n4 =>
    (asI .i64 (d3.getD 1 .bad)).bind fun n5 =>
    (asI .i64 (d3.getD 2 .bad)).bind fun n6 =>
    (asI .i64 (d3.getD 3 .bad)).bind fun n7 =>
    (asI .i64 (d3.getD 4 .bad)).bind fun n8 =>
    (asI .i64 (d3.getD 5 .bad)).bind fun n9 =>
    (asI .i64 (d3.getD 6 .bad)).bind fun n10 =>
    (asI .i64 (d3.getD 7 .bad)).bind fun n11 =>
    (asI .i64 (d3.getD 8 .bad)).bind fun n12 =>
    (asI .i64 (d3.getD 9 .bad)).bind fun n13 =>
    (asI .i64 (d3.getD 10 .bad)).bind fun n14 =>
    (asI .i64 (d3.getD 11 .bad)).bind fun n15 =>
    (asI .i64 (d3.getD 12 .bad)).bind fun n16 =>
    ((callP Try.prog keepT n) Y 27 [(.agg [(.int .i64 n4), (.int .i64 n5), (.int .i64 n6), (.int .i64 n7), (.int .i64 n8), (.int .i64 n9), (.int .i64 n10), (.int .i64 n11), (.int .i64 n12), (.int .i64 n13), (.int .i64 n14), (.int .i64 n15), (.int .i64 n16)])] h1 (nx + 6)).bind fun r17 =>
    (asB r17.1).bind fun t18 =>
    if (!t18) = true then
    (some ((.tuple [(.slice none 0 false), (.int .i64 4)]), r17.2.1, (r17.2.2 + 2)))
    else
    (if (decide (0 ≤ (0 : Int)) && decide ((0 : Int) ≤ 128) && decide (((1 : Nat) : Int) * 128 ≤ 281474976710656) && decide ((128 : Int) ≤ 9223372036854775807) && 1 != 0) = true then
    (let h19 := AHeap.put r17.2.1 r17.2.2 (some ⟨(madeA [(.int .u8 0)] (Int.toNat 0 * 1)), 1, true⟩)
    ((callP Try.prog keepT n) Y 39 [(.ptr (some (nx, 0)))] h19 (r17.2.2 + 4)).bind fun r20 =>
    (asRow r20.1).bind fun d21 =>
    F25_L1' J J (callP Try.prog keepT n) Y n n (some (nx, 0)) (some (r17.2.2, 0)) (Int.toNat 0) (0 == 128) d21 0 r20.2.1 r20.2.2)
    else none) := by kernel_rfl

/-- quickset/label.Encode -/
theorem F25_eq (n : Nat) (Y : YldF) (x0_0 : Int) (x0_1 : Int) (x0_2 : Int) (x0_3 : Int) (x0_4 : Int) (x0_5 : Int) (x0_6 : Int) (x0_7 : Int) (x0_8 : Int) (x0_9 : Int) (x0_10 : Int) (x0_11 : Int) (x0_12 : Int) (h : AHeap) (nx : Nat) : callP Try.prog keepT (n + 1) Y 25 [(.agg [(.int .i64 x0_0), (.int .i64 x0_1), (.int .i64 x0_2), (.int .i64 x0_3), (.int .i64 x0_4), (.int .i64 x0_5), (.int .i64 x0_6), (.int .i64 x0_7), (.int .i64 x0_8), (.int .i64 x0_9), (.int .i64 x0_10), (.int .i64 x0_11), (.int .i64 x0_12)])] h nx =
    let h1 := AHeap.put h nx (some ⟨[(.int .i64 x0_0), (.int .i64 x0_1), (.int .i64 x0_2), (.int .i64 x0_3), (.int .i64 x0_4), (.int .i64 x0_5), (.int .i64 x0_6), (.int .i64 x0_7), (.int .i64 x0_8), (.int .i64 x0_9), (.int .i64 x0_10), (.int .i64 x0_11), (.int .i64 x0_12)], 13, true⟩)
    (ldR h1 nx 0 13).bind fun l2 =>
    (asAgg 13 (AV.agg l2)).bind fun d3 =>
    (asI .i64 (d3.getD 0 .bad)).bind fun n4 =>
    (asI .i64 (d3.getD 1 .bad)).bind fun n5 =>
    (asI .i64 (d3.getD 2 .bad)).bind fun n6 =>
    (asI .i64 (d3.getD 3 .bad)).bind fun n7 =>
    (asI .i64 (d3.getD 4 .bad)).bind fun n8 =>
    (asI .i64 (d3.getD 5 .bad)).bind fun n9 =>
    (asI .i64 (d3.getD 6 .bad)).bind fun n10 =>
    (asI .i64 (d3.getD 7 .bad)).bind fun n11 =>
    (asI .i64 (d3.getD 8 .bad)).bind fun n12 =>
    (asI .i64 (d3.getD 9 .bad)).bind fun n13 =>
    (asI .i64 (d3.getD 10 .bad)).bind fun n14 =>
    (asI .i64 (d3.getD 11 .bad)).bind fun n15 =>
    (asI .i64 (d3.getD 12 .bad)).bind fun n16 =>
    ((callP Try.prog keepT n) Y 27 [(.agg [(.int .i64 n4), (.int .i64 n5), (.int .i64 n6), (.int .i64 n7), (.int .i64 n8), (.int .i64 n9), (.int .i64 n10), (.int .i64 n11), (.int .i64 n12), (.int .i64 n13), (.int .i64 n14), (.int .i64 n15), (.int .i64 n16)])] h1 (nx + 6)).bind fun r17 =>
    (asB r17.1).bind fun t18 =>
    if (!t18) = true then
    (some ((.tuple [(.slice none 0 false), (.int .i64 4)]), r17.2.1, (r17.2.2 + 2)))
    else
    (if (decide (0 ≤ (0 : Int)) && decide ((0 : Int) ≤ 128) && decide (((1 : Nat) : Int) * 128 ≤ 281474976710656) && decide ((128 : Int) ≤ 9223372036854775807) && 1 != 0) = true then
    (let h19 := AHeap.put r17.2.1 r17.2.2 (some ⟨(madeA [(.int .u8 0)] (Int.toNat 0 * 1)), 1, true⟩)
    ((callP Try.prog keepT n) Y 39 [(.ptr (some (nx, 0)))] h19 (r17.2.2 + 4)).bind fun r20 =>
    (asRow r20.1).bind fun d21 =>
    F25_L1 (callP Try.prog keepT n) Y n n (some (nx, 0)) (some (r17.2.2, 0)) (Int.toNat 0) (0 == 128) d21 0 r20.2.1 r20.2.2)
    else none) := F25_eq' go1 n Y x0_0 x0_1 x0_2 x0_3 x0_4 x0_5 x0_6 x0_7 x0_8 x0_9 x0_10 x0_11 x0_12 h nx

noncomputable def c26 : Code := (Try.f26.body).getD .skip

noncomputable def r26 : List ResultVar := Try.f26.results.toList

noncomputable def F26_L1' (W J : StepF (AV × AHeap × Nat) → StepF (AV × AHeap × Nat)) (call : YldF → CallF) (Y : YldF) (lf : Nat) (n0 : Nat) (x0a : Option (Nat × Nat)) (x0n : Nat) (x0c : Bool) (x2 : Option (Nat × Nat)) (x4 : Option (Nat × Nat)) (x5 : Option (Nat × Nat)) (x6 : Option (Nat × Nat)) (x22 : List AV) (x23 : Int) (h : AHeap) (nx : Nat) : Option (AV × AHeap × Nat) :=
  goK W J drawK (machOf Try.prog) call Y (keepT 26) lf c26 [1, 1, 1, 1, 1, 0, 1, 0, 9] [n0] (retK (machOf Try.prog) ⟨c26, 75, r26, keepT 26⟩) ⟨75, mkL [(0, (.slice x0a x0n x0c)), (2, (.ptr x2)), (4, (.ptr x4)), (5, (.ptr x5)), (6, (.ptr x6)), (22, (.agg x22)), (23, (.int .i64 x23))]⟩ h nx

noncomputable def F26_L1 (call : YldF → CallF) (Y : YldF) (lf : Nat) (n0 : Nat) (x0a : Option (Nat × Nat)) (x0n : Nat) (x0c : Bool) (x2 : Option (Nat × Nat)) (x4 : Option (Nat × Nat)) (x5 : Option (Nat × Nat)) (x6 : Option (Nat × Nat)) (x22 : List AV) (x23 : Int) (h : AHeap) (nx : Nat) : Option (AV × AHeap × Nat) := F26_L1' go1 go1 call Y lf n0 x0a x0n x0c x2 x4 x5 x6 x22 x23 h nx

noncomputable def F26_L2' (W J : StepF (AV × AHeap × Nat) → StepF (AV × AHeap × Nat)) (call : YldF → CallF) (Y : YldF) (lf : Nat) (n0 : Nat) (x0a : Option (Nat × Nat)) (x0n : Nat) (x0c : Bool) (x2 : Option (Nat × Nat)) (x4 : Option (Nat × Nat)) (x5 : Option (Nat × Nat)) (x6 : Option (Nat × Nat)) (x32 : List AV) (x33 : Int) (h : AHeap) (nx : Nat) : Option (AV × AHeap × Nat) :=
  goK W J drawK (machOf Try.prog) call Y (keepT 26) lf c26 [1, 1, 1, 1, 1, 1, 0, 1, 0, 9] [n0] (retK (machOf Try.prog) ⟨c26, 75, r26, keepT 26⟩) ⟨75, mkL [(0, (.slice x0a x0n x0c)), (2, (.ptr x2)), (4, (.ptr x4)), (5, (.ptr x5)), (6, (.ptr x6)), (32, (.agg x32)), (33, (.int .i64 x33))]⟩ h nx

noncomputable def F26_L2 (call : YldF → CallF) (Y : YldF) (lf : Nat) (n0 : Nat) (x0a : Option (Nat × Nat)) (x0n : Nat) (x0c : Bool) (x2 : Option (Nat × Nat)) (x4 : Option (Nat × Nat)) (x5 : Option (Nat × Nat)) (x6 : Option (Nat × Nat)) (x32 : List AV) (x33 : Int) (h : AHeap) (nx : Nat) : Option (AV × AHeap × Nat) := F26_L2' go1 go1 call Y lf n0 x0a x0n x0c x2 x4 x5 x6 x32 x33 h nx

noncomputable def F26_L3' (W J : StepF (AV × AHeap × Nat) → StepF (AV × AHeap × Nat)) (call : YldF → CallF) (Y : YldF) (lf : Nat) (n0 : Nat) (x0a : Option (Nat × Nat)) (x0n : Nat) (x0c : Bool) (x2 : Option (Nat × Nat)) (x4 : Option (Nat × Nat)) (x5 : Option (Nat × Nat)) (x6 : Option (Nat × Nat)) (x42 : List AV) (x43 : Int) (h : AHeap) (nx : Nat) : Option (AV × AHeap × Nat) :=
  goK W J drawK (machOf Try.prog) call Y (keepT 26) lf c26 [1, 1, 1, 1, 1, 1, 1, 1, 0, 1, 0, 9] [n0] (retK (machOf Try.prog) ⟨c26, 75, r26, keepT 26⟩) ⟨75, mkL [(0, (.slice x0a x0n x0c)), (2, (.ptr x2)), (4, (.ptr x4)), (5, (.ptr x5)), (6, (.ptr x6)), (42, (.agg x42)), (43, (.int .i64 x43))]⟩ h nx

noncomputable def F26_L3 (call : YldF → CallF) (Y : YldF) (lf : Nat) (n0 : Nat) (x0a : Option (Nat × Nat)) (x0n : Nat) (x0c : Bool) (x2 : Option (Nat × Nat)) (x4 : Option (Nat × Nat)) (x5 : Option (Nat × Nat)) (x6 : Option (Nat × Nat)) (x42 : List AV) (x43 : Int) (h : AHeap) (nx : Nat) : Option (AV × AHeap × Nat) := F26_L3' go1 go1 call Y lf n0 x0a x0n x0c x2 x4 x5 x6 x42 x43 h nx

theorem F26_L1_eq' (J : StepF (AV × AHeap × Nat) → StepF (AV × AHeap × Nat)) (call : YldF → CallF) (Y : YldF) (lf : Nat) (n0 : Nat) (x0a : Option (Nat × Nat)) (x0n : Nat) (x0c : Bool) (x2 : Option (Nat × Nat)) (x4 : Option (Nat × Nat)) (x5 : Option (Nat × Nat)) (x6 : Option (Nat × Nat)) (x22 : List AV) (x23 : Int) (h : AHeap) (nx : Nat) : F26_L1' go1 J call Y lf (n0 + 1) x0a x0n x0c x2 x4 x5 x6 x22 x23 h nx =
    if (decide ((x23 : Int) < 9)) = true then
    (if 0 ≤ (x23 : Int) ∧ x23 < ((9 : Nat) : Int) then
    ((x22[(Int.toNat x23 * 1)]?).bind fun c1 =>
    (asP c1).bind fun p2 =>
    (call Y 43 [(.ptr x6), (.int .i64 4)] h (nx + 7)).bind fun r3 =>
    (asI .i64 r3.1).bind fun n4 =>
    (p2).bind fun p5 =>
    (stA r3.2.1 p5.1 p5.2 (.int .i64 n4) 1).bind fun b6 =>
    let h7 := AHeap.put r3.2.1 p5.1 (some b6)
    F26_L1' J J call Y lf n0 x0a x0n x0c x2 x4 x5 x6 x22 (wrapA .i64 (x23 + 1)) h7 (r3.2.2 + 2))
    else none)
    else
    ((x4).bind fun p8 =>
    (call Y 41 [(.ptr (some (p8.1, ((p8.2 + 5) + 4))))] h (nx + 5)).bind fun r9 =>
    (asRow r9.1).bind fun d10 =>
    F26_L2' J J call Y lf lf x0a x0n x0c x2 x4 x5 x6 d10 0 r9.2.1 r9.2.2) := by kernel_rfl

theorem F26_L1_eq (call : YldF → CallF) (Y : YldF) (lf : Nat) (n0 : Nat) (x0a : Option (Nat × Nat)) (x0n : Nat) (x0c : Bool) (x2 : Option (Nat × Nat)) (x4 : Option (Nat × Nat)) (x5 : Option (Nat × Nat)) (x6 : Option (Nat × Nat)) (x22 : List AV) (x23 : Int) (h : AHeap) (nx : Nat) : F26_L1 call Y lf (n0 + 1) x0a x0n x0c x2 x4 x5 x6 x22 x23 h nx =
    if (decide ((x23 : Int) < 9)) = true then
    (if 0 ≤ (x23 : Int) ∧ x23 < ((9 : Nat) : Int) then
    ((x22[(Int.toNat x23 * 1)]?).bind fun c1 =>
    (asP c1).bind fun p2 =>
    (call Y 43 [(.ptr x6), (.int .i64 4)] h (nx + 7)).bind fun r3 =>
    (asI .i64 r3.1).bind fun n4 =>
    (p2).bind fun p5 =>
    (stA r3.2.1 p5.1 p5.2 (.int .i64 n4) 1).bind fun b6 =>
    let h7 := AHeap.put r3.2.1 p5.1 (some b6)
    F26_L1 call Y lf n0 x0a x0n x0c x2 x4 x5 x6 x22 (wrapA .i64 (x23 + 1)) h7 (r3.2.2 + 2))
    else none)
    else
    ((x4).bind fun p8 =>
    (call Y 41 [(.ptr (some (p8.1, ((p8.2 + 5) + 4))))] h (nx + 5)).bind fun r9 =>
    (asRow r9.1).bind fun d10 =>
    F26_L2 call Y lf lf x0a x0n x0c x2 x4 x5 x6 d10 0 r9.2.1 r9.2.2) := F26_L1_eq' go1 call Y lf n0 x0a x0n x0c x2 x4 x5 x6 x22 x23 h nx

theorem F26_L1_zero (call : YldF → CallF) (Y : YldF) (lf : Nat) (x0a : Option (Nat × Nat)) (x0n : Nat) (x0c : Bool) (x2 : Option (Nat × Nat)) (x4 : Option (Nat × Nat)) (x5 : Option (Nat × Nat)) (x6 : Option (Nat × Nat)) (x22 : List AV) (x23 : Int) (h : AHeap) (nx : Nat) : F26_L1 call Y lf 0 x0a x0n x0c x2 x4 x5 x6 x22 x23 h nx = none := by kernel_rfl

theorem F26_L2_eq' (J : StepF (AV × AHeap × Nat) → StepF (AV × AHeap × Nat)) (call : YldF → CallF) (Y : YldF) (lf : Nat) (n0 : Nat) (x0a : Option (Nat × Nat)) (x0n : Nat) (x0c : Bool) (x2 : Option (Nat × Nat)) (x4 : Option (Nat × Nat)) (x5 : Option (Nat × Nat)) (x6 : Option (Nat × Nat)) (x32 : List AV) (x33 : Int) (h : AHeap) (nx : Nat) : F26_L2' go1 J call Y lf (n0 + 1) x0a x0n x0c x2 x4 x5 x6 x32 x33 h nx =
    if (decide ((x33 : Int) < 4)) = true then
    (if 0 ≤ (x33 : Int) ∧ x33 < ((4 : Nat) : Int) then
    ((x32[(Int.toNat x33 * 1)]?).bind fun c1 =>
    (asP c1).bind fun p2 =>
    (call Y 43 [(.ptr x6), (.int .i64 8)] h (nx + 7)).bind fun r3 =>
    (asI .i64 r3.1).bind fun n4 =>
    (p2).bind fun p5 =>
    (stA r3.2.1 p5.1 p5.2 (.int .i64 n4) 1).bind fun b6 =>
    let h7 := AHeap.put r3.2.1 p5.1 (some b6)
    F26_L2' J J call Y lf n0 x0a x0n x0c x2 x4 x5 x6 x32 (wrapA .i64 (x33 + 1)) h7 (r3.2.2 + 2))
    else none)
    else
    ((cutA h x0a x0n x0c 1 (some (.int .i64 96)) none none).bind fun s8 =>
    (x6).bind fun p9 =>
    (stA h p9.1 p9.2 (.slice s8.1 s8.2.1 s8.2.2) 1).bind fun b10 =>
    let h11 := AHeap.put h p9.1 (some b10)
    (call Y 41 [(.ptr x5)] h11 (nx + 6)).bind fun r12 =>
    (asRow r12.1).bind fun d13 =>
    F26_L3' J J call Y lf lf x0a x0n x0c x2 x4 x5 x6 d13 0 r12.2.1 r12.2.2) := by kernel_rfl

theorem F26_L2_eq (call : YldF → CallF) (Y : YldF) (lf : Nat) (n0 : Nat) (x0a : Option (Nat × Nat)) (x0n : Nat) (x0c : Bool) (x2 : Option (Nat × Nat)) (x4 : Option (Nat × Nat)) (x5 : Option (Nat × Nat)) (x6 : Option (Nat × Nat)) (x32 : List AV) (x33 : Int) (h : AHeap) (nx : Nat) : F26_L2 call Y lf (n0 + 1) x0a x0n x0c x2 x4 x5 x6 x32 x33 h nx =
    if (decide ((x33 : Int) < 4)) = true then
    (if 0 ≤ (x33 : Int) ∧ x33 < ((4 : Nat) : Int) then
    ((x32[(Int.toNat x33 * 1)]?).bind fun c1 =>
    (asP c1).bind fun p2 =>
    (call Y 43 [(.ptr x6), (.int .i64 8)] h (nx + 7)).bind fun r3 =>
    (asI .i64 r3.1).bind fun n4 =>
    (p2).bind fun p5 =>
    (stA r3.2.1 p5.1 p5.2 (.int .i64 n4) 1).bind fun b6 =>
    let h7 := AHeap.put r3.2.1 p5.1 (some b6)
    F26_L2 call Y lf n0 x0a x0n x0c x2 x4 x5 x6 x32 (wrapA .i64 (x33 + 1)) h7 (r3.2.2 + 2))
    else none)
    else
    ((cutA h x0a x0n x0c 1 (some (.int .i64 96)) none none).bind fun s8 =>
    (x6).bind fun p9 =>
    (stA h p9.1 p9.2 (.slice s8.1 s8.2.1 s8.2.2) 1).bind fun b10 =>
    let h11 := AHeap.put h p9.1 (some b10)
    (call Y 41 [(.ptr x5)] h11 (nx + 6)).bind fun r12 =>
    (asRow r12.1).bind fun d13 =>
    F26_L3 call Y lf lf x0a x0n x0c x2 x4 x5 x6 d13 0 r12.2.1 r12.2.2) := F26_L2_eq' go1 call Y lf n0 x0a x0n x0c x2 x4 x5 x6 x32 x33 h nx

theorem F26_L2_zero (call : YldF → CallF) (Y : YldF) (lf : Nat) (x0a : Option (Nat × Nat)) (x0n : Nat) (x0c : Bool) (x2 : Option (Nat × Nat)) (x4 : Option (Nat × Nat)) (x5 : Option (Nat × Nat)) (x6 : Option (Nat × Nat)) (x32 : List AV) (x33 : Int) (h : AHeap) (nx : Nat) : F26_L2 call Y lf 0 x0a x0n x0c x2 x4 x5 x6 x32 x33 h nx = none := by kernel_rfl

theorem F26_L3_eq' (J : StepF (AV × AHeap × Nat) → StepF (AV × AHeap × Nat)) (call : YldF → CallF) (Y : YldF) (lf : Nat) (n0 : Nat) (x0a : Option (Nat × Nat)) (x0n : Nat) (x0c : Bool) (x2 : Option (Nat × Nat)) (x4 : Option (Nat × Nat)) (x5 : Option (Nat × Nat)) (x6 : Option (Nat × Nat)) (x42 : List AV) (x43 : Int) (h : AHeap) (nx : Nat) : F26_L3' go1 J call Y lf (n0 + 1) x0a x0n x0c x2 x4 x5 x6 x42 x43 h nx =
    if (decide ((x43 : Int) < 4)) = true then
    (if 0 ≤ (x43 : Int) ∧ x43 < ((4 : Nat) : Int) then
    ((x42[(Int.toNat x43 * 1)]?).bind fun c1 =>
    (asP c1).bind fun p2 =>
    (call Y 43 [(.ptr x6), (.int .i64 8)] h (nx + 7)).bind fun r3 =>
    (asI .i64 r3.1).bind fun n4 =>
    (p2).bind fun p5 =>
    (stA r3.2.1 p5.1 p5.2 (.int .i64 n4) 1).bind fun b6 =>
    let h7 := AHeap.put r3.2.1 p5.1 (some b6)
    F26_L3' J J call Y lf n0 x0a x0n x0c x2 x4 x5 x6 x42 (wrapA .i64 (x43 + 1)) h7 (r3.2.2 + 2))
    else none)
    else
    ((cutA h x0a x0n x0c 1 none (some (.int .i64 96)) none).bind fun s8 =>
    (call Y 42 [(.slice s8.1 s8.2.1 s8.2.2)] h (nx + 10)).bind fun r9 =>
    (asTup 2 r9.1).bind fun d10 =>
    (asAgg 4 (d10.getD 0 .bad)).bind fun d11 =>
    (asI .i64 (d11.getD 0 .bad)).bind fun n12 =>
    (asI .i64 (d11.getD 1 .bad)).bind fun n13 =>
    (asI .i64 (d11.getD 2 .bad)).bind fun n14 =>
    (asI .i64 (d11.getD 3 .bad)).bind fun n15 =>
    (asI .i64 (d10.getD 1 .bad)).bind fun n16 =>
    let h17 := AHeap.put r9.2.1 (nx + 7) (some ⟨[(.int .i64 0), (.int .i64 0), (.int .i64 0), (.int .i64 0)], 4, true⟩)
    (stA h17 (nx + 7) 0 (.agg [(.int .i64 n12), (.int .i64 n13), (.int .i64 n14), (.int .i64 n15)]) 4).bind fun b18 =>
    let h19 := AHeap.put h17 (nx + 7) (some b18)
    (ldR h19 (nx + 7) 0 4).bind fun l20 =>
    (asAgg 4 (AV.agg l20)).bind fun d21 =>
    (asI .i64 (d21.getD 0 .bad)).bind fun n22 =>
    (asI .i64 (d21.getD 1 .bad)).bind fun n23 =>
    (asI .i64 (d21.getD 2 .bad)).bind fun n24 =>
    (asI .i64 (d21.getD 3 .bad)).bind fun n25 =>
    (x5).bind fun p26 =>
    (ldR h19 p26.1 p26.2 4).bind fun l27 =>
    (asAgg 4 (AV.agg l27)).bind fun d28 =>
    (asI .i64 (d28.getD 0 .bad)).bind fun n29 =>
    (asI .i64 (d28.getD 1 .bad)).bind fun n30 =>
    (asI .i64 (d28.getD 2 .bad)).bind fun n31 =>
    (asI .i64 (d28.getD 3 .bad)).bind fun n32 =>
    if (!eqCells [(.int .i64 n22), (.int .i64 n23), (.int .i64 n24), (.int .i64 n25)] [(.int .i64 n29), (.int .i64 n30), (.int .i64 n31), (.int .i64 n32)]) = true then
    ((x2).bind fun p33 =>
    (stA h19 p33.1 p33.2 (.agg [(.int .i64 0), (.int .i64 0), (.int .i64 0), (.int .i64 0), (.int .i64 0), (.int .i64 0), (.int .i64 0), (.int .i64 0), (.int .i64 0), (.int .i64 0), (.int .i64 0), (.int .i64 0), (.int .i64 0)]) 13).bind fun b34 =>
    let h35 := AHeap.put h19 p33.1 (some b34)
    (x2).bind fun p36 =>
    (ldR h35 p36.1 p36.2 13).bind fun l37 =>
    (asAgg 13 (AV.agg l37)).bind fun d38 =>
    (asI .i64 (d38.getD 0 .bad)).bind fun n39 =>
    (asI .i64 (d38.getD 1 .bad)).bind fun n40 =>
    (asI .i64 (d38.getD 2 .bad)).bind fun n41 =>
    (asI .i64 (d38.getD 3 .bad)).bind fun n42 =>
    (asI .i64 (d38.getD 4 .bad)).bind fun n43 =>
    (asI .i64 (d38.getD 5 .bad)).bind fun n44 =>
    (asI .i64 (d38.getD 6 .bad)).bind fun n45 =>
    (asI .i64 (d38.getD 7 .bad)).bind fun n46 =>
    (asI .i64 (d38.getD 8 .bad)).bind fun n47 =>
    (asI .i64 (d38.getD 9 .bad)).bind fun n48 =>
    (asI .i64 (d38.getD 10 .bad)).bind fun n49 =>
    (asI .i64 (d38.getD 11 .bad)).bind fun n50 =>
    (asI .i64 (d38.getD 12 .bad)).bind fun n51 =>
    some ((.tuple [(.agg [(.int .i64 n39), (.int .i64 n40), (.int .i64 n41), (.int .i64 n42), (.int .i64 n43), (.int .i64 n44), (.int .i64 n45), (.int .i64 n46), (.int .i64 n47), (.int .i64 n48), (.int .i64 n49), (.int .i64 n50), (.int .i64 n51)]), (.int .i64 11)]), h35, (r9.2.2 + 6)))
    else
    ((x4).bind fun p52 =>
    (ldR h19 p52.1 p52.2 13).bind fun l53 =>
    (asAgg 13 (AV.agg l53)).bind fun d54 =>
    (asI .i64 (d54.getD 0 .bad)).bind fun n55 =>
    (asI .i64 (d54.getD 1 .bad)).bind fun n56 =>
    (asI .i64 (d54.getD 2 .bad)).bind fun n57 =>
    (asI .i64 (d54.getD 3 .bad)).bind fun n58 =>
    (asI .i64 (d54.getD 4 .bad)).bind fun n59 =>
    (asI .i64 (d54.getD 5 .bad)).bind fun n60 =>
    (asI .i64 (d54.getD 6 .bad)).bind fun n61 =>
    (asI .i64 (d54.getD 7 .bad)).bind fun n62 =>
    (asI .i64 (d54.getD 8 .bad)).bind fun n63 =>
    (asI .i64 (d54.getD 9 .bad)).bind fun n64 =>
    (asI .i64 (d54.getD 10 .bad)).bind fun n65 =>
    (asI .i64 (d54.getD 11 .bad)).bind fun n66 =>
    (asI .i64 (d54.getD 12 .bad)).bind fun n67 =>
    (call Y 25 [(.agg [(.int .i64 n55), (.int .i64 n56), (.int .i64 n57), (.int .i64 n58), (.int .i64 n59), (.int .i64 n60), (.int .i64 n61), (.int .i64 n62), (.int .i64 n63), (.int .i64 n64), (.int .i64 n65), (.int .i64 n66), (.int .i64 n67)])] h19 (r9.2.2 + 10)).bind fun r68 =>
    (asTup 2 r68.1).bind fun d69 =>
    (asSl (d69.getD 0 .bad)).bind fun s70 =>
    (asI .i64 (d69.getD 1 .bad)).bind fun n71 =>
    if ((n71 : Int) != 0) = true then
    ((x2).bind fun p72 =>
    (stA r68.2.1 p72.1 p72.2 (.agg [(.int .i64 0), (.int .i64 0), (.int .i64 0), (.int .i64 0), (.int .i64 0), (.int .i64 0), (.int .i64 0), (.int .i64 0), (.int .i64 0), (.int .i64 0), (.int .i64 0), (.int .i64 0), (.int .i64 0)]) 13).bind fun b73 =>
    let h74 := AHeap.put r68.2.1 p72.1 (some b73)
    (x2).bind fun p75 =>
    (ldR h74 p75.1 p75.2 13).bind fun l76 =>
    (asAgg 13 (AV.agg l76)).bind fun d77 =>
    (asI .i64 (d77.getD 0 .bad)).bind fun n78 =>
    (asI .i64 (d77.getD 1 .bad)).bind fun n79 =>
    (asI .i64 (d77.getD 2 .bad)).bind fun n80 =>
    (asI .i64 (d77.getD 3 .bad)).bind fun n81 =>
    (asI .i64 (d77.getD 4 .bad)).bind fun n82 =>
    (asI .i64 (d77.getD 5 .bad)).bind fun n83 =>
    (asI .i64 (d77.getD 6 .bad)).bind fun n84 =>
    (asI .i64 (d77.getD 7 .bad)).bind fun n85 =>
    (asI .i64 (d77.getD 8 .bad)).bind fun n86 =>
    (asI .i64 (d77.getD 9 .bad)).bind fun n87 =>
    (asI .i64 (d77.getD 10 .bad)).bind fun n88 =>
    (asI .i64 (d77.getD 11 .bad)).bind fun n89 =>
    (asI .i64 (d77.getD 12 .bad)).bind fun n90 =>
    some ((.tuple [(.agg [(.int .i64 n78), (.int .i64 n79), (.int .i64 n80), (.int .i64 n81), (.int .i64 n82), (.int .i64 n83), (.int .i64 n84), (.int .i64 n85), (.int .i64 n86), (.int .i64 n87), (.int .i64 n88), (.int .i64 n89), (.int .i64 n90)]), (.int .i64 4)]), h74, (r68.2.2 + 11)))
    else
    ((call Y 44 [(.slice s70.1 s70.2.1 s70.2.2), (.slice x0a x0n x0c)] r68.2.1 (r68.2.2 + 8)).bind fun r91 =>
    (asB r91.1).bind fun t92 =>
    if (!t92) = true then
    ((x2).bind fun p93 =>
    (stA r91.2.1 p93.1 p93.2 (.agg [(.int .i64 0), (.int .i64 0), (.int .i64 0), (.int .i64 0), (.int .i64 0), (.int .i64 0), (.int .i64 0), (.int .i64 0), (.int .i64 0), (.int .i64 0), (.int .i64 0), (.int .i64 0), (.int .i64 0)]) 13).bind fun b94 =>
    let h95 := AHeap.put r91.2.1 p93.1 (some b94)
    (x2).bind fun p96 =>
    (ldR h95 p96.1 p96.2 13).bind fun l97 =>
    (asAgg 13 (AV.agg l97)).bind fun d98 =>
    (asI .i64 (d98.getD 0 .bad)).bind fun n99 =>
    (asI .i64 (d98.getD 1 .bad)).bind fun n100 =>
    (asI .i64 (d98.getD 2 .bad)).bind fun n101 =>
    (asI .i64 (d98.getD 3 .bad)).bind fun n102 =>
    (asI .i64 (d98.getD 4 .bad)).bind fun n103 =>
    (asI .i64 (d98.getD 5 .bad)).bind fun n104 =>
    (asI .i64 (d98.getD 6 .bad)).bind fun n105 =>
    (asI .i64 (d98.getD 7 .bad)).bind fun n106 =>
    (asI .i64 (d98.getD 8 .bad)).bind fun n107 =>
    (asI .i64 (d98.getD 9 .bad)).bind fun n108 =>
    (asI .i64 (d98.getD 10 .bad)).bind fun n109 =>
    (asI .i64 (d98.getD 11 .bad)).bind fun n110 =>
    (asI .i64 (d98.getD 12 .bad)).bind fun n111 =>
    some ((.tuple [(.agg [(.int .i64 n99), (.int .i64 n100), (.int .i64 n101), (.int .i64 n102), (.int .i64 n103), (.int .i64 n104), (.int .i64 n105), (.int .i64 n106), (.int .i64 n107), (.int .i64 n108), (.int .i64 n109), (.int .i64 n110), (.int .i64 n111)]), (.int .i64 4)]), h95, (r91.2.2 + 3)))
    else
    ((x4).bind fun p112 =>
    (ldR r91.2.1 p112.1 p112.2 13).bind fun l113 =>
    (asAgg 13 (AV.agg l113)).bind fun d114 =>
    (asI .i64 (d114.getD 0 .bad)).bind fun n115 =>
    (asI .i64 (d114.getD 1 .bad)).bind fun n116 =>
    (asI .i64 (d114.getD 2 .bad)).bind fun n117 =>
    (asI .i64 (d114.getD 3 .bad)).bind fun n118 =>
    (asI .i64 (d114.getD 4 .bad)).bind fun n119 =>
    (asI .i64 (d114.getD 5 .bad)).bind fun n120 =>
    (asI .i64 (d114.getD 6 .bad)).bind fun n121 =>
    (asI .i64 (d114.getD 7 .bad)).bind fun n122 =>
    (asI .i64 (d114.getD 8 .bad)).bind fun n123 =>
    (asI .i64 (d114.getD 9 .bad)).bind fun n124 =>
    (asI .i64 (d114.getD 10 .bad)).bind fun n125 =>
    (asI .i64 (d114.getD 11 .bad)).bind fun n126 =>
    (asI .i64 (d114.getD 12 .bad)).bind fun n127 =>
    (x2).bind fun p128 =>
    (stA r91.2.1 p128.1 p128.2 (.agg [(.int .i64 n115), (.int .i64 n116), (.int .i64 n117), (.int .i64 n118), (.int .i64 n119), (.int .i64 n120), (.int .i64 n121), (.int .i64 n122), (.int .i64 n123), (.int .i64 n124), (.int .i64 n125), (.int .i64 n126), (.int .i64 n127)]) 13).bind fun b129 =>
    let h130 := AHeap.put r91.2.1 p128.1 (some b129)
    (x2).bind fun p131 =>
    (ldR h130 p131.1 p131.2 13).bind fun l132 =>
    (asAgg 13 (AV.agg l132)).bind fun d133 =>
    (asI .i64 (d133.getD 0 .bad)).bind fun n134 =>
    (asI .i64 (d133.getD 1 .bad)).bind fun n135 =>
    (asI .i64 (d133.getD 2 .bad)).bind fun n136 =>
    (asI .i64 (d133.getD 3 .bad)).bind fun n137 =>
    (asI .i64 (d133.getD 4 .bad)).bind fun n138 =>
    (asI .i64 (d133.getD 5 .bad)).bind fun n139 =>
    (asI .i64 (d133.getD 6 .bad)).bind fun n140 =>
    (asI .i64 (d133.getD 7 .bad)).bind fun n141 =>
    (asI .i64 (d133.getD 8 .bad)).bind fun n142 =>
    (asI .i64 (d133.getD 9 .bad)).bind fun n143 =>
    (asI .i64 (d133.getD 10 .bad)).bind fun n144 =>
    (asI .i64 (d133.getD 11 .bad)).bind fun n145 =>
    (asI .i64 (d133.getD 12 .bad)).bind fun n146 =>
    some ((.tuple [(.agg [(.int .i64 n134), (.int .i64 n135), (.int .i64 n136), (.int .i64 n137), (.int .i64 n138), (.int .i64 n139), (.int .i64 n140), (.int .i64 n141), (.int .i64 n142), (.int .i64 n143), (.int .i64 n144), (.int .i64 n145), (.int .i64 n146)]), (.int .i64 0)]), h130, (r91.2.2 + 3)))))) := by kernel_rfl

theorem F26_L3_eq (call : YldF → CallF) (Y : YldF) (lf : Nat) (n0 : Nat) (x0a : Option (Nat × Nat)) (x0n : Nat) (x0c : Bool) (x2 : Option (Nat × Nat)) (x4 : Option (Nat × Nat)) (x5 : Option (Nat × Nat)) (x6 : Option (Nat × Nat)) (x42 : List AV) (x43 : Int) (h : AHeap) (nx : Nat) : F26_L3 call Y lf (n0 + 1) x0a x0n x0c x2 x4 x5 x6 x42 x43 h nx =
    if (decide ((x43 : Int) < 4)) = true then
    (if 0 ≤ (x43 : Int) ∧ x43 < ((4 : Nat) : Int) then
    ((x42[(Int.toNat x43 * 1)]?).bind fun c1 =>
    (asP c1).bind fun p2 =>
    (call Y 43 [(.ptr x6), (.int .i64 8)] h (nx + 7)).bind fun r3 =>
    (asI .i64 r3.1).bind fun n4 =>
    (p2).bind fun p5 =>
    (stA r3.2.1 p5.1 p5.2 (.int .i64 n4) 1).bind fun b6 =>
    let h7 := AHeap.put r3.2.1 p5.1 (some b6)
    F26_L3 call Y lf n0 x0a x0n x0c x2 x4 x5 x6 x42 (wrapA .i64 (x43 + 1)) h7 (r3.2.2 + 2))
    else none)
    else
    ((cutA h x0a x0n x0c 1 none (some (.int .i64 96)) none).bind fun s8 =>
    (call Y 42 [(.slice s8.1 s8.2.1 s8.2.2)] h (nx + 10)).bind fun r9 =>
    (asTup 2 r9.1).bind fun d10 =>
    (asAgg 4 (d10.getD 0 .bad)).bind fun d11 =>
    (asI .i64 (d11.getD 0 .bad)).bind fun n12 =>
    (asI .i64 (d11.getD 1 .bad)).bind fun n13 =>
    (asI .i64 (d11.getD 2 .bad)).bind fun n14 =>
    (asI .i64 (d11.getD 3 .bad)).bind fun n15 =>
    (asI .i64 (d10.getD 1 .bad)).bind fun n16 =>
    let h17 := AHeap.put r9.2.1 (nx + 7) (some ⟨[(.int .i64 0), (.int .i64 0), (.int .i64 0), (.int .i64 0)], 4, true⟩)
    (stA h17 (nx + 7) 0 (.agg [(.int .i64 n12), (.int .i64 n13), (.int .i64 n14), (.int .i64 n15)]) 4).bind fun b18 =>
    let h19 := AHeap.put h17 (nx + 7) (some b18)
    (ldR h19 (nx + 7) 0 4).bind fun l20 =>
    (asAgg 4 (AV.agg l20)).bind fun d21 =>
    (asI .i64 (d21.getD 0 .bad)).bind fun n22 =>
    (asI .i64 (d21.getD 1 .bad)).bind fun n23 =>
    (asI .i64 (d21.getD 2 .bad)).bind fun n24 =>
    (asI .i64 (d21.getD 3 .bad)).bind fun n25 =>
    (x5).bind fun p26 =>
    (ldR h19 p26.1 p26.2 4).bind fun l27 =>
    (asAgg 4 (AV.agg l27)).bind fun d28 =>
    (asI .i64 (d28.getD 0 .bad)).bind fun n29 =>
    (asI .i64 (d28.getD 1 .bad)).bind fun n30 =>
    (asI .i64 (d28.getD 2 .bad)).bind fun n31 =>
    (asI .i64 (d28.getD 3 .bad)).bind fun n32 =>
    if (!eqCells [(.int .i64 n22), (.int .i64 n23), (.int .i64 n24), (.int .i64 n25)] [(.int .i64 n29), (.int .i64 n30), (.int .i64 n31), (.int .i64 n32)]) = true then
    ((x2).bind fun p33 =>
    (stA h19 p33.1 p33.2 (.agg [(.int .i64 0), (.int .i64 0), (.int .i64 0), (.int .i64 0), (.int .i64 0), (.int .i64 0), (.int .i64 0), (.int .i64 0), (.int .i64 0), (.int .i64 0), (.int .i64 0), (.int .i64 0), (.int .i64 0)]) 13).bind fun b34 =>
    let h35 := AHeap.put h19 p33.1 (some b34)
    (x2).bind fun p36 =>
    (ldR h35 p36.1 p36.2 13).bind fun l37 =>
    (asAgg 13 (AV.agg l37)).bind fun d38 =>
    (asI .i64 (d38.getD 0 .bad)).bind fun n39 =>
    (asI .i64 (d38.getD 1 .bad)).bind fun n40 =>
    (asI .i64 (d38.getD 2 .bad)).bind fun n41 =>
    (asI .i64 (d38.getD 3 .bad)).bind fun n42 =>
    (asI .i64 (d38.getD 4 .bad)).bind fun n43 =>
    (asI .i64 (d38.getD 5 .bad)).bind fun n44 =>
    (asI .i64 (d38.getD 6 .bad)).bind fun n45 =>
    (asI .i64 (d38.getD 7 .bad)).bind fun n46 =>
    (asI .i64 (d38.getD 8 .bad)).bind fun n47 =>
    (asI .i64 (d38.getD 9 .bad)).bind fun n48 =>
    (asI .i64 (d38.getD 10 .bad)).bind fun n49 =>
    (asI .i64 (d38.getD 11 .bad)).bind fun n50 =>
    (asI .i64 (d38.getD 12 .bad)).bind fun n51 =>
    some ((.tuple [(.agg [(.int .i64 n39), (.int .i64 n40), (.int .i64 n41), (.int .i64 n42), (.int .i64 n43), (.int .i64 n44), (.int .i64 n45), (.int .i64 n46), (.int .i64 n47), (.int .i64 n48), (.int .i64 n49), (.int .i64 n50), (.int .i64 n51)]), (.int .i64 11)]), h35, (r9.2.2 + 6)))
    else
    ((x4).bind fun p52 =>
    (ldR h19 p52.1 p52.2 13).bind fun l53 =>
    (asAgg 13 (AV.agg l53)).bind fun d54 =>
    (asI .i64 (d54.getD 0 .bad)).bind fun n55 =>
    (asI .i64 (d54.getD 1 .bad)).bind fun n56 =>
    (asI .i64 (d54.getD 2 .bad)).bind fun n57 =>
    (asI .i64 (d54.getD 3 .bad)).bind fun n58 =>
    (asI .i64 (d54.getD 4 .bad)).bind fun n59 =>
    (asI .i64 (d54.getD 5 .bad)).bind fun n60 =>
    (asI .i64 (d54.getD 6 .bad)).bind fun n61 =>
    (asI .i64 (d54.getD 7 .bad)).bind fun n62 =>
    (asI .i64 (d54.getD 8 .bad)).bind fun n63 =>
    (asI .i64 (d54.getD 9 .bad)).bind fun n64 =>
    (asI .i64 (d54.getD 10 .bad)).bind fun n65 =>
    (asI .i64 (d54.getD 11 .bad)).bind fun n66 =>
    (asI .i64 (d54.getD 12 .bad)).bind fun n67 =>
    (call Y 25 [(.agg [(.int .i64 n55), (.int .i64 n56), (.int .i64 n57), (.int .i64 n58), (.int .i64 n59), (.int .i64 n60), (.int .i64 n61), (.int .i64 n62), (.int .i64 n63), (.int .i64 n64), (.int .i64 n65), (.int .i64 n66), (.int .i64 n67)])] h19 (r9.2.2 + 10)).bind fun r68 =>
    (asTup 2 r68.1).bind fun d69 =>
    (asSl (d69.getD 0 .bad)).bind fun s70 =>
    (asI .i64 (d69.getD 1 .bad)).bind fun n71 =>
    if ((n71 : Int) != 0) = true then
    ((x2).bind fun p72 =>
    (stA r68.2.1 p72.1 p72.2 (.agg [(.int .i64 0), (.int .i64 0), (.int .i64 0), (.int .i64 0), (.int .i64 0), (.int .i64 0), (.int .i64 0), (.int .i64 0), (.int .i64 0), (.int .i64 0), (.int .i64 0), (.int .i64 0), (.int .i64 0)]) 13).bind fun b73 =>
    let h74 := AHeap.put r68.2.1 p72.1 (some b73)
    (x2).bind fun p75 =>
    (ldR h74 p75.1 p75.2 13).bind fun l76 =>
    (asAgg 13 (AV.agg l76)).bind fun d77 =>
    (asI .i64 (d77.getD 0 .bad)).bind fun n78 =>
    (asI .i64 (d77.getD 1 .bad)).bind fun n79 =>
    (asI .i64 (d77.getD 2 .bad)).bind fun n80 =>
    (asI .i64 (d77.getD 3 .bad)).bind fun n81 =>
    (asI .i64 (d77.getD 4 .bad)).bind fun n82 =>
    (asI .i64 (d77.getD 5 .bad)).bind fun n83 =>
    (asI .i64 (d77.getD 6 .bad)).bind fun n84 =>
    (asI .i64 (d77.getD 7 .bad)).bind fun n85 =>
    (asI .i64 (d77.getD 8 .bad)).bind fun n86 =>
    (asI .i64 (d77.getD 9 .bad)).bind fun n87 =>
    (asI .i64 (d77.getD 10 .bad)).bind fun n88 =>
    (asI .i64 (d77.getD 11 .bad)).bind fun n89 =>
    (asI .i64 (d77.getD 12 .bad)).bind fun n90 =>
    some ((.tuple [(.agg [(.int .i64 n78), (.int .i64 n79), (.int .i64 n80), (.int .i64 n81), (.int .i64 n82), (.int .i64 n83), (.int .i64 n84), (.int .i64 n85), (.int .i64 n86), (.int .i64 n87), (.int .i64 n88), (.int .i64 n89), (.int .i64 n90)]), (.int .i64 4)]), h74, (r68.2.2 + 11)))
    else
    ((call Y 44 [(.slice s70.1 s70.2.1 s70.2.2), (.slice x0a x0n x0c)] r68.2.1 (r68.2.2 + 8)).bind fun r91 =>
    (asB r91.1).bind fun t92 =>
    if (!t92) = true then
    ((x2).bind fun p93 =>
    (stA r91.2.1 p93.1 p93.2 (.agg [(.int .i64 0), (.int .i64 0), (.int .i64 0), (.int .i64 0), (.int .i64 0), (.int .i64 0), (.int .i64 0), (.int .i64 0), (.int .i64 0), (.int .i64 0), (.int .i64 0), (.int .i64 0), (.int .i64 0)]) 13).bind fun b94 =>
    let h95 := AHeap.put r91.2.1 p93.1 (some b94)
    (x2).bind fun p96 =>
    (ldR h95 p96.1 p96.2 13).bind fun l97 =>
    (asAgg 13 (AV.agg l97)).bind fun d98 =>
    (asI .i64 (d98.getD 0 .bad)).bind fun n99 =>
    (asI .i64 (d98.getD 1 .bad)).bind fun n100 =>
    (asI .i64 (d98.getD 2 .bad)).bind fun n101 =>
    (asI .i64 (d98.getD 3 .bad)).bind fun n102 =>
    (asI .i64 (d98.getD 4 .bad)).bind fun n103 =>
    (asI .i64 (d98.getD 5 .bad)).bind fun n104 =>
    (asI .i64 (d98.getD 6 .bad)).bind fun n105 =>
    (asI .i64 (d98.getD 7 .bad)).bind fun n106 =>
    (asI .i64 (d98.getD 8 .bad)).bind fun n107 =>
    (asI .i64 (d98.getD 9 .bad)).bind fun n108 =>
    (asI .i64 (d98.getD 10 .bad)).bind fun n109 =>
    (asI .i64 (d98.getD 11 .bad)).bind fun n110 =>
    (asI .i64 (d98.getD 12 .bad)).bind fun n111 =>
    some ((.tuple [(.agg [(.int .i64 n99), (.int .i64 n100), (.int .i64 n101), (.int .i64 n102), (.int .i64 n103), (.int .i64 n104), (.int .i64 n105), (.int .i64 n106), (.int .i64 n107), (.int .i64 n108), (.int .i64 n109), (.int .i64 n110), (.int .i64 n111)]), (.int .i64 4)]), h95, (r91.2.2 + 3)))
    else
    ((x4).bind fun p112 =>
    (ldR r91.2.1 p112.1 p112.2 13).bind fun l113 =>
    (asAgg 13 (AV.agg l113)).bind fun d114 =>
    (asI .i64 (d114.getD 0 .bad)).bind fun n115 =>
    (asI .i64 (d114.getD 1 .bad)).bind fun n116 =>
    (asI .i64 (d114.getD 2 .bad)).bind fun n117 =>
    (asI .i64 (d114.getD 3 .bad)).bind fun n118 =>
    (asI .i64 (d114.getD 4 .bad)).bind fun n119 =>
    (asI .i64 (d114.getD 5 .bad)).bind fun n120 =>
    (asI .i64 (d114.getD 6 .bad)).bind fun n121 =>
    (asI .i64 (d114.getD 7 .bad)).bind fun n122 =>
    (asI .i64 (d114.getD 8 .bad)).bind fun n123 =>
    (asI .i64 (d114.getD 9 .bad)).bind fun n124 =>
    (asI .i64 (d114.getD 10 .bad)).bind fun n125 =>
    (asI .i64 (d114.getD 11 .bad)).bind fun n126 =>
    (asI .i64 (d114.getD 12 .bad)).bind fun n127 =>
    (x2).bind fun p128 =>
    (stA r91.2.1 p128.1 p128.2 (.agg [(.int .i64 n115), (.int .i64 n116), (.int .i64 n117), (.int .i64 n118), (.int .i64 n119), (.int .i64 n120), (.int .i64 n121), (.int .i64 n122), (.int .i64 n123), (.int .i64 n124), (.int .i64 n125), (.int .i64 n126), (.int .i64 n127)]) 13).bind fun b129 =>
    let h130 := AHeap.put r91.2.1 p128.1 (some b129)
    (x2).bind fun p131 =>
    (ldR h130 p131.1 p131.2 13).bind fun l132 =>
    (asAgg 13 (AV.agg l132)).bind fun d133 =>
    (asI .i64 (d133.getD 0 .bad)).bind fun n134 =>
    (asI .i64 (d133.getD 1 .bad)).bind fun n135 =>
    (asI .i64 (d133.getD 2 .bad)).bind fun n136 =>
    (asI .i64 (d133.getD 3 .bad)).bind fun n137 =>
    (asI .i64 (d133.getD 4 .bad)).bind fun n138 =>
    (asI .i64 (d133.getD 5 .bad)).bind fun n139 =>
    (asI .i64 (d133.getD 6 .bad)).bind fun n140 =>
    (asI .i64 (d133.getD 7 .bad)).bind fun n141 =>
    (asI .i64 (d133.getD 8 .bad)).bind fun n142 =>
    (asI .i64 (d133.getD 9 .bad)).bind fun n143 =>
    (asI .i64 (d133.getD 10 .bad)).bind fun n144 =>
    (asI .i64 (d133.getD 11 .bad)).bind fun n145 =>
    (asI .i64 (d133.getD 12 .bad)).bind fun n146 =>
    some ((.tuple [(.agg [(.int .i64 n134), (.int .i64 n135), (.int .i64 n136), (.int .i64 n137), (.int .i64 n138), (.int .i64 n139), (.int .i64 n140), (.int .i64 n141), (.int .i64 n142), (.int .i64 n143), (.int .i64 n144), (.int .i64 n145), (.int .i64 n146)]), (.int .i64 0)]), h130, (r91.2.2 + 3)))))) := F26_L3_eq' go1 call Y lf n0 x0a x0n x0c x2 x4 x5 x6 x42 x43 h nx

theorem F26_L3_zero (call : YldF → CallF) (Y : YldF) (lf : Nat) (x0a : Option (Nat × Nat)) (x0n : Nat) (x0c : Bool) (x2 : Option (Nat × Nat)) (x4 : Option (Nat × Nat)) (x5 : Option (Nat × Nat)) (x6 : Option (Nat × Nat)) (x42 : List AV) (x43 : Int) (h : AHeap) (nx : Nat) : F26_L3 call Y lf 0 x0a x0n x0c x2 x4 x5 x6 x42 x43 h nx = none := by kernel_rfl

theorem F26_eq' (J : StepF (AV × AHeap × Nat) → StepF (AV × AHeap × Nat)) (n : Nat) (Y : YldF) (x0a : Option (Nat × Nat)) (x0n : Nat) (x0c : Bool) (h : AHeap) (nx : Nat) : rootJ J Try.prog keepT (callP Try.prog keepT n) Y n 26 [(.slice x0a x0n x0c)] h nx =
    let h1 := AHeap.put h nx (some ⟨[(.int .i64 0), (.int .i64 0), (.int .i64 0), (.int .i64 0), (.int .i64 0), (.int .i64 0), (.int .i64 0), (.int .i64 0), (.int .i64 0), (.int .i64 0), (.int .i64 0), (.int .i64 0), (.int .i64 0)], 13, true⟩)
    if ((((x0n : Nat) : Int) : Int) != 128) = true then
    ((stA h1 nx 0 (.agg [(.int .i64 0), (.int .i64 0), (.int .i64 0), (.int .i64 0), (.int .i64 0), (.int .i64 0), (.int .i64 0), (.int .i64 0), (.int .i64 0), (.int .i64 0), (.int .i64 0), (.int .i64 0), (.int .i64 0)]) 13).bind fun b2 =>
    let h3 := AHeap.put h1 nx (some b2)
    (ldR h3 nx 0 13).bind fun l4 =>
    (asAgg 13 (AV.agg l4)).bind fun d5 =>
    (asI .i64 (d5.getD 0 .bad)).bind fun n6 =>
    (asI .i64 (d5.getD 1 .bad)).bind fun n7 =>
    (asI .i64 (d5.getD 2 .bad)).bind fun n8 =>
    (asI .i64 (d5.getD 3 .bad)).bind fun n9 =>
    (asI .i64 (d5.getD 4 .bad)).bind fun n10 =>
    (asI .i64 (d5.getD 5 .bad)).bind fun n11 =>
    (asI .i64 (d5.getD 6 .bad)).bind fun n12 =>
    (asI .i64 (d5.getD 7 .bad)).bind fun n13 =>
    (asI .i64 (d5.getD 8 .bad)).bind fun n14 =>
    (asI .i64 (d5.getD 9 .bad)).bind fun n15 =>
    (asI .i64 (d5.getD 10 .bad)).bind fun n16 =>
    (asI .i64 (d5.getD 11 .bad)).bind fun n17 =>
    (asI .i64 (d5.getD 12 .bad)).bind fun n18 =>
    some ((.tuple [(.agg [(.int .i64 n6), (.int .i64 n7), (.int .i64 n8), (.int .i64 n9), (.int .i64 n10), (.int .i64 n11), (.int .i64 n12), (.int .i64 n13), (.int .i64 n14), (.int .i64 n15), (.int .i64 n16), (.int .i64 n17), (.int .i64 n18)]), (.int .i64 1)]), h3, (nx + 8)))
    else
    (let h19 := AHeap.put h1 (nx + 5) (some ⟨[(.int .i64 0), (.int .i64 0), (.int .i64 0), (.int .i64 0), (.int .i64 0), (.int .i64 0), (.int .i64 0), (.int .i64 0), (.int .i64 0), (.int .i64 0), (.int .i64 0), (.int .i64 0), (.int .i64 0)], 13, true⟩)
    let h20 := AHeap.put h19 (nx + 6) (some ⟨[(.int .i64 0), (.int .i64 0), (.int .i64 0), (.int .i64 0)], 4, true⟩)
    let h21 := AHeap.put h20 (nx + 8) (some ⟨[(.slice none 0 false)], 1, true⟩)
    (stA h21 (nx + 8) 0 (.slice x0a x0n x0c) 1).bind fun b22 =>
    let h23 := AHeap.put h21 (nx + 8) (some b22)
    ((callP Try.prog keepT n) Y 39 [(.ptr (some ((nx + 5), 0)))] h23 (nx + 12)).bind fun r24 =>
    (asRow r24.1).bind fun d25 =>
    F26_L1' J J (callP Try.prog keepT n) Y n n x0a x0n x0c (some (nx, 0)) (some ((nx + 5), 0)) (some ((nx + 6), 0)) (some ((nx + 8), 0)) d25 0 r24.2.1 r24.2.2) := by kernel_rfl

/-- quickset/label.Decode -/
theorem F26_eq (n : Nat) (Y : YldF) (x0a : Option (Nat × Nat)) (x0n : Nat) (x0c : Bool) (h : AHeap) (nx : Nat) : callP Try.prog keepT (n + 1) Y 26 [(.slice x0a x0n x0c)] h nx =
    let h1 := AHeap.put h nx (some ⟨[(.int .i64 0), (.int .i64 0), (.int .i64 0), (.int .i64 0), (.int .i64 0), (.int .i64 0), (.int .i64 0), (.int .i64 0), (.int .i64 0), (.int .i64 0), (.int .i64 0), (.int .i64 0), (.int .i64 0)], 13, true⟩)
    if ((((x0n : Nat) : Int) : Int) != 128) = true then
    ((stA h1 nx 0 (.agg [(.int .i64 0), (.int .i64 0), (.int .i64 0), (.int .i64 0), (.int .i64 0), (.int .i64 0), (.int .i64 0), (.int .i64 0), (.int .i64 0), (.int .i64 0), (.int .i64 0), (.int .i64 0), (.int .i64 0)]) 13).bind fun b2 =>
    let h3 := AHeap.put h1 nx (some b2)
    (ldR h3 nx 0 13).bind fun l4 =>
    (asAgg 13 (AV.agg l4)).bind fun d5 =>
    (asI .i64 (d5.getD 0 .bad)).bind fun n6 =>
    (asI .i64 (d5.getD 1 .bad)).bind fun n7 =>
    (asI .i64 (d5.getD 2 .bad)).bind fun n8 =>
    (asI .i64 (d5.getD 3 .bad)).bind fun n9 =>
    (asI .i64 (d5.getD 4 .bad)).bind fun n10 =>
    (asI .i64 (d5.getD 5 .bad)).bind fun n11 =>
    (asI .i64 (d5.getD 6 .bad)).bind fun n12 =>
    (asI .i64 (d5.getD 7 .bad)).bind fun n13 =>
    (asI .i64 (d5.getD 8 .bad)).bind fun n14 =>
    (asI .i64 (d5.getD 9 .bad)).bind fun n15 =>
    (asI .i64 (d5.getD 10 .bad)).bind fun n16 =>
    (asI .i64 (d5.getD 11 .bad)).bind fun n17 =>
    (asI .i64 (d5.getD 12 .bad)).bind fun n18 =>
    some ((.tuple [(.agg [(.int .i64 n6), (.int .i64 n7), (.int .i64 n8), (.int .i64 n9), (.int .i64 n10), (.int .i64 n11), (.int .i64 n12), (.int .i64 n13), (.int .i64 n14), (.int .i64 n15), (.int .i64 n16), (.int .i64 n17), (.int .i64 n18)]), (.int .i64 1)]), h3, (nx + 8)))
    else
    (let h19 := AHeap.put h1 (nx + 5) (some ⟨[(.int .i64 0), (.int .i64 0), (.int .i64 0), (.int .i64 0), (.int .i64 0), (.int .i64 0), (.int .i64 0), (.int .i64 0), (.int .i64 0), (.int .i64 0), (.int .i64 0), (.int .i64 0), (.int .i64 0)], 13, true⟩)
    let h20 := AHeap.put h19 (nx + 6) (some ⟨[(.int .i64 0), (.int .i64 0), (.int .i64 0), (.int .i64 0)], 4, true⟩)
    let h21 := AHeap.put h20 (nx + 8) (some ⟨[(.slice none 0 false)], 1, true⟩)
    (stA h21 (nx + 8) 0 (.slice x0a x0n x0c) 1).bind fun b22 =>
    let h23 := AHeap.put h21 (nx + 8) (some b22)
    ((callP Try.prog keepT n) Y 39 [(.ptr (some ((nx + 5), 0)))] h23 (nx + 12)).bind fun r24 =>
    (asRow r24.1).bind fun d25 =>
    F26_L1 (callP Try.prog keepT n) Y n n x0a x0n x0c (some (nx, 0)) (some ((nx + 5), 0)) (some ((nx + 6), 0)) (some ((nx + 8), 0)) d25 0 r24.2.1 r24.2.2) := F26_eq' go1 n Y x0a x0n x0c h nx

noncomputable def c27 : Code := (Try.f27.body).getD .skip

noncomputable def r27 : List ResultVar := Try.f27.results.toList

theorem F27_eq' (J : StepF (AV × AHeap × Nat) → StepF (AV × AHeap × Nat)) (n : Nat) (Y : YldF) (x0_0 : Int) (x0_1 : Int) (x0_2 : Int) (x0_3 : Int) (x0_4 : Int) (x0_5 : Int) (x0_6 : Int) (x0_7 : Int) (x0_8 : Int) (x0_9 : Int) (x0_10 : Int) (x0_11 : Int) (x0_12 : Int) (h : AHeap) (nx : Nat) : rootJ J Try.prog keepT (callP Try.prog keepT n) Y n 27 [(.agg [(.int .i64 x0_0), (.int .i64 x0_1), (.int .i64 x0_2), (.int .i64 x0_3), (.int .i64 x0_4), (.int .i64 x0_5), (.int .i64 x0_6), (.int .i64 x0_7), (.int .i64 x0_8), (.int .i64 x0_9), (.int .i64 x0_10), (.int .i64 x0_11), (.int .i64 x0_12)])] h nx =
    let h1 := AHeap.put h nx (some ⟨[(.int .i64 x0_0), (.int .i64 x0_1), (.int .i64 x0_2), (.int .i64 x0_3), (.int .i64 x0_4), (.int .i64 x0_5), (.int .i64 x0_6), (.int .i64 x0_7), (.int .i64 x0_8), (.int .i64 x0_9), (.int .i64 x0_10), (.int .i64 x0_11), (.int .i64 x0_12)], 13, true⟩)
    (ldR h1 nx 5 8).bind fun l2 =>
    (asAgg 8 (AV.agg l2)).bind fun d3 =>
    (asI .i64 (d3.getD 0 .bad)).bind fun n4 =>
    (asI .i64 (d3.getD 1 .bad)).bind fun n5 =>
    (asI .i64 (d3.getD 2 .bad)).bind fun n6 =>
    (asI .i64 (d3.getD 3 .bad)).bind fun n7 =>
    (asI .i64 (d3.getD 4 .bad)).bind fun n8 =>
    (asI .i64 (d3.getD 5 .bad)).bind fun n9 =>
    (asI .i64 (d3.getD 6 .bad)).bind fun n10 =>
    (asI .i64 (d3.getD 7 .bad)).bind fun n11 =>
    let h12 := AHeap.put h1 (nx + 4) (some ⟨[(.int .i64 0), (.int .i64 0), (.int .i64 0), (.int .i64 0), (.int .i64 0), (.int .i64 0), (.int .i64 0), (.int .i64 0)], 8, true⟩)
    (stA h12 (nx + 4) 0 (.agg [(.int .i64 n4), (.int .i64 n5), (.int .i64 n6), (.int .i64 n7), (.int .i64 n8), (.int .i64 n9), (.int .i64 n10), (.int .i64 n11)]) 8).bind fun b13 =>
    let h14 := AHeap.put h12 (nx + 4) (some b13)
    (ldA h14 nx 0).bind fun v15 =>
    (asI .i64 v15).bind fun n16 =>
    ((callP Try.prog keepT n) Y 45 [(.int .i64 n16), (.int .i64 1), (.int .i64 1048576)] h14 (nx + 62)).bind fun r17 =>
    (asB r17.1).bind fun t18 =>
    if t18 = true then
    ((ldA r17.2.1 nx 2).bind fun v19 =>
    (asI .i64 v19).bind fun n20 =>
    ((callP Try.prog keepT n) Y 45 [(.int .i64 n20), (.int .i64 2), (.int .i64 8)] r17.2.1 r17.2.2).bind fun r21 =>
    (asB r21.1).bind fun t22 =>
    if t22 = true then
    ((ldA r21.2.1 nx 1).bind fun v23 =>
    (asI .i64 v23).bind fun n24 =>
    (ldA r21.2.1 nx 2).bind fun v25 =>
    (asI .i64 v25).bind fun n26 =>
    ((callP Try.prog keepT n) Y 45 [(.int .i64 n24), (.int .i64 0), (.int .i64 (wrapA .i64 (n26 - 1)))] r21.2.1 r21.2.2).bind fun r27 =>
    (asB r27.1).bind fun t28 =>
    if t28 = true then
    ((ldA r27.2.1 nx 3).bind fun v29 =>
    (asI .i64 v29).bind fun n30 =>
    (ldA r27.2.1 nx 2).bind fun v31 =>
    (asI .i64 v31).bind fun n32 =>
    ((callP Try.prog keepT n) Y 45 [(.int .i64 n30), (.int .i64 1), (.int .i64 (if (wrapA .i64 (n32 - 1)) < 3 then (wrapA .i64 (n32 - 1)) else 3))] r27.2.1 r27.2.2).bind fun r33 =>
    (asB r33.1).bind fun t34 =>
    if t34 = true then
    ((ldA r33.2.1 nx 4).bind fun v35 =>
    (asI .i64 v35).bind fun n36 =>
    ((callP Try.prog keepT n) Y 45 [(.int .i64 n36), (.int .i64 0), (.int .i64 1048576)] r33.2.1 r33.2.2).bind fun r37 =>
    (asB r37.1).bind fun t38 =>
    if t38 = true then
    ((ldA r37.2.1 (nx + 4) 0).bind fun v39 =>
    (asI .i64 v39).bind fun n40 =>
    ((callP Try.prog keepT n) Y 45 [(.int .i64 n40), (.int .i64 0), (.int .i64 65536)] r37.2.1 r37.2.2).bind fun r41 =>
    (asB r41.1).bind fun t42 =>
    if t42 = true then
    ((ldA r41.2.1 (nx + 4) 1).bind fun v43 =>
    (asI .i64 v43).bind fun n44 =>
    ((callP Try.prog keepT n) Y 45 [(.int .i64 n44), (.int .i64 0), (.int .i64 32)] r41.2.1 r41.2.2).bind fun r45 =>
    (asB r45.1).bind fun t46 =>
    if t46 = true then
    ((ldA r45.2.1 (nx + 4) 2).bind fun v47 =>
    (asI .i64 v47).bind fun n48 =>
    (ldA r45.2.1 (nx + 4) 1).bind fun v49 =>
    (asI .i64 v49).bind fun n50 =>
    ((callP Try.prog keepT n) Y 45 [(.int .i64 n48), (.int .i64 0), (.int .i64 (wrapA .i64 (n50 * 128)))] r45.2.1 r45.2.2).bind fun r51 =>
    (asB r51.1).bind fun t52 =>
    if t52 = true then
    ((ldA r51.2.1 (nx + 4) 3).bind fun v53 =>
    (asI .i64 v53).bind fun n54 =>
    (ldA r51.2.1 nx 4).bind fun v55 =>
    (asI .i64 v55).bind fun n56 =>
    ((callP Try.prog keepT n) Y 45 [(.int .i64 n54), (.int .i64 0), (.int .i64 n56)] r51.2.1 r51.2.2).bind fun r57 =>
    (asB r57.1).bind fun t58 =>
    some ((.bool t58), r57.2.1, r57.2.2))
    else
    (some ((.bool false), r51.2.1, r51.2.2)))
    else
    (some ((.bool false), r45.2.1, r45.2.2)))
    else
    (some ((.bool false), r41.2.1, r41.2.2)))
    else
    (some ((.bool false), r37.2.1, r37.2.2)))
    else
    (some ((.bool false), r33.2.1, r33.2.2)))
    else
    (some ((.bool false), r27.2.1, r27.2.2)))
    else
    (some ((.bool false), r21.2.1, r21.2.2)))
    else
    (some ((.bool false), r17.2.1, r17.2.2)) := by kernel_rfl

/-- quickset/label.May -/
theorem F27_eq (n : Nat) (Y : YldF) (x0_0 : Int) (x0_1 : Int) (x0_2 : Int) (x0_3 : Int) (x0_4 : Int) (x0_5 : Int) (x0_6 : Int) (x0_7 : Int) (x0_8 : Int) (x0_9 : Int) (x0_10 : Int) (x0_11 : Int) (x0_12 : Int) (h : AHeap) (nx : Nat) : callP Try.prog keepT (n + 1) Y 27 [(.agg [(.int .i64 x0_0), (.int .i64 x0_1), (.int .i64 x0_2), (.int .i64 x0_3), (.int .i64 x0_4), (.int .i64 x0_5), (.int .i64 x0_6), (.int .i64 x0_7), (.int .i64 x0_8), (.int .i64 x0_9), (.int .i64 x0_10), (.int .i64 x0_11), (.int .i64 x0_12)])] h nx =
    let h1 := AHeap.put h nx (some ⟨[(.int .i64 x0_0), (.int .i64 x0_1), (.int .i64 x0_2), (.int .i64 x0_3), (.int .i64 x0_4), (.int .i64 x0_5), (.int .i64 x0_6), (.int .i64 x0_7), (.int .i64 x0_8), (.int .i64 x0_9), (.int .i64 x0_10), (.int .i64 x0_11), (.int .i64 x0_12)], 13, true⟩)
    (ldR h1 nx 5 8).bind fun l2 =>
    (asAgg 8 (AV.agg l2)).bind fun d3 =>
    (asI .i64 (d3.getD 0 .bad)).bind fun n4 =>
    (asI .i64 (d3.getD 1 .bad)).bind fun n5 =>
    (asI .i64 (d3.getD 2 .bad)).bind fun n6 =>
    (asI .i64 (d3.getD 3 .bad)).bind fun n7 =>
    (asI .i64 (d3.getD 4 .bad)).bind fun n8 =>
    (asI .i64 (d3.getD 5 .bad)).bind fun n9 =>
    (asI .i64 (d3.getD 6 .bad)).bind fun n10 =>
    (asI .i64 (d3.getD 7 .bad)).bind fun n11 =>
    let h12 := AHeap.put h1 (nx + 4) (some ⟨[(.int .i64 0), (.int .i64 0), (.int .i64 0), (.int .i64 0), (.int .i64 0), (.int .i64 0), (.int .i64 0), (.int .i64 0)], 8, true⟩)
    (stA h12 (nx + 4) 0 (.agg [(.int .i64 n4), (.int .i64 n5), (.int .i64 n6), (.int .i64 n7), (.int .i64 n8), (.int .i64 n9), (.int .i64 n10), (.int .i64 n11)]) 8).bind fun b13 =>
    let h14 := AHeap.put h12 (nx + 4) (some b13)
    (ldA h14 nx 0).bind fun v15 =>
    (asI .i64 v15).bind fun n16 =>
    ((callP Try.prog keepT n) Y 45 [(.int .i64 n16), (.int .i64 1), (.int .i64 1048576)] h14 (nx + 62)).bind fun r17 =>
    (asB r17.1).bind fun t18 =>
    if t18 = true then
    ((ldA r17.2.1 nx 2).bind fun v19 =>
    (asI .i64 v19).bind fun n20 =>
    ((callP Try.prog keepT n) Y 45 [(.int .i64 n20), (.int .i64 2), (.int .i64 8)] r17.2.1 r17.2.2).bind fun r21 =>
    (asB r21.1).bind fun t22 =>
    if t22 = true then
    ((ldA r21.2.1 nx 1).bind fun v23 =>
    (asI .i64 v23).bind fun n24 =>
    (ldA r21.2.1 nx 2).bind fun v25 =>
    (asI .i64 v25).bind fun n26 =>
    ((callP Try.prog keepT n) Y 45 [(.int .i64 n24), (.int .i64 0), (.int .i64 (wrapA .i64 (n26 - 1)))] r21.2.1 r21.2.2).bind fun r27 =>
    (asB r27.1).bind fun t28 =>
    if t28 = true then
    ((ldA r27.2.1 nx 3).bind fun v29 =>
    (asI .i64 v29).bind fun n30 =>
    (ldA r27.2.1 nx 2).bind fun v31 =>
    (asI .i64 v31).bind fun n32 =>
    ((callP Try.prog keepT n) Y 45 [(.int .i64 n30), (.int .i64 1), (.int .i64 (if (wrapA .i64 (n32 - 1)) < 3 then (wrapA .i64 (n32 - 1)) else 3))] r27.2.1 r27.2.2).bind fun r33 =>
    (asB r33.1).bind fun t34 =>
    if t34 = true then
    ((ldA r33.2.1 nx 4).bind fun v35 =>
    (asI .i64 v35).bind fun n36 =>
    ((callP Try.prog keepT n) Y 45 [(.int .i64 n36), (.int .i64 0), (.int .i64 1048576)] r33.2.1 r33.2.2).bind fun r37 =>
    (asB r37.1).bind fun t38 =>
    if t38 = true then
    ((ldA r37.2.1 (nx + 4) 0).bind fun v39 =>
    (asI .i64 v39).bind fun n40 =>
    ((callP Try.prog keepT n) Y 45 [(.int .i64 n40), (.int .i64 0), (.int .i64 65536)] r37.2.1 r37.2.2).bind fun r41 =>
    (asB r41.1).bind fun t42 =>
    if t42 = true then
    ((ldA r41.2.1 (nx + 4) 1).bind fun v43 =>
    (asI .i64 v43).bind fun n44 =>
    ((callP Try.prog keepT n) Y 45 [(.int .i64 n44), (.int .i64 0), (.int .i64 32)] r41.2.1 r41.2.2).bind fun r45 =>
    (asB r45.1).bind fun t46 =>
    if t46 = true then
    ((ldA r45.2.1 (nx + 4) 2).bind fun v47 =>
    (asI .i64 v47).bind fun n48 =>
    (ldA r45.2.1 (nx + 4) 1).bind fun v49 =>
    (asI .i64 v49).bind fun n50 =>
    ((callP Try.prog keepT n) Y 45 [(.int .i64 n48), (.int .i64 0), (.int .i64 (wrapA .i64 (n50 * 128)))] r45.2.1 r45.2.2).bind fun r51 =>
    (asB r51.1).bind fun t52 =>
    if t52 = true then
    ((ldA r51.2.1 (nx + 4) 3).bind fun v53 =>
    (asI .i64 v53).bind fun n54 =>
    (ldA r51.2.1 nx 4).bind fun v55 =>
    (asI .i64 v55).bind fun n56 =>
    ((callP Try.prog keepT n) Y 45 [(.int .i64 n54), (.int .i64 0), (.int .i64 n56)] r51.2.1 r51.2.2).bind fun r57 =>
    (asB r57.1).bind fun t58 =>
    some ((.bool t58), r57.2.1, r57.2.2))
    else
    (some ((.bool false), r51.2.1, r51.2.2)))
    else
    (some ((.bool false), r45.2.1, r45.2.2)))
    else
    (some ((.bool false), r41.2.1, r41.2.2)))
    else
    (some ((.bool false), r37.2.1, r37.2.2)))
    else
    (some ((.bool false), r33.2.1, r33.2.2)))
    else
    (some ((.bool false), r27.2.1, r27.2.2)))
    else
    (some ((.bool false), r21.2.1, r21.2.2)))
    else
    (some ((.bool false), r17.2.1, r17.2.2)) := F27_eq' go1 n Y x0_0 x0_1 x0_2 x0_3 x0_4 x0_5 x0_6 x0_7 x0_8 x0_9 x0_10 x0_11 x0_12 h nx

noncomputable def c28 : Code := (Try.f28.body).getD .skip

noncomputable def r28 : List ResultVar := Try.f28.results.toList

noncomputable def F28_L1' (W J : StepF (AV × AHeap × Nat) → StepF (AV × AHeap × Nat)) (call : YldF → CallF) (Y : YldF) (lf : Nat) (n0 : Nat) (x2 : Option (Nat × Nat)) (x5 : Option (Nat × Nat)) (x6 : Int) (x12a : Option (Nat × Nat)) (x12n : Nat) (x12c : Bool) (x13 : Int) (x14 : Int) (h : AHeap) (nx : Nat) : Option (AV × AHeap × Nat) :=
  goK W J drawK (machOf Try.prog) call Y (keepT 28) lf c28 [1, 1, 0, 1, 0, 9] [n0] (retK (machOf Try.prog) ⟨c28, 41, r28, keepT 28⟩) ⟨41, mkL [(2, (.ptr x2)), (5, (.ptr x5)), (6, (.int .i64 x6)), (12, (.slice x12a x12n x12c)), (13, (.int .i64 x13)), (14, (.int .i64 x14))]⟩ h nx

noncomputable def F28_L1 (call : YldF → CallF) (Y : YldF) (lf : Nat) (n0 : Nat) (x2 : Option (Nat × Nat)) (x5 : Option (Nat × Nat)) (x6 : Int) (x12a : Option (Nat × Nat)) (x12n : Nat) (x12c : Bool) (x13 : Int) (x14 : Int) (h : AHeap) (nx : Nat) : Option (AV × AHeap × Nat) := F28_L1' go1 go1 call Y lf n0 x2 x5 x6 x12a x12n x12c x13 x14 h nx

theorem F28_L1_eq' (J : StepF (AV × AHeap × Nat) → StepF (AV × AHeap × Nat)) (call : YldF → CallF) (Y : YldF) (lf : Nat) (n0 : Nat) (x2 : Option (Nat × Nat)) (x5 : Option (Nat × Nat)) (x6 : Int) (x12a : Option (Nat × Nat)) (x12n : Nat) (x12c : Bool) (x13 : Int) (x14 : Int) (h : AHeap) (nx : Nat) : F28_L1' go1 J call Y lf (n0 + 1) x2 x5 x6 x12a x12n x12c x13 x14 h nx =
    if (decide ((x14 : Int) < x13)) = true then
    ((x12a).bind fun p1 =>
    if 0 ≤ (x14 : Int) ∧ x14 < ((x12n : Nat) : Int) then
    ((ldA h p1.1 (p1.2 + Int.toNat x14 * 1)).bind fun v2 =>
    (asSl v2).bind fun s3 =>
    (call Y 26 [(.slice s3.1 s3.2.1 s3.2.2)] h (nx + 14)).bind fun r4 =>
    (asTup 2 r4.1).bind fun d5 =>
    (asAgg 13 (d5.getD 0 .bad)).bind fun d6 =>
    (asI .i64 (d6.getD 0 .bad)).bind fun n7 =>
    (asI .i64 (d6.getD 1 .bad)).bind fun n8 =>
    (asI .i64 (d6.getD 2 .bad)).bind fun n9 =>
    (asI .i64 (d6.getD 3 .bad)).bind fun n10 =>
    (asI .i64 (d6.getD 4 .bad)).bind fun n11 =>
    (asI .i64 (d6.getD 5 .bad)).bind fun n12 =>
    (asI .i64 (d6.getD 6 .bad)).bind fun n13 =>
    (asI .i64 (d6.getD 7 .bad)).bind fun n14 =>
    (asI .i64 (d6.getD 8 .bad)).bind fun n15 =>
    (asI .i64 (d6.getD 9 .bad)).bind fun n16 =>
    (asI .i64 (d6.getD 10 .bad)).bind fun n17 =>
    (asI .i64 (d6.getD 11 .bad)).bind fun n18 =>
    (asI .i64 (d6.getD 12 .bad)).bind fun n19 =>
    (asI .i64 (d5.getD 1 .bad)).bind fun n20 =>
    let h21 := AHeap.put r4.2.1 (nx + 11) (some ⟨[(.int .i64 0), (.int .i64 0), (.int .i64 0), (.int .i64 0), (.int .i64 0), (.int .i64 0), (.int .i64 0), (.int .i64 0), (.int .i64 0), (.int .i64 0), (.int .i64 0), (.int .i64 0), (.int .i64 0)], 13, true⟩)
    (stA h21 (nx + 11) 0 (.agg [(.int .i64 n7), (.int .i64 n8), (.int .i64 n9), (.int .i64 n10), (.int .i64 n11), (.int .i64 n12), (.int .i64 n13), (.int .i64 n14), (.int .i64 n15), (.int .i64 n16), (.int .i64 n17), (.int .i64 n18), (.int .i64 n19)]) 13).bind fun b22 =>
    let h23 := AHeap.put h21 (nx + 11) (some b22)
    if ((n20 : Int) == 0) = true then
    ((ldA h23 (nx + 11) 4).bind fun v24 =>
    (asI .i64 v24).bind fun n25 =>
    (x5).bind fun p26 =>
    (ldA h23 p26.1 (p26.2 + 4)).bind fun v27 =>
    (asI .i64 v27).bind fun n28 =>
    if (decide ((n25 : Int) > n28)) = true then
    ((ldR h23 (nx + 11) 0 13).bind fun l29 =>
    (asAgg 13 (AV.agg l29)).bind fun d30 =>
    (asI .i64 (d30.getD 0 .bad)).bind fun n31 =>
    (asI .i64 (d30.getD 1 .bad)).bind fun n32 =>
    (asI .i64 (d30.getD 2 .bad)).bind fun n33 =>
    (asI .i64 (d30.getD 3 .bad)).bind fun n34 =>
    (asI .i64 (d30.getD 4 .bad)).bind fun n35 =>
    (asI .i64 (d30.getD 5 .bad)).bind fun n36 =>
    (asI .i64 (d30.getD 6 .bad)).bind fun n37 =>
    (asI .i64 (d30.getD 7 .bad)).bind fun n38 =>
    (asI .i64 (d30.getD 8 .bad)).bind fun n39 =>
    (asI .i64 (d30.getD 9 .bad)).bind fun n40 =>
    (asI .i64 (d30.getD 10 .bad)).bind fun n41 =>
    (asI .i64 (d30.getD 11 .bad)).bind fun n42 =>
    (asI .i64 (d30.getD 12 .bad)).bind fun n43 =>
    (x5).bind fun p44 =>
    (stA h23 p44.1 p44.2 (.agg [(.int .i64 n31), (.int .i64 n32), (.int .i64 n33), (.int .i64 n34), (.int .i64 n35), (.int .i64 n36), (.int .i64 n37), (.int .i64 n38), (.int .i64 n39), (.int .i64 n40), (.int .i64 n41), (.int .i64 n42), (.int .i64 n43)]) 13).bind fun b45 =>
    let h46 := AHeap.put h23 p44.1 (some b45)
    F28_L1' J J call Y lf n0 x2 x5 x14 x12a x12n x12c x13 (wrapA .i64 (x14 + 1)) h46 (r4.2.2 + 15))
    else
    (F28_L1' J J call Y lf n0 x2 x5 x6 x12a x12n x12c x13 (wrapA .i64 (x14 + 1)) h23 (r4.2.2 + 11)))
    else
    (F28_L1' J J call Y lf n0 x2 x5 x6 x12a x12n x12c x13 (wrapA .i64 (x14 + 1)) h23 (r4.2.2 + 11)))
    else none)
    else
    (if (decide ((x6 : Int) < 0)) = true then
    ((x2).bind fun p47 =>
    (stA h p47.1 p47.2 (.agg [(.int .i64 0), (.int .i64 0), (.int .i64 0), (.int .i64 0), (.int .i64 0), (.int .i64 0), (.int .i64 0), (.int .i64 0), (.int .i64 0), (.int .i64 0), (.int .i64 0), (.int .i64 0), (.int .i64 0)]) 13).bind fun b48 =>
    let h49 := AHeap.put h p47.1 (some b48)
    (x2).bind fun p50 =>
    (ldR h49 p50.1 p50.2 13).bind fun l51 =>
    (asAgg 13 (AV.agg l51)).bind fun d52 =>
    (asI .i64 (d52.getD 0 .bad)).bind fun n53 =>
    (asI .i64 (d52.getD 1 .bad)).bind fun n54 =>
    (asI .i64 (d52.getD 2 .bad)).bind fun n55 =>
    (asI .i64 (d52.getD 3 .bad)).bind fun n56 =>
    (asI .i64 (d52.getD 4 .bad)).bind fun n57 =>
    (asI .i64 (d52.getD 5 .bad)).bind fun n58 =>
    (asI .i64 (d52.getD 6 .bad)).bind fun n59 =>
    (asI .i64 (d52.getD 7 .bad)).bind fun n60 =>
    (asI .i64 (d52.getD 8 .bad)).bind fun n61 =>
    (asI .i64 (d52.getD 9 .bad)).bind fun n62 =>
    (asI .i64 (d52.getD 10 .bad)).bind fun n63 =>
    (asI .i64 (d52.getD 11 .bad)).bind fun n64 =>
    (asI .i64 (d52.getD 12 .bad)).bind fun n65 =>
    some ((.tuple [(.agg [(.int .i64 n53), (.int .i64 n54), (.int .i64 n55), (.int .i64 n56), (.int .i64 n57), (.int .i64 n58), (.int .i64 n59), (.int .i64 n60), (.int .i64 n61), (.int .i64 n62), (.int .i64 n63), (.int .i64 n64), (.int .i64 n65)]), (.int .i64 0), (.int .i64 6)]), h49, (nx + 7)))
    else
    ((x5).bind fun p66 =>
    (ldR h p66.1 p66.2 13).bind fun l67 =>
    (asAgg 13 (AV.agg l67)).bind fun d68 =>
    (asI .i64 (d68.getD 0 .bad)).bind fun n69 =>
    (asI .i64 (d68.getD 1 .bad)).bind fun n70 =>
    (asI .i64 (d68.getD 2 .bad)).bind fun n71 =>
    (asI .i64 (d68.getD 3 .bad)).bind fun n72 =>
    (asI .i64 (d68.getD 4 .bad)).bind fun n73 =>
    (asI .i64 (d68.getD 5 .bad)).bind fun n74 =>
    (asI .i64 (d68.getD 6 .bad)).bind fun n75 =>
    (asI .i64 (d68.getD 7 .bad)).bind fun n76 =>
    (asI .i64 (d68.getD 8 .bad)).bind fun n77 =>
    (asI .i64 (d68.getD 9 .bad)).bind fun n78 =>
    (asI .i64 (d68.getD 10 .bad)).bind fun n79 =>
    (asI .i64 (d68.getD 11 .bad)).bind fun n80 =>
    (asI .i64 (d68.getD 12 .bad)).bind fun n81 =>
    (x2).bind fun p82 =>
    (stA h p82.1 p82.2 (.agg [(.int .i64 n69), (.int .i64 n70), (.int .i64 n71), (.int .i64 n72), (.int .i64 n73), (.int .i64 n74), (.int .i64 n75), (.int .i64 n76), (.int .i64 n77), (.int .i64 n78), (.int .i64 n79), (.int .i64 n80), (.int .i64 n81)]) 13).bind fun b83 =>
    let h84 := AHeap.put h p82.1 (some b83)
    (x2).bind fun p85 =>
    (ldR h84 p85.1 p85.2 13).bind fun l86 =>
    (asAgg 13 (AV.agg l86)).bind fun d87 =>
    (asI .i64 (d87.getD 0 .bad)).bind fun n88 =>
    (asI .i64 (d87.getD 1 .bad)).bind fun n89 =>
    (asI .i64 (d87.getD 2 .bad)).bind fun n90 =>
    (asI .i64 (d87.getD 3 .bad)).bind fun n91 =>
    (asI .i64 (d87.getD 4 .bad)).bind fun n92 =>
    (asI .i64 (d87.getD 5 .bad)).bind fun n93 =>
    (asI .i64 (d87.getD 6 .bad)).bind fun n94 =>
    (asI .i64 (d87.getD 7 .bad)).bind fun n95 =>
    (asI .i64 (d87.getD 8 .bad)).bind fun n96 =>
    (asI .i64 (d87.getD 9 .bad)).bind fun n97 =>
    (asI .i64 (d87.getD 10 .bad)).bind fun n98 =>
    (asI .i64 (d87.getD 11 .bad)).bind fun n99 =>
    (asI .i64 (d87.getD 12 .bad)).bind fun n100 =>
    some ((.tuple [(.agg [(.int .i64 n88), (.int .i64 n89), (.int .i64 n90), (.int .i64 n91), (.int .i64 n92), (.int .i64 n93), (.int .i64 n94), (.int .i64 n95), (.int .i64 n96), (.int .i64 n97), (.int .i64 n98), (.int .i64 n99), (.int .i64 n100)]), (.int .i64 x6), (.int .i64 0)]), h84, (nx + 8)))) := by kernel_rfl

theorem F28_L1_eq (call : YldF → CallF) (Y : YldF) (lf : Nat) (n0 : Nat) (x2 : Option (Nat × Nat)) (x5 : Option (Nat × Nat)) (x6 : Int) (x12a : Option (Nat × Nat)) (x12n : Nat) (x12c : Bool) (x13 : Int) (x14 : Int) (h : AHeap) (nx : Nat) : F28_L1 call Y lf (n0 + 1) x2 x5 x6 x12a x12n x12c x13 x14 h nx =
    if (decide ((x14 : Int) < x13)) = true then
    ((x12a).bind fun p1 =>
    if 0 ≤ (x14 : Int) ∧ x14 < ((x12n : Nat) : Int) then
    ((ldA h p1.1 (p1.2 + Int.toNat x14 * 1)).bind fun v2 =>
    (asSl v2).bind fun s3 =>
    (call Y 26 [(.slice s3.1 s3.2.1 s3.2.2)] h (nx + 14)).bind fun r4 =>
    (asTup 2 r4.1).bind fun d5 =>
    (asAgg 13 (d5.getD 0 .bad)).bind fun d6 =>
    (asI .i64 (d6.getD 0 .bad)).bind fun n7 =>
    (asI .i64 (d6.getD 1 .bad)).bind fun n8 =>
    (asI .i64 (d6.getD 2 .bad)).bind fun n9 =>
    (asI .i64 (d6.getD 3 .bad)).bind fun n10 =>
    (asI .i64 (d6.getD 4 .bad)).bind fun n11 =>
    (asI .i64 (d6.getD 5 .bad)).bind fun n12 =>
    (asI .i64 (d6.getD 6 .bad)).bind fun n13 =>
    (asI .i64 (d6.getD 7 .bad)).bind fun n14 =>
    (asI .i64 (d6.getD 8 .bad)).bind fun n15 =>
    (asI .i64 (d6.getD 9 .bad)).bind fun n16 =>
    (asI .i64 (d6.getD 10 .bad)).bind fun n17 =>
    (asI .i64 (d6.getD 11 .bad)).bind fun n18 =>
    (asI .i64 (d6.getD 12 .bad)).bind fun n19 =>
    (asI .i64 (d5.getD 1 .bad)).bind fun n20 =>
    let h21 := AHeap.put r4.2.1 (nx + 11) (some ⟨[(.int .i64 0), (.int .i64 0), (.int .i64 0), (.int .i64 0), (.int .i64 0), (.int .i64 0), (.int .i64 0), (.int .i64 0), (.int .i64 0), (.int .i64 0), (.int .i64 0), (.int .i64 0), (.int .i64 0)], 13, true⟩)
    (stA h21 (nx + 11) 0 (.agg [(.int .i64 n7), (.int .i64 n8), (.int .i64 n9), (.int .i64 n10), (.int .i64 n11), (.int .i64 n12), (.int .i64 n13), (.int .i64 n14), (.int .i64 n15), (.int .i64 n16), (.int .i64 n17), (.int .i64 n18), (.int .i64 n19)]) 13).bind fun b22 =>
    let h23 := AHeap.put h21 (nx + 11) (some b22)
    if ((n20 : Int) == 0) = true then
    ((ldA h23 (nx + 11) 4).bind fun v24 =>
    (asI .i64 v24).bind fun n25 =>
    (x5).bind fun p26 =>
    (ldA h23 p26.1 (p26.2 + 4)).bind fun v27 =>
    (asI .i64 v27).bind fun n28 =>
    if (decide ((n25 : Int) > n28)) = true then
    ((ldR h23 (nx + 11) 0 13).bind fun l29 =>
    (asAgg 13 (AV.agg l29)).bind fun d30 =>
    (asI .i64 (d30.getD 0 .bad)).bind fun n31 =>
    (asI .i64 (d30.getD 1 .bad)).bind fun n32 =>
    (asI .i64 (d30.getD 2 .bad)).bind fun n33 =>
    (asI .i64 (d30.getD 3 .bad)).bind fun n34 =>
    (asI .i64 (d30.getD 4 .bad)).bind fun n35 =>
    (asI .i64 (d30.getD 5 .bad)).bind fun n36 =>
    (asI .i64 (d30.getD 6 .bad)).bind fun n37 =>
    (asI .i64 (d30.getD 7 .bad)).bind fun n38 =>
    (asI .i64 (d30.getD 8 .bad)).bind fun n39 =>
    (asI .i64 (d30.getD 9 .bad)).bind fun n40 =>
    (asI .i64 (d30.getD 10 .bad)).bind fun n41 =>
    (asI .i64 (d30.getD 11 .bad)).bind fun n42 =>
    (asI .i64 (d30.getD 12 .bad)).bind fun n43 =>
    (x5).bind fun p44 =>
    (stA h23 p44.1 p44.2 (.agg [(.int .i64 n31), (.int .i64 n32), (.int .i64 n33), (.int .i64 n34), (.int .i64 n35), (.int .i64 n36), (.int .i64 n37), (.int .i64 n38), (.int .i64 n39), (.int .i64 n40), (.int .i64 n41), (.int .i64 n42), (.int .i64 n43)]) 13).bind fun b45 =>
    let h46 := AHeap.put h23 p44.1 (some b45)
    F28_L1 call Y lf n0 x2 x5 x14 x12a x12n x12c x13 (wrapA .i64 (x14 + 1)) h46 (r4.2.2 + 15))
    else
    (F28_L1 call Y lf n0 x2 x5 x6 x12a x12n x12c x13 (wrapA .i64 (x14 + 1)) h23 (r4.2.2 + 11)))
    else
    (F28_L1 call Y lf n0 x2 x5 x6 x12a x12n x12c x13 (wrapA .i64 (x14 + 1)) h23 (r4.2.2 + 11)))
    else none)
    else
    (if (decide ((x6 : Int) < 0)) = true then
    ((x2).bind fun p47 =>
    (stA h p47.1 p47.2 (.agg [(.int .i64 0), (.int .i64 0), (.int .i64 0), (.int .i64 0), (.int .i64 0), (.int .i64 0), (.int .i64 0), (.int .i64 0), (.int .i64 0), (.int .i64 0), (.int .i64 0), (.int .i64 0), (.int .i64 0)]) 13).bind fun b48 =>
    let h49 := AHeap.put h p47.1 (some b48)
    (x2).bind fun p50 =>
    (ldR h49 p50.1 p50.2 13).bind fun l51 =>
    (asAgg 13 (AV.agg l51)).bind fun d52 =>
    (asI .i64 (d52.getD 0 .bad)).bind fun n53 =>
    (asI .i64 (d52.getD 1 .bad)).bind fun n54 =>
    (asI .i64 (d52.getD 2 .bad)).bind fun n55 =>
    (asI .i64 (d52.getD 3 .bad)).bind fun n56 =>
    (asI .i64 (d52.getD 4 .bad)).bind fun n57 =>
    (asI .i64 (d52.getD 5 .bad)).bind fun n58 =>
    (asI .i64 (d52.getD 6 .bad)).bind fun n59 =>
    (asI .i64 (d52.getD 7 .bad)).bind fun n60 =>
    (asI .i64 (d52.getD 8 .bad)).bind fun n61 =>
    (asI .i64 (d52.getD 9 .bad)).bind fun n62 =>
    (asI .i64 (d52.getD 10 .bad)).bind fun n63 =>
    (asI .i64 (d52.getD 11 .bad)).bind fun n64 =>
    (asI .i64 (d52.getD 12 .bad)).bind fun n65 =>
    some ((.tuple [(.agg [(.int .i64 n53), (.int .i64 n54), (.int .i64 n55), (.int .i64 n56), (.int .i64 n57), (.int .i64 n58), (.int .i64 n59), (.int .i64 n60), (.int .i64 n61), (.int .i64 n62), (.int .i64 n63), (.int .i64 n64), (.int .i64 n65)]), (.int .i64 0), (.int .i64 6)]), h49, (nx + 7)))
    else
    ((x5).bind fun p66 =>
    (ldR h p66.1 p66.2 13).bind fun l67 =>
    (asAgg 13 (AV.agg l67)).bind fun d68 =>
    (asI .i64 (d68.getD 0 .bad)).bind fun n69 =>
    (asI .i64 (d68.getD 1 .bad)).bind fun n70 =>
    (asI .i64 (d68.getD 2 .bad)).bind fun n71 =>
    (asI .i64 (d68.getD 3 .bad)).bind fun n72 =>
    (asI .i64 (d68.getD 4 .bad)).bind fun n73 =>
    (asI .i64 (d68.getD 5 .bad)).bind fun n74 =>
    (asI .i64 (d68.getD 6 .bad)).bind fun n75 =>
    (asI .i64 (d68.getD 7 .bad)).bind fun n76 =>
    (asI .i64 (d68.getD 8 .bad)).bind fun n77 =>
    (asI .i64 (d68.getD 9 .bad)).bind fun n78 =>
    (asI .i64 (d68.getD 10 .bad)).bind fun n79 =>
    (asI .i64 (d68.getD 11 .bad)).bind fun n80 =>
    (asI .i64 (d68.getD 12 .bad)).bind fun n81 =>
    (x2).bind fun p82 =>
    (stA h p82.1 p82.2 (.agg [(.int .i64 n69), (.int .i64 n70), (.int .i64 n71), (.int .i64 n72), (.int .i64 n73), (.int .i64 n74), (.int .i64 n75), (.int .i64 n76), (.int .i64 n77), (.int .i64 n78), (.int .i64 n79), (.int .i64 n80), (.int .i64 n81)]) 13).bind fun b83 =>
    let h84 := AHeap.put h p82.1 (some b83)
    (x2).bind fun p85 =>
    (ldR h84 p85.1 p85.2 13).bind fun l86 =>
    (asAgg 13 (AV.agg l86)).bind fun d87 =>
    (asI .i64 (d87.getD 0 .bad)).bind fun n88 =>
    (asI .i64 (d87.getD 1 .bad)).bind fun n89 =>
    (asI .i64 (d87.getD 2 .bad)).bind fun n90 =>
    (asI .i64 (d87.getD 3 .bad)).bind fun n91 =>
    (asI .i64 (d87.getD 4 .bad)).bind fun n92 =>
    (asI .i64 (d87.getD 5 .bad)).bind fun n93 =>
    (asI .i64 (d87.getD 6 .bad)).bind fun n94 =>
    (asI .i64 (d87.getD 7 .bad)).bind fun n95 =>
    (asI .i64 (d87.getD 8 .bad)).bind fun n96 =>
    (asI .i64 (d87.getD 9 .bad)).bind fun n97 =>
    (asI .i64 (d87.getD 10 .bad)).bind fun n98 =>
    (asI .i64 (d87.getD 11 .bad)).bind fun n99 =>
    (asI .i64 (d87.getD 12 .bad)).bind fun n100 =>
    some ((.tuple [(.agg [(.int .i64 n88), (.int .i64 n89), (.int .i64 n90), (.int .i64 n91), (.int .i64 n92), (.int .i64 n93), (.int .i64 n94), (.int .i64 n95), (.int .i64 n96), (.int .i64 n97), (.int .i64 n98), (.int .i64 n99), (.int .i64 n100)]), (.int .i64 x6), (.int .i64 0)]), h84, (nx + 8)))) := F28_L1_eq' go1 call Y lf n0 x2 x5 x6 x12a x12n x12c x13 x14 h nx

theorem F28_L1_zero (call : YldF → CallF) (Y : YldF) (lf : Nat) (x2 : Option (Nat × Nat)) (x5 : Option (Nat × Nat)) (x6 : Int) (x12a : Option (Nat × Nat)) (x12n : Nat) (x12c : Bool) (x13 : Int) (x14 : Int) (h : AHeap) (nx : Nat) : F28_L1 call Y lf 0 x2 x5 x6 x12a x12n x12c x13 x14 h nx = none := by kernel_rfl

theorem F28_eq' (J : StepF (AV × AHeap × Nat) → StepF (AV × AHeap × Nat)) (n : Nat) (Y : YldF) (x0a : Option (Nat × Nat)) (x0n : Nat) (x0c : Bool) (h : AHeap) (nx : Nat) : rootJ J Try.prog keepT (callP Try.prog keepT n) Y n 28 [(.slice x0a x0n x0c)] h nx =
    let h1 := AHeap.put h nx (some ⟨[(.int .i64 0), (.int .i64 0), (.int .i64 0), (.int .i64 0), (.int .i64 0), (.int .i64 0), (.int .i64 0), (.int .i64 0), (.int .i64 0), (.int .i64 0), (.int .i64 0), (.int .i64 0), (.int .i64 0)], 13, true⟩)
    let h2 := AHeap.put h1 (nx + 4) (some ⟨[(.int .i64 0), (.int .i64 0), (.int .i64 0), (.int .i64 0), (.int .i64 0), (.int .i64 0), (.int .i64 0), (.int .i64 0), (.int .i64 0), (.int .i64 0), (.int .i64 0), (.int .i64 0), (.int .i64 0)], 13, true⟩)
    (stA h2 (nx + 4) 0 (.agg [(.int .i64 0), (.int .i64 0), (.int .i64 0), (.int .i64 0), (.int .i64 (-1)), (.int .i64 0), (.int .i64 0), (.int .i64 0), (.int .i64 0), (.int .i64 0), (.int .i64 0), (.int .i64 0), (.int .i64 0)]) 13).bind fun b3 =>
    let h4 := AHeap.put h2 (nx + 4) (some b3)
    F28_L1' J J (callP Try.prog keepT n) Y n n (some (nx, 0)) (some ((nx + 4), 0)) (-1) x0a x0n x0c ((x0n : Nat) : Int) 0 h4 (nx + 10) := by kernel_rfl

/-- quickset/label.Best -/
theorem F28_eq (n : Nat) (Y : YldF) (x0a : Option (Nat × Nat)) (x0n : Nat) (x0c : Bool) (h : AHeap) (nx : Nat) : callP Try.prog keepT (n + 1) Y 28 [(.slice x0a x0n x0c)] h nx =
    let h1 := AHeap.put h nx (some ⟨[(.int .i64 0), (.int .i64 0), (.int .i64 0), (.int .i64 0), (.int .i64 0), (.int .i64 0), (.int .i64 0), (.int .i64 0), (.int .i64 0), (.int .i64 0), (.int .i64 0), (.int .i64 0), (.int .i64 0)], 13, true⟩)
    let h2 := AHeap.put h1 (nx + 4) (some ⟨[(.int .i64 0), (.int .i64 0), (.int .i64 0), (.int .i64 0), (.int .i64 0), (.int .i64 0), (.int .i64 0), (.int .i64 0), (.int .i64 0), (.int .i64 0), (.int .i64 0), (.int .i64 0), (.int .i64 0)], 13, true⟩)
    (stA h2 (nx + 4) 0 (.agg [(.int .i64 0), (.int .i64 0), (.int .i64 0), (.int .i64 0), (.int .i64 (-1)), (.int .i64 0), (.int .i64 0), (.int .i64 0), (.int .i64 0), (.int .i64 0), (.int .i64 0), (.int .i64 0), (.int .i64 0)]) 13).bind fun b3 =>
    let h4 := AHeap.put h2 (nx + 4) (some b3)
    F28_L1 (callP Try.prog keepT n) Y n n (some (nx, 0)) (some ((nx + 4), 0)) (-1) x0a x0n x0c ((x0n : Nat) : Int) 0 h4 (nx + 10) := F28_eq' go1 n Y x0a x0n x0c h nx

noncomputable def c29 : Code := (Try.f29.body).getD .skip

noncomputable def r29 : List ResultVar := Try.f29.results.toList

noncomputable def F29_L1' (W J : StepF (AV × AHeap × Nat) → StepF (AV × AHeap × Nat)) (call : YldF → CallF) (Y : YldF) (lf : Nat) (n0 : Nat) (x8a : Option (Nat × Nat)) (x8n : Nat) (x8c : Bool) (x21a : Option (Nat × Nat)) (x21n : Nat) (x21c : Bool) (x22 : Int) (x23 : Int) (h : AHeap) (nx : Nat) : Option (AV × AHeap × Nat) :=
  goK W J drawK (machOf Try.prog) call Y (keepT 29) lf c29 [1, 1, 1, 1, 0, 1, 0, 9] [n0] (retK (machOf Try.prog) ⟨c29, 34, r29, keepT 29⟩) ⟨34, mkL [(8, (.slice x8a x8n x8c)), (21, (.slice x21a x21n x21c)), (22, (.int .i64 x22)), (23, (.int .i64 x23))]⟩ h nx

noncomputable def F29_L1 (call : YldF → CallF) (Y : YldF) (lf : Nat) (n0 : Nat) (x8a : Option (Nat × Nat)) (x8n : Nat) (x8c : Bool) (x21a : Option (Nat × Nat)) (x21n : Nat) (x21c : Bool) (x22 : Int) (x23 : Int) (h : AHeap) (nx : Nat) : Option (AV × AHeap × Nat) := F29_L1' go1 go1 call Y lf n0 x8a x8n x8c x21a x21n x21c x22 x23 h nx

theorem F29_L1_eq' (J : StepF (AV × AHeap × Nat) → StepF (AV × AHeap × Nat)) (call : YldF → CallF) (Y : YldF) (lf : Nat) (n0 : Nat) (x8a : Option (Nat × Nat)) (x8n : Nat) (x8c : Bool) (x21a : Option (Nat × Nat)) (x21n : Nat) (x21c : Bool) (x22 : Int) (x23 : Int) (h : AHeap) (nx : Nat) : F29_L1' go1 J call Y lf (n0 + 1) x8a x8n x8c x21a x21n x21c x22 x23 h nx =
    if (decide ((x23 : Int) < x22)) = true then
    ((x21a).bind fun p1 =>
    if 0 ≤ (x23 : Int) ∧ x23 < ((x21n : Nat) : Int) then
    ((ldR h p1.1 (p1.2 + Int.toNat x23 * 2) 2).bind fun l2 =>
    (asAgg 2 (AV.agg l2)).bind fun d3 =>
    (asI .i64 (d3.getD 0 .bad)).bind fun n4 =>
    (asI .i64 (d3.getD 1 .bad)).bind fun n5 =>
    let h6 := AHeap.put h (nx + 3) (some ⟨[(.int .i64 0), (.int .i64 0)], 2, true⟩)
    (stA h6 (nx + 3) 0 (.agg [(.int .i64 n4), (.int .i64 n5)]) 2).bind fun b7 =>
    let h8 := AHeap.put h6 (nx + 3) (some b7)
    (ldR h8 (nx + 3) 0 2).bind fun l9 =>
    (asAgg 2 (AV.agg l9)).bind fun d10 =>
    (asI .i64 (d10.getD 0 .bad)).bind fun n11 =>
    (asI .i64 (d10.getD 1 .bad)).bind fun n12 =>
    let h13 := AHeap.put h8 (nx + 8) (some ⟨[(.bool false), (.int .i64 n11), (.int .i64 n12)], 3, true⟩)
    (srcS h13 (some ((nx + 8), 0)) 1 3).bind fun q14 =>
    (appD h13 x8a x8n x8c 3 24 (nx + 9) q14).bind fun e15 =>
    let h16 := AHeap.puts h13 e15.sets
    F29_L1' J J call Y lf n0 e15.a e15.n e15.c x21a x21n x21c x22 (wrapA .i64 (x23 + 1)) h16 (nx + 13))
    else none)
    else
    (some ((.tuple [(.slice x8a x8n x8c), (.int .i64 0)]), h, (nx + 4))) := by kernel_rfl

theorem F29_L1_eq (call : YldF → CallF) (Y : YldF) (lf : Nat) (n0 : Nat) (x8a : Option (Nat × Nat)) (x8n : Nat) (x8c : Bool) (x21a : Option (Nat × Nat)) (x21n : Nat) (x21c : Bool) (x22 : Int) (x23 : Int) (h : AHeap) (nx : Nat) : F29_L1 call Y lf (n0 + 1) x8a x8n x8c x21a x21n x21c x22 x23 h nx =
    if (decide ((x23 : Int) < x22)) = true then
    ((x21a).bind fun p1 =>
    if 0 ≤ (x23 : Int) ∧ x23 < ((x21n : Nat) : Int) then
    ((ldR h p1.1 (p1.2 + Int.toNat x23 * 2) 2).bind fun l2 =>
    (asAgg 2 (AV.agg l2)).bind fun d3 =>
    (asI .i64 (d3.getD 0 .bad)).bind fun n4 =>
    (asI .i64 (d3.getD 1 .bad)).bind fun n5 =>
    let h6 := AHeap.put h (nx + 3) (some ⟨[(.int .i64 0), (.int .i64 0)], 2, true⟩)
    (stA h6 (nx + 3) 0 (.agg [(.int .i64 n4), (.int .i64 n5)]) 2).bind fun b7 =>
    let h8 := AHeap.put h6 (nx + 3) (some b7)
    (ldR h8 (nx + 3) 0 2).bind fun l9 =>
    (asAgg 2 (AV.agg l9)).bind fun d10 =>
    (asI .i64 (d10.getD 0 .bad)).bind fun n11 =>
    (asI .i64 (d10.getD 1 .bad)).bind fun n12 =>
    let h13 := AHeap.put h8 (nx + 8) (some ⟨[(.bool false), (.int .i64 n11), (.int .i64 n12)], 3, true⟩)
    (srcS h13 (some ((nx + 8), 0)) 1 3).bind fun q14 =>
    (appD h13 x8a x8n x8c 3 24 (nx + 9) q14).bind fun e15 =>
    let h16 := AHeap.puts h13 e15.sets
    F29_L1 call Y lf n0 e15.a e15.n e15.c x21a x21n x21c x22 (wrapA .i64 (x23 + 1)) h16 (nx + 13))
    else none)
    else
    (some ((.tuple [(.slice x8a x8n x8c), (.int .i64 0)]), h, (nx + 4))) := F29_L1_eq' go1 call Y lf n0 x8a x8n x8c x21a x21n x21c x22 x23 h nx

theorem F29_L1_zero (call : YldF → CallF) (Y : YldF) (lf : Nat) (x8a : Option (Nat × Nat)) (x8n : Nat) (x8c : Bool) (x21a : Option (Nat × Nat)) (x21n : Nat) (x21c : Bool) (x22 : Int) (x23 : Int) (h : AHeap) (nx : Nat) : F29_L1 call Y lf 0 x8a x8n x8c x21a x21n x21c x22 x23 h nx = none := by kernel_rfl

theorem F29_eq' (J : StepF (AV × AHeap × Nat) → StepF (AV × AHeap × Nat)) (n : Nat) (Y : YldF) (x0 : Int) (x1a : Option (Nat × Nat)) (x1n : Nat) (x1c : Bool) (h : AHeap) (nx : Nat) : rootJ J Try.prog keepT (callP Try.prog keepT n) Y n 29 [(.int .i64 x0), (.slice x1a x1n x1c)] h nx =
    ((callP Try.prog keepT n) Y 46 [(.int .i64 x0), (.slice x1a x1n x1c)] h (nx + 10)).bind fun r1 =>
    (asTup 2 r1.1).bind fun d2 =>
    (asP (d2.getD 0 .bad)).bind fun p3 =>
    (asI .i64 (d2.getD 1 .bad)).bind fun n4 =>
    if ((n4 : Int) != 0) = true then
    (some ((.tuple [(.slice none 0 false), (.int .i64 n4)]), r1.2.1, (r1.2.2 + 5)))
    else
    (((callP Try.prog keepT n) Y 47 [(.ptr p3), (.fn 48 [] [])] r1.2.1 (r1.2.2 + 7)).bind fun r5 =>
    (asSl r5.1).bind fun s6 =>
    F29_L1' J J (callP Try.prog keepT n) Y n n none 0 false s6.1 s6.2.1 s6.2.2 ((s6.2.1 : Nat) : Int) 0 r5.2.1 r5.2.2) := by kernel_rfl

/-- quickset/space.Condense -/
theorem F29_eq (n : Nat) (Y : YldF) (x0 : Int) (x1a : Option (Nat × Nat)) (x1n : Nat) (x1c : Bool) (h : AHeap) (nx : Nat) : callP Try.prog keepT (n + 1) Y 29 [(.int .i64 x0), (.slice x1a x1n x1c)] h nx =
    ((callP Try.prog keepT n) Y 46 [(.int .i64 x0), (.slice x1a x1n x1c)] h (nx + 10)).bind fun r1 =>
    (asTup 2 r1.1).bind fun d2 =>
    (asP (d2.getD 0 .bad)).bind fun p3 =>
    (asI .i64 (d2.getD 1 .bad)).bind fun n4 =>
    if ((n4 : Int) != 0) = true then
    (some ((.tuple [(.slice none 0 false), (.int .i64 n4)]), r1.2.1, (r1.2.2 + 5)))
    else
    (((callP Try.prog keepT n) Y 47 [(.ptr p3), (.fn 48 [] [])] r1.2.1 (r1.2.2 + 7)).bind fun r5 =>
    (asSl r5.1).bind fun s6 =>
    F29_L1 (callP Try.prog keepT n) Y n n none 0 false s6.1 s6.2.1 s6.2.2 ((s6.2.1 : Nat) : Int) 0 r5.2.1 r5.2.2) := F29_eq' go1 n Y x0 x1a x1n x1c h nx

noncomputable def c30 : Code := (Try.f30.body).getD .skip

noncomputable def r30 : List ResultVar := Try.f30.results.toList

theorem F30_eq' (J : StepF (AV × AHeap × Nat) → StepF (AV × AHeap × Nat)) (n : Nat) (Y : YldF) (x0 : Int) (x1a : Option (Nat × Nat)) (x1n : Nat) (x1c : Bool) (h : AHeap) (nx : Nat) : rootJ J Try.prog keepT (callP Try.prog keepT n) Y n 30 [(.int .i64 x0), (.slice x1a x1n x1c)] h nx =
    ((callP Try.prog keepT n) Y 46 [(.int .i64 x0), (.slice x1a x1n x1c)] h (nx + 10)).bind fun r1 =>
    (asTup 2 r1.1).bind fun d2 =>
    (asP (d2.getD 0 .bad)).bind fun p3 =>
    (asI .i64 (d2.getD 1 .bad)).bind fun n4 =>
    if ((n4 : Int) != 0) = true then
    (some ((.tuple [(.slice none 0 false), (.int .i64 n4)]), r1.2.1, (r1.2.2 + 5)))
    else
    (((callP Try.prog keepT n) Y 47 [(.ptr p3), (.fn 49 [] [])] r1.2.1 (r1.2.2 + 5)).bind fun r5 =>
    (asSl r5.1).bind fun s6 =>
    if (decide ((((s6.2.1 : Nat) : Int) : Int) > 200)) = true then
    (some ((.tuple [(.slice none 0 false), (.int .i64 8)]), r5.2.1, (r5.2.2 + 5)))
    else
    (some ((.tuple [(.slice s6.1 s6.2.1 s6.2.2), (.int .i64 0)]), r5.2.1, (r5.2.2 + 6)))) := by kernel_rfl

/-- quickset/space.Replay -/
theorem F30_eq (n : Nat) (Y : YldF) (x0 : Int) (x1a : Option (Nat × Nat)) (x1n : Nat) (x1c : Bool) (h : AHeap) (nx : Nat) : callP Try.prog keepT (n + 1) Y 30 [(.int .i64 x0), (.slice x1a x1n x1c)] h nx =
    ((callP Try.prog keepT n) Y 46 [(.int .i64 x0), (.slice x1a x1n x1c)] h (nx + 10)).bind fun r1 =>
    (asTup 2 r1.1).bind fun d2 =>
    (asP (d2.getD 0 .bad)).bind fun p3 =>
    (asI .i64 (d2.getD 1 .bad)).bind fun n4 =>
    if ((n4 : Int) != 0) = true then
    (some ((.tuple [(.slice none 0 false), (.int .i64 n4)]), r1.2.1, (r1.2.2 + 5)))
    else
    (((callP Try.prog keepT n) Y 47 [(.ptr p3), (.fn 49 [] [])] r1.2.1 (r1.2.2 + 5)).bind fun r5 =>
    (asSl r5.1).bind fun s6 =>
    if (decide ((((s6.2.1 : Nat) : Int) : Int) > 200)) = true then
    (some ((.tuple [(.slice none 0 false), (.int .i64 8)]), r5.2.1, (r5.2.2 + 5)))
    else
    (some ((.tuple [(.slice s6.1 s6.2.1 s6.2.2), (.int .i64 0)]), r5.2.1, (r5.2.2 + 6)))) := F30_eq' go1 n Y x0 x1a x1n x1c h nx

noncomputable def c31 : Code := (Try.f31.body).getD .skip

noncomputable def r31 : List ResultVar := Try.f31.results.toList

noncomputable def F31_L1' (W J : StepF (AV × AHeap × Nat) → StepF (AV × AHeap × Nat)) (call : YldF → CallF) (Y : YldF) (lf : Nat) (n0 : Nat) (x1 : Int) (x13a : Option (Nat × Nat)) (x13n : Nat) (x13c : Bool) (x14 : Int) (x15 : Int) (h : AHeap) (nx : Nat) : Option (AV × AHeap × Nat) :=
  goK W J drawK (machOf Try.prog) call Y (keepT 31) lf c31 [1, 1, 1, 0, 1, 0, 9] [n0] (retK (machOf Try.prog) ⟨c31, 29, r31, keepT 31⟩) ⟨29, mkL [(1, (.int .i64 x1)), (13, (.slice x13a x13n x13c)), (14, (.int .i64 x14)), (15, (.int .i64 x15))]⟩ h nx

noncomputable def F31_L1 (call : YldF → CallF) (Y : YldF) (lf : Nat) (n0 : Nat) (x1 : Int) (x13a : Option (Nat × Nat)) (x13n : Nat) (x13c : Bool) (x14 : Int) (x15 : Int) (h : AHeap) (nx : Nat) : Option (AV × AHeap × Nat) := F31_L1' go1 go1 call Y lf n0 x1 x13a x13n x13c x14 x15 h nx

theorem F31_L1_eq' (J : StepF (AV × AHeap × Nat) → StepF (AV × AHeap × Nat)) (call : YldF → CallF) (Y : YldF) (lf : Nat) (n0 : Nat) (x1 : Int) (x13a : Option (Nat × Nat)) (x13n : Nat) (x13c : Bool) (x14 : Int) (x15 : Int) (h : AHeap) (nx : Nat) : F31_L1' go1 J call Y lf (n0 + 1) x1 x13a x13n x13c x14 x15 h nx =
    if (decide ((x15 : Int) < x14)) = true then
    ((x13a).bind fun p1 =>
    if 0 ≤ (x15 : Int) ∧ x15 < ((x13n : Nat) : Int) then
    ((ldR h p1.1 (p1.2 + Int.toNat x15 * 2) 2).bind fun l2 =>
    (asAgg 2 (AV.agg l2)).bind fun d3 =>
    (asI .i64 (d3.getD 0 .bad)).bind fun n4 =>
    (asI .i64 (d3.getD 1 .bad)).bind fun n5 =>
    let h6 := AHeap.put h (nx + 3) (some ⟨[(.int .i64 0), (.int .i64 0)], 2, true⟩)
    (stA h6 (nx + 3) 0 (.agg [(.int .i64 n4), (.int .i64 n5)]) 2).bind fun b7 =>
    let h8 := AHeap.put h6 (nx + 3) (some b7)
    (ldA h8 (nx + 3) 1).bind fun v9 =>
    (asI .i64 v9).bind fun n10 =>
    (ldA h8 (nx + 3) 0).bind fun v11 =>
    (asI .i64 v11).bind fun n12 =>
    if (decide (((wrapA .i64 (n10 - n12)) : Int) ≥ x1)) = true then
    ((ldA h8 (nx + 3) 0).bind fun v13 =>
    (asI .i64 v13).bind fun n14 =>
    some ((.tuple [(.int .i64 n14), (.int .i64 0)]), h8, (nx + 16)))
    else
    (F31_L1' J J call Y lf n0 x1 x13a x13n x13c x14 (wrapA .i64 (x15 + 1)) h8 (nx + 14)))
    else none)
    else
    (some ((.tuple [(.int .i64 0), (.int .i64 6)]), h, (nx + 3))) := by kernel_rfl

theorem F31_L1_eq (call : YldF → CallF) (Y : YldF) (lf : Nat) (n0 : Nat) (x1 : Int) (x13a : Option (Nat × Nat)) (x13n : Nat) (x13c : Bool) (x14 : Int) (x15 : Int) (h : AHeap) (nx : Nat) : F31_L1 call Y lf (n0 + 1) x1 x13a x13n x13c x14 x15 h nx =
    if (decide ((x15 : Int) < x14)) = true then
    ((x13a).bind fun p1 =>
    if 0 ≤ (x15 : Int) ∧ x15 < ((x13n : Nat) : Int) then
    ((ldR h p1.1 (p1.2 + Int.toNat x15 * 2) 2).bind fun l2 =>
    (asAgg 2 (AV.agg l2)).bind fun d3 =>
    (asI .i64 (d3.getD 0 .bad)).bind fun n4 =>
    (asI .i64 (d3.getD 1 .bad)).bind fun n5 =>
    let h6 := AHeap.put h (nx + 3) (some ⟨[(.int .i64 0), (.int .i64 0)], 2, true⟩)
    (stA h6 (nx + 3) 0 (.agg [(.int .i64 n4), (.int .i64 n5)]) 2).bind fun b7 =>
    let h8 := AHeap.put h6 (nx + 3) (some b7)
    (ldA h8 (nx + 3) 1).bind fun v9 =>
    (asI .i64 v9).bind fun n10 =>
    (ldA h8 (nx + 3) 0).bind fun v11 =>
    (asI .i64 v11).bind fun n12 =>
    if (decide (((wrapA .i64 (n10 - n12)) : Int) ≥ x1)) = true then
    ((ldA h8 (nx + 3) 0).bind fun v13 =>
    (asI .i64 v13).bind fun n14 =>
    some ((.tuple [(.int .i64 n14), (.int .i64 0)]), h8, (nx + 16)))
    else
    (F31_L1 call Y lf n0 x1 x13a x13n x13c x14 (wrapA .i64 (x15 + 1)) h8 (nx + 14)))
    else none)
    else
    (some ((.tuple [(.int .i64 0), (.int .i64 6)]), h, (nx + 3))) := F31_L1_eq' go1 call Y lf n0 x1 x13a x13n x13c x14 x15 h nx

theorem F31_L1_zero (call : YldF → CallF) (Y : YldF) (lf : Nat) (x1 : Int) (x13a : Option (Nat × Nat)) (x13n : Nat) (x13c : Bool) (x14 : Int) (x15 : Int) (h : AHeap) (nx : Nat) : F31_L1 call Y lf 0 x1 x13a x13n x13c x14 x15 h nx = none := by kernel_rfl

theorem F31_eq' (J : StepF (AV × AHeap × Nat) → StepF (AV × AHeap × Nat)) (n : Nat) (Y : YldF) (x0a : Option (Nat × Nat)) (x0n : Nat) (x0c : Bool) (x1 : Int) (h : AHeap) (nx : Nat) : rootJ J Try.prog keepT (callP Try.prog keepT n) Y n 31 [(.slice x0a x0n x0c), (.int .i64 x1)] h nx =
    ((callP Try.prog keepT n) Y 32 [(.slice x0a x0n x0c)] h (nx + 5)).bind fun r1 =>
    (asB r1.1).bind fun t2 =>
    if (!t2) = true then
    (some ((.tuple [(.int .i64 0), (.int .i64 4)]), r1.2.1, (r1.2.2 + 2)))
    else
    (if (decide ((x1 : Int) < 1)) = true then
    (some ((.tuple [(.int .i64 0), (.int .i64 2)]), r1.2.1, (r1.2.2 + 4)))
    else
    (F31_L1' J J (callP Try.prog keepT n) Y n n x1 x0a x0n x0c ((x0n : Nat) : Int) 0 r1.2.1 (r1.2.2 + 5))) := by kernel_rfl

/-- quickset/span.First -/
theorem F31_eq (n : Nat) (Y : YldF) (x0a : Option (Nat × Nat)) (x0n : Nat) (x0c : Bool) (x1 : Int) (h : AHeap) (nx : Nat) : callP Try.prog keepT (n + 1) Y 31 [(.slice x0a x0n x0c), (.int .i64 x1)] h nx =
    ((callP Try.prog keepT n) Y 32 [(.slice x0a x0n x0c)] h (nx + 5)).bind fun r1 =>
    (asB r1.1).bind fun t2 =>
    if (!t2) = true then
    (some ((.tuple [(.int .i64 0), (.int .i64 4)]), r1.2.1, (r1.2.2 + 2)))
    else
    (if (decide ((x1 : Int) < 1)) = true then
    (some ((.tuple [(.int .i64 0), (.int .i64 2)]), r1.2.1, (r1.2.2 + 4)))
    else
    (F31_L1 (callP Try.prog keepT n) Y n n x1 x0a x0n x0c ((x0n : Nat) : Int) 0 r1.2.1 (r1.2.2 + 5))) := F31_eq' go1 n Y x0a x0n x0c x1 h nx

noncomputable def c32 : Code := (Try.f32.body).getD .skip

noncomputable def r32 : List ResultVar := Try.f32.results.toList

noncomputable def F32_L1' (W J : StepF (AV × AHeap × Nat) → StepF (AV × AHeap × Nat)) (call : YldF → CallF) (Y : YldF) (lf : Nat) (n0 : Nat) (x0a : Option (Nat × Nat)) (x0n : Nat) (x0c : Bool) (x5a : Option (Nat × Nat)) (x5n : Nat) (x5c : Bool) (x6 : Int) (x7 : Int) (h : AHeap) (nx : Nat) : Option (AV × AHeap × Nat) :=
  goK W J drawK (machOf Try.prog) call Y (keepT 32) lf c32 [1, 0, 1, 0, 9] [n0] (retK (machOf Try.prog) ⟨c32, 34, r32, keepT 32⟩) ⟨34, mkL [(0, (.slice x0a x0n x0c)), (5, (.slice x5a x5n x5c)), (6, (.int .i64 x6)), (7, (.int .i64 x7))]⟩ h nx

noncomputable def F32_L1 (call : YldF → CallF) (Y : YldF) (lf : Nat) (n0 : Nat) (x0a : Option (Nat × Nat)) (x0n : Nat) (x0c : Bool) (x5a : Option (Nat × Nat)) (x5n : Nat) (x5c : Bool) (x6 : Int) (x7 : Int) (h : AHeap) (nx : Nat) : Option (AV × AHeap × Nat) := F32_L1' go1 go1 call Y lf n0 x0a x0n x0c x5a x5n x5c x6 x7 h nx

theorem F32_L1_eq' (J : StepF (AV × AHeap × Nat) → StepF (AV × AHeap × Nat)) (call : YldF → CallF) (Y : YldF) (lf : Nat) (n0 : Nat) (x0a : Option (Nat × Nat)) (x0n : Nat) (x0c : Bool) (x5a : Option (Nat × Nat)) (x5n : Nat) (x5c : Bool) (x6 : Int) (x7 : Int) (h : AHeap) (nx : Nat) : F32_L1' go1 J call Y lf (n0 + 1) x0a x0n x0c x5a x5n x5c x6 x7 h nx =
    if (decide ((x7 : Int) < x6)) = true then
    ((x5a).bind fun p1 =>
    if 0 ≤ (x7 : Int) ∧ x7 < ((x5n : Nat) : Int) then
    ((ldR h p1.1 (p1.2 + Int.toNat x7 * 2) 2).bind fun l2 =>
    (asAgg 2 (AV.agg l2)).bind fun d3 =>
    (asI .i64 (d3.getD 0 .bad)).bind fun n4 =>
    (asI .i64 (d3.getD 1 .bad)).bind fun n5 =>
    let h6 := AHeap.put h (nx + 4) (some ⟨[(.int .i64 0), (.int .i64 0)], 2, true⟩)
    (stA h6 (nx + 4) 0 (.agg [(.int .i64 n4), (.int .i64 n5)]) 2).bind fun b7 =>
    let h8 := AHeap.put h6 (nx + 4) (some b7)
    (ldR h8 (nx + 4) 0 2).bind fun l9 =>
    (asAgg 2 (AV.agg l9)).bind fun d10 =>
    (asI .i64 (d10.getD 0 .bad)).bind fun n11 =>
    (asI .i64 (d10.getD 1 .bad)).bind fun n12 =>
    (call Y 50 [(.agg [(.int .i64 n11), (.int .i64 n12)])] h8 (nx + 25)).bind fun r13 =>
    (asB r13.1).bind fun t14 =>
    if (!t14) = true then
    (some ((.bool false), r13.2.1, (r13.2.2 + 1)))
    else
    (if (decide ((x7 : Int) > 0)) = true then
    ((x0a).bind fun p15 =>
    if 0 ≤ ((wrapA .i64 (x7 - 1)) : Int) ∧ (wrapA .i64 (x7 - 1)) < ((x0n : Nat) : Int) then
    ((ldA r13.2.1 p15.1 ((p15.2 + Int.toNat (wrapA .i64 (x7 - 1)) * 2) + 1)).bind fun v16 =>
    (asI .i64 v16).bind fun n17 =>
    (ldA r13.2.1 (nx + 4) 0).bind fun v18 =>
    (asI .i64 v18).bind fun n19 =>
    if (decide ((n17 : Int) ≥ n19)) = true then
    (some ((.bool false), r13.2.1, (r13.2.2 + 1)))
    else
    (F32_L1' J J call Y lf n0 x0a x0n x0c x5a x5n x5c x6 (wrapA .i64 (x7 + 1)) r13.2.1 (r13.2.2 + 2)))
    else none)
    else
    (F32_L1' J J call Y lf n0 x0a x0n x0c x5a x5n x5c x6 (wrapA .i64 (x7 + 1)) r13.2.1 (r13.2.2 + 2))))
    else none)
    else
    (some ((.bool (decide ((((x0n : Nat) : Int) : Int) ≤ 200))), h, (nx + 5))) := by kernel_rfl

theorem F32_L1_eq (call : YldF → CallF) (Y : YldF) (lf : Nat) (n0 : Nat) (x0a : Option (Nat × Nat)) (x0n : Nat) (x0c : Bool) (x5a : Option (Nat × Nat)) (x5n : Nat) (x5c : Bool) (x6 : Int) (x7 : Int) (h : AHeap) (nx : Nat) : F32_L1 call Y lf (n0 + 1) x0a x0n x0c x5a x5n x5c x6 x7 h nx =
    if (decide ((x7 : Int) < x6)) = true then
    ((x5a).bind fun p1 =>
    if 0 ≤ (x7 : Int) ∧ x7 < ((x5n : Nat) : Int) then
    ((ldR h p1.1 (p1.2 + Int.toNat x7 * 2) 2).bind fun l2 =>
    (asAgg 2 (AV.agg l2)).bind fun d3 =>
    (asI .i64 (d3.getD 0 .bad)).bind fun n4 =>
    (asI .i64 (d3.getD 1 .bad)).bind fun n5 =>
    let h6 := AHeap.put h (nx + 4) (some ⟨[(.int .i64 0), (.int .i64 0)], 2, true⟩)
    (stA h6 (nx + 4) 0 (.agg [(.int .i64 n4), (.int .i64 n5)]) 2).bind fun b7 =>
    let h8 := AHeap.put h6 (nx + 4) (some b7)
    (ldR h8 (nx + 4) 0 2).bind fun l9 =>
    (asAgg 2 (AV.agg l9)).bind fun d10 =>
    (asI .i64 (d10.getD 0 .bad)).bind fun n11 =>
    (asI .i64 (d10.getD 1 .bad)).bind fun n12 =>
    (call Y 50 [(.agg [(.int .i64 n11), (.int .i64 n12)])] h8 (nx + 25)).bind fun r13 =>
    (asB r13.1).bind fun t14 =>
    if (!t14) = true then
    (some ((.bool false), r13.2.1, (r13.2.2 + 1)))
    else
    (if (decide ((x7 : Int) > 0)) = true then
    ((x0a).bind fun p15 =>
    if 0 ≤ ((wrapA .i64 (x7 - 1)) : Int) ∧ (wrapA .i64 (x7 - 1)) < ((x0n : Nat) : Int) then
    ((ldA r13.2.1 p15.1 ((p15.2 + Int.toNat (wrapA .i64 (x7 - 1)) * 2) + 1)).bind fun v16 =>
    (asI .i64 v16).bind fun n17 =>
    (ldA r13.2.1 (nx + 4) 0).bind fun v18 =>
    (asI .i64 v18).bind fun n19 =>
    if (decide ((n17 : Int) ≥ n19)) = true then
    (some ((.bool false), r13.2.1, (r13.2.2 + 1)))
    else
    (F32_L1 call Y lf n0 x0a x0n x0c x5a x5n x5c x6 (wrapA .i64 (x7 + 1)) r13.2.1 (r13.2.2 + 2)))
    else none)
    else
    (F32_L1 call Y lf n0 x0a x0n x0c x5a x5n x5c x6 (wrapA .i64 (x7 + 1)) r13.2.1 (r13.2.2 + 2))))
    else none)
    else
    (some ((.bool (decide ((((x0n : Nat) : Int) : Int) ≤ 200))), h, (nx + 5))) := F32_L1_eq' go1 call Y lf n0 x0a x0n x0c x5a x5n x5c x6 x7 h nx

theorem F32_L1_zero (call : YldF → CallF) (Y : YldF) (lf : Nat) (x0a : Option (Nat × Nat)) (x0n : Nat) (x0c : Bool) (x5a : Option (Nat × Nat)) (x5n : Nat) (x5c : Bool) (x6 : Int) (x7 : Int) (h : AHeap) (nx : Nat) : F32_L1 call Y lf 0 x0a x0n x0c x5a x5n x5c x6 x7 h nx = none := by kernel_rfl

theorem F32_eq' (J : StepF (AV × AHeap × Nat) → StepF (AV × AHeap × Nat)) (n : Nat) (Y : YldF) (x0a : Option (Nat × Nat)) (x0n : Nat) (x0c : Bool) (h : AHeap) (nx : Nat) : rootJ J Try.prog keepT (callP Try.prog keepT n) Y n 32 [(.slice x0a x0n x0c)] h nx =
    F32_L1' J J (callP Try.prog keepT n) Y n n x0a x0n x0c x0a x0n x0c ((x0n : Nat) : Int) 0 h (nx + 4) := by kernel_rfl

/-- quickset/span.May -/
theorem F32_eq (n : Nat) (Y : YldF) (x0a : Option (Nat × Nat)) (x0n : Nat) (x0c : Bool) (h : AHeap) (nx : Nat) : callP Try.prog keepT (n + 1) Y 32 [(.slice x0a x0n x0c)] h nx =
    F32_L1 (callP Try.prog keepT n) Y n n x0a x0n x0c x0a x0n x0c ((x0n : Nat) : Int) 0 h (nx + 4) := F32_eq' go1 n Y x0a x0n x0c h nx

noncomputable def c33 : Code := (Try.f33.body).getD .skip

noncomputable def r33 : List ResultVar := Try.f33.results.toList

noncomputable def F33_L1' (W J : StepF (AV × AHeap × Nat) → StepF (AV × AHeap × Nat)) (call : YldF → CallF) (Y : YldF) (lf : Nat) (n0 : Nat) (x3 : Int) (x8a : Option (Nat × Nat)) (x8n : Nat) (x8c : Bool) (x9 : Int) (x10 : Int) (h : AHeap) (nx : Nat) : Option (AV × AHeap × Nat) :=
  goK W J drawK (machOf Try.prog) call Y (keepT 33) lf c33 [1, 1, 0, 1, 0, 1, 0, 9] [n0] (retK (machOf Try.prog) ⟨c33, 23, r33, keepT 33⟩) ⟨23, mkL [(3, (.int .i64 x3)), (8, (.slice x8a x8n x8c)), (9, (.int .i64 x9)), (10, (.int .i64 x10))]⟩ h nx

noncomputable def F33_L1 (call : YldF → CallF) (Y : YldF) (lf : Nat) (n0 : Nat) (x3 : Int) (x8a : Option (Nat × Nat)) (x8n : Nat) (x8c : Bool) (x9 : Int) (x10 : Int) (h : AHeap) (nx : Nat) : Option (AV × AHeap × Nat) := F33_L1' go1 go1 call Y lf n0 x3 x8a x8n x8c x9 x10 h nx

theorem F33_L1_eq' (J : StepF (AV × AHeap × Nat) → StepF (AV × AHeap × Nat)) (call : YldF → CallF) (Y : YldF) (lf : Nat) (n0 : Nat) (x3 : Int) (x8a : Option (Nat × Nat)) (x8n : Nat) (x8c : Bool) (x9 : Int) (x10 : Int) (h : AHeap) (nx : Nat) : F33_L1' go1 J call Y lf (n0 + 1) x3 x8a x8n x8c x9 x10 h nx =
    if (decide ((x10 : Int) < x9)) = true then
    ((x8a).bind fun p1 =>
    if 0 ≤ (x10 : Int) ∧ x10 < ((x8n : Nat) : Int) then
    ((ldR h p1.1 (p1.2 + Int.toNat x10 * 2) 2).bind fun l2 =>
    (asAgg 2 (AV.agg l2)).bind fun d3 =>
    (asI .i64 (d3.getD 0 .bad)).bind fun n4 =>
    (asI .i64 (d3.getD 1 .bad)).bind fun n5 =>
    let h6 := AHeap.put h (nx + 3) (some ⟨[(.int .i64 0), (.int .i64 0)], 2, true⟩)
    (stA h6 (nx + 3) 0 (.agg [(.int .i64 n4), (.int .i64 n5)]) 2).bind fun b7 =>
    let h8 := AHeap.put h6 (nx + 3) (some b7)
    (ldA h8 (nx + 3) 1).bind fun v9 =>
    (asI .i64 v9).bind fun n10 =>
    (ldA h8 (nx + 3) 0).bind fun v11 =>
    (asI .i64 v11).bind fun n12 =>
    F33_L1' J J call Y lf n0 (wrapA .i64 (x3 + (wrapA .i64 (n10 - n12)))) x8a x8n x8c x9 (wrapA .i64 (x10 + 1)) h8 (nx + 15))
    else none)
    else
    (some ((.int .i64 x3), h, (nx + 3))) := by kernel_rfl

theorem F33_L1_eq (call : YldF → CallF) (Y : YldF) (lf : Nat) (n0 : Nat) (x3 : Int) (x8a : Option (Nat × Nat)) (x8n : Nat) (x8c : Bool) (x9 : Int) (x10 : Int) (h : AHeap) (nx : Nat) : F33_L1 call Y lf (n0 + 1) x3 x8a x8n x8c x9 x10 h nx =
    if (decide ((x10 : Int) < x9)) = true then
    ((x8a).bind fun p1 =>
    if 0 ≤ (x10 : Int) ∧ x10 < ((x8n : Nat) : Int) then
    ((ldR h p1.1 (p1.2 + Int.toNat x10 * 2) 2).bind fun l2 =>
    (asAgg 2 (AV.agg l2)).bind fun d3 =>
    (asI .i64 (d3.getD 0 .bad)).bind fun n4 =>
    (asI .i64 (d3.getD 1 .bad)).bind fun n5 =>
    let h6 := AHeap.put h (nx + 3) (some ⟨[(.int .i64 0), (.int .i64 0)], 2, true⟩)
    (stA h6 (nx + 3) 0 (.agg [(.int .i64 n4), (.int .i64 n5)]) 2).bind fun b7 =>
    let h8 := AHeap.put h6 (nx + 3) (some b7)
    (ldA h8 (nx + 3) 1).bind fun v9 =>
    (asI .i64 v9).bind fun n10 =>
    (ldA h8 (nx + 3) 0).bind fun v11 =>
    (asI .i64 v11).bind fun n12 =>
    F33_L1 call Y lf n0 (wrapA .i64 (x3 + (wrapA .i64 (n10 - n12)))) x8a x8n x8c x9 (wrapA .i64 (x10 + 1)) h8 (nx + 15))
    else none)
    else
    (some ((.int .i64 x3), h, (nx + 3))) := F33_L1_eq' go1 call Y lf n0 x3 x8a x8n x8c x9 x10 h nx

theorem F33_L1_zero (call : YldF → CallF) (Y : YldF) (lf : Nat) (x3 : Int) (x8a : Option (Nat × Nat)) (x8n : Nat) (x8c : Bool) (x9 : Int) (x10 : Int) (h : AHeap) (nx : Nat) : F33_L1 call Y lf 0 x3 x8a x8n x8c x9 x10 h nx = none := by kernel_rfl

theorem F33_eq' (J : StepF (AV × AHeap × Nat) → StepF (AV × AHeap × Nat)) (n : Nat) (Y : YldF) (x0a : Option (Nat × Nat)) (x0n : Nat) (x0c : Bool) (h : AHeap) (nx : Nat) : rootJ J Try.prog keepT (callP Try.prog keepT n) Y n 33 [(.slice x0a x0n x0c)] h nx =
    ((callP Try.prog keepT n) Y 32 [(.slice x0a x0n x0c)] h (nx + 4)).bind fun r1 =>
    (asB r1.1).bind fun t2 =>
    if t2 = true then
    (F33_L1' J J (callP Try.prog keepT n) Y n n 0 x0a x0n x0c ((x0n : Nat) : Int) 0 r1.2.1 (r1.2.2 + 3))
    else
    (some ((.int .i64 0), r1.2.1, (r1.2.2 + 2))) := by kernel_rfl

/-- quickset/span.Size -/
theorem F33_eq (n : Nat) (Y : YldF) (x0a : Option (Nat × Nat)) (x0n : Nat) (x0c : Bool) (h : AHeap) (nx : Nat) : callP Try.prog keepT (n + 1) Y 33 [(.slice x0a x0n x0c)] h nx =
    ((callP Try.prog keepT n) Y 32 [(.slice x0a x0n x0c)] h (nx + 4)).bind fun r1 =>
    (asB r1.1).bind fun t2 =>
    if t2 = true then
    (F33_L1 (callP Try.prog keepT n) Y n n 0 x0a x0n x0c ((x0n : Nat) : Int) 0 r1.2.1 (r1.2.2 + 3))
    else
    (some ((.int .i64 0), r1.2.1, (r1.2.2 + 2))) := F33_eq' go1 n Y x0a x0n x0c h nx

noncomputable def c34 : Code := (Try.f34.body).getD .skip

noncomputable def r34 : List ResultVar := Try.f34.results.toList

noncomputable def F34_L1' (W J : StepF (AV × AHeap × Nat) → StepF (AV × AHeap × Nat)) (call : YldF → CallF) (Y : YldF) (lf : Nat) (n0 : Nat) (x0a : Option (Nat × Nat)) (x0n : Nat) (x0c : Bool) (x1a : Option (Nat × Nat)) (x1n : Nat) (x1c : Bool) (x5 : Int) (h : AHeap) (nx : Nat) : Option (AV × AHeap × Nat) :=
  goK W J drawK (machOf Try.prog) call Y (keepT 34) lf c34 [1, 1, 0, 1, 0, 9] [n0] (retK (machOf Try.prog) ⟨c34, 26, r34, keepT 34⟩) ⟨26, mkL [(0, (.slice x0a x0n x0c)), (1, (.slice x1a x1n x1c)), (5, (.int .i64 x5))]⟩ h nx

noncomputable def F34_L1 (call : YldF → CallF) (Y : YldF) (lf : Nat) (n0 : Nat) (x0a : Option (Nat × Nat)) (x0n : Nat) (x0c : Bool) (x1a : Option (Nat × Nat)) (x1n : Nat) (x1c : Bool) (x5 : Int) (h : AHeap) (nx : Nat) : Option (AV × AHeap × Nat) := F34_L1' go1 go1 call Y lf n0 x0a x0n x0c x1a x1n x1c x5 h nx

theorem F34_L1_eq' (J : StepF (AV × AHeap × Nat) → StepF (AV × AHeap × Nat)) (call : YldF → CallF) (Y : YldF) (lf : Nat) (n0 : Nat) (x0a : Option (Nat × Nat)) (x0n : Nat) (x0c : Bool) (x1a : Option (Nat × Nat)) (x1n : Nat) (x1c : Bool) (x5 : Int) (h : AHeap) (nx : Nat) : F34_L1' go1 J call Y lf (n0 + 1) x0a x0n x0c x1a x1n x1c x5 h nx =
    if (decide ((x5 : Int) < ((x0n : Nat) : Int))) = true then
    ((x0a).bind fun p1 =>
    if 0 ≤ (x5 : Int) ∧ x5 < ((x0n : Nat) : Int) then
    ((ldR h p1.1 (p1.2 + Int.toNat x5 * 2) 2).bind fun l2 =>
    (asAgg 2 (AV.agg l2)).bind fun d3 =>
    (asI .i64 (d3.getD 0 .bad)).bind fun n4 =>
    (asI .i64 (d3.getD 1 .bad)).bind fun n5 =>
    (x1a).bind fun p6 =>
    if 0 ≤ (x5 : Int) ∧ x5 < ((x1n : Nat) : Int) then
    ((ldR h p6.1 (p6.2 + Int.toNat x5 * 2) 2).bind fun l7 =>
    (asAgg 2 (AV.agg l7)).bind fun d8 =>
    (asI .i64 (d8.getD 0 .bad)).bind fun n9 =>
    (asI .i64 (d8.getD 1 .bad)).bind fun n10 =>
    if (!eqCells [(.int .i64 n4), (.int .i64 n5)] [(.int .i64 n9), (.int .i64 n10)]) = true then
    (some ((.bool false), h, (nx + 14)))
    else
    (F34_L1' J J call Y lf n0 x0a x0n x0c x1a x1n x1c (wrapA .i64 (x5 + 1)) h (nx + 16)))
    else none)
    else none)
    else
    (some ((.bool true), h, (nx + 5))) := by kernel_rfl

theorem F34_L1_eq (call : YldF → CallF) (Y : YldF) (lf : Nat) (n0 : Nat) (x0a : Option (Nat × Nat)) (x0n : Nat) (x0c : Bool) (x1a : Option (Nat × Nat)) (x1n : Nat) (x1c : Bool) (x5 : Int) (h : AHeap) (nx : Nat) : F34_L1 call Y lf (n0 + 1) x0a x0n x0c x1a x1n x1c x5 h nx =
    if (decide ((x5 : Int) < ((x0n : Nat) : Int))) = true then
    ((x0a).bind fun p1 =>
    if 0 ≤ (x5 : Int) ∧ x5 < ((x0n : Nat) : Int) then
    ((ldR h p1.1 (p1.2 + Int.toNat x5 * 2) 2).bind fun l2 =>
    (asAgg 2 (AV.agg l2)).bind fun d3 =>
    (asI .i64 (d3.getD 0 .bad)).bind fun n4 =>
    (asI .i64 (d3.getD 1 .bad)).bind fun n5 =>
    (x1a).bind fun p6 =>
    if 0 ≤ (x5 : Int) ∧ x5 < ((x1n : Nat) : Int) then
    ((ldR h p6.1 (p6.2 + Int.toNat x5 * 2) 2).bind fun l7 =>
    (asAgg 2 (AV.agg l7)).bind fun d8 =>
    (asI .i64 (d8.getD 0 .bad)).bind fun n9 =>
    (asI .i64 (d8.getD 1 .bad)).bind fun n10 =>
    if (!eqCells [(.int .i64 n4), (.int .i64 n5)] [(.int .i64 n9), (.int .i64 n10)]) = true then
    (some ((.bool false), h, (nx + 14)))
    else
    (F34_L1 call Y lf n0 x0a x0n x0c x1a x1n x1c (wrapA .i64 (x5 + 1)) h (nx + 16)))
    else none)
    else none)
    else
    (some ((.bool true), h, (nx + 5))) := F34_L1_eq' go1 call Y lf n0 x0a x0n x0c x1a x1n x1c x5 h nx

theorem F34_L1_zero (call : YldF → CallF) (Y : YldF) (lf : Nat) (x0a : Option (Nat × Nat)) (x0n : Nat) (x0c : Bool) (x1a : Option (Nat × Nat)) (x1n : Nat) (x1c : Bool) (x5 : Int) (h : AHeap) (nx : Nat) : F34_L1 call Y lf 0 x0a x0n x0c x1a x1n x1c x5 h nx = none := by kernel_rfl

theorem F34_eq' (J : StepF (AV × AHeap × Nat) → StepF (AV × AHeap × Nat)) (n : Nat) (Y : YldF) (x0a : Option (Nat × Nat)) (x0n : Nat) (x0c : Bool) (x1a : Option (Nat × Nat)) (x1n : Nat) (x1c : Bool) (h : AHeap) (nx : Nat) : rootJ J Try.prog keepT (callP Try.prog keepT n) Y n 34 [(.slice x0a x0n x0c), (.slice x1a x1n x1c)] h nx =
    if ((((x0n : Nat) : Int) : Int) != ((x1n : Nat) : Int)) = true then
    (some ((.bool false), h, (nx + 7)))
    else
    (F34_L1' J J (callP Try.prog keepT n) Y n n x0a x0n x0c x1a x1n x1c 0 h (nx + 7)) := by kernel_rfl

/-- quickset/quicksetkeep.sameRanges -/
theorem F34_eq (n : Nat) (Y : YldF) (x0a : Option (Nat × Nat)) (x0n : Nat) (x0c : Bool) (x1a : Option (Nat × Nat)) (x1n : Nat) (x1c : Bool) (h : AHeap) (nx : Nat) : callP Try.prog keepT (n + 1) Y 34 [(.slice x0a x0n x0c), (.slice x1a x1n x1c)] h nx =
    if ((((x0n : Nat) : Int) : Int) != ((x1n : Nat) : Int)) = true then
    (some ((.bool false), h, (nx + 7)))
    else
    (F34_L1 (callP Try.prog keepT n) Y n n x0a x0n x0c x1a x1n x1c 0 h (nx + 7)) := F34_eq' go1 n Y x0a x0n x0c x1a x1n x1c h nx

noncomputable def c35 : Code := (Try.f35.body).getD .skip

noncomputable def r35 : List ResultVar := Try.f35.results.toList

theorem F35_eq' (J : StepF (AV × AHeap × Nat) → StepF (AV × AHeap × Nat)) (n : Nat) (Y : YldF) (x0 : Int) (h : AHeap) (nx : Nat) : rootJ J Try.prog keepT (callP Try.prog keepT n) Y n 35 [(.int .i64 x0)] h nx =
    if (decide ((x0 : Int) ≥ 1)) = true then
    (some ((.bool (decide ((x0 : Int) ≤ 4096))), h, (nx + 8)))
    else
    (some ((.bool false), h, (nx + 8))) := by kernel_rfl

/-- quickset/space.sized -/
theorem F35_eq (n : Nat) (Y : YldF) (x0 : Int) (h : AHeap) (nx : Nat) : callP Try.prog keepT (n + 1) Y 35 [(.int .i64 x0)] h nx =
    if (decide ((x0 : Int) ≥ 1)) = true then
    (some ((.bool (decide ((x0 : Int) ≤ 4096))), h, (nx + 8)))
    else
    (some ((.bool false), h, (nx + 8))) := F35_eq' go1 n Y x0 h nx

noncomputable def c36 : Code := (Try.f36.body).getD .skip

noncomputable def r36 : List ResultVar := Try.f36.results.toList

theorem F36_eq' (J : StepF (AV × AHeap × Nat) → StepF (AV × AHeap × Nat)) (n : Nat) (Y : YldF) (x0 : Option (Nat × Nat)) (x1_0 : Int) (x1_1 : Int) (x1_2 : Int) (h : AHeap) (nx : Nat) : rootJ J Try.prog keepT (callP Try.prog keepT n) Y n 36 [(.ptr x0), (.agg [(.int .i64 x1_0), (.int .i64 x1_1), (.int .i64 x1_2)])] h nx =
    let h1 := AHeap.put h nx (some ⟨[(.int .i64 x1_0), (.int .i64 x1_1), (.int .i64 x1_2)], 3, true⟩)
    let h2 := AHeap.put h1 (nx + 1) (some ⟨[(.int .i64 0), (.int .i64 0), (.int .i64 0)], 3, true⟩)
    (ldA h2 nx 0).bind fun v3 =>
    (asI .i64 v3).bind fun n4 =>
    if ((n4 : Int) == 1) = true then
    ((ldA h2 nx 2).bind fun v5 =>
    (asI .i64 v5).bind fun n6 =>
    ((callP Try.prog keepT n) Y 51 [(.ptr x0), (.int .i64 n6)] h2 (nx + 11)).bind fun r7 =>
    (asAgg 3 r7.1).bind fun d8 =>
    (asI .i64 (d8.getD 0 .bad)).bind fun n9 =>
    (asI .i64 (d8.getD 1 .bad)).bind fun n10 =>
    (asI .i64 (d8.getD 2 .bad)).bind fun n11 =>
    (stA r7.2.1 (nx + 1) 0 (.agg [(.int .i64 n9), (.int .i64 n10), (.int .i64 n11)]) 3).bind fun b12 =>
    let h13 := AHeap.put r7.2.1 (nx + 1) (some b12)
    (ldR h13 (nx + 1) 0 3).bind fun l14 =>
    (asAgg 3 (AV.agg l14)).bind fun d15 =>
    (asI .i64 (d15.getD 0 .bad)).bind fun n16 =>
    (asI .i64 (d15.getD 1 .bad)).bind fun n17 =>
    (asI .i64 (d15.getD 2 .bad)).bind fun n18 =>
    some ((.agg [(.int .i64 n16), (.int .i64 n17), (.int .i64 n18)]), h13, r7.2.2))
    else
    (if ((n4 : Int) == 2) = true then
    ((ldR h2 nx 0 3).bind fun l19 =>
    (asAgg 3 (AV.agg l19)).bind fun d20 =>
    (asI .i64 (d20.getD 0 .bad)).bind fun n21 =>
    (asI .i64 (d20.getD 1 .bad)).bind fun n22 =>
    (asI .i64 (d20.getD 2 .bad)).bind fun n23 =>
    ((callP Try.prog keepT n) Y 52 [(.ptr x0), (.agg [(.int .i64 n21), (.int .i64 n22), (.int .i64 n23)])] h2 (nx + 13)).bind fun r24 =>
    (asI .i64 r24.1).bind fun n25 =>
    (stA r24.2.1 (nx + 1) 0 (.agg [(.int .i64 n25), (.int .i64 0), (.int .i64 0)]) 3).bind fun b26 =>
    let h27 := AHeap.put r24.2.1 (nx + 1) (some b26)
    (ldR h27 (nx + 1) 0 3).bind fun l28 =>
    (asAgg 3 (AV.agg l28)).bind fun d29 =>
    (asI .i64 (d29.getD 0 .bad)).bind fun n30 =>
    (asI .i64 (d29.getD 1 .bad)).bind fun n31 =>
    (asI .i64 (d29.getD 2 .bad)).bind fun n32 =>
    some ((.agg [(.int .i64 n30), (.int .i64 n31), (.int .i64 n32)]), h27, r24.2.2))
    else
    (if ((n4 : Int) == 3) = true then
    (((callP Try.prog keepT n) Y 53 [(.ptr x0)] h2 (nx + 12)).bind fun r33 =>
    (asTup 0 r33.1).bind fun d34 =>
    (stA r33.2.1 (nx + 1) 0 (.agg [(.int .i64 0), (.int .i64 0), (.int .i64 0)]) 3).bind fun b35 =>
    let h36 := AHeap.put r33.2.1 (nx + 1) (some b35)
    (ldR h36 (nx + 1) 0 3).bind fun l37 =>
    (asAgg 3 (AV.agg l37)).bind fun d38 =>
    (asI .i64 (d38.getD 0 .bad)).bind fun n39 =>
    (asI .i64 (d38.getD 1 .bad)).bind fun n40 =>
    (asI .i64 (d38.getD 2 .bad)).bind fun n41 =>
    some ((.agg [(.int .i64 n39), (.int .i64 n40), (.int .i64 n41)]), h36, (r33.2.2 + 2)))
    else
    ((stA h2 (nx + 1) 0 (.agg [(.int .i64 3), (.int .i64 0), (.int .i64 0)]) 3).bind fun b42 =>
    let h43 := AHeap.put h2 (nx + 1) (some b42)
    (ldR h43 (nx + 1) 0 3).bind fun l44 =>
    (asAgg 3 (AV.agg l44)).bind fun d45 =>
    (asI .i64 (d45.getD 0 .bad)).bind fun n46 =>
    (asI .i64 (d45.getD 1 .bad)).bind fun n47 =>
    (asI .i64 (d45.getD 2 .bad)).bind fun n48 =>
    some ((.agg [(.int .i64 n46), (.int .i64 n47), (.int .i64 n48)]), h43, (nx + 12))))) := by kernel_rfl

/-- (*quickset/space.space).do -/
theorem F36_eq (n : Nat) (Y : YldF) (x0 : Option (Nat × Nat)) (x1_0 : Int) (x1_1 : Int) (x1_2 : Int) (h : AHeap) (nx : Nat) : callP Try.prog keepT (n + 1) Y 36 [(.ptr x0), (.agg [(.int .i64 x1_0), (.int .i64 x1_1), (.int .i64 x1_2)])] h nx =
    let h1 := AHeap.put h nx (some ⟨[(.int .i64 x1_0), (.int .i64 x1_1), (.int .i64 x1_2)], 3, true⟩)
    let h2 := AHeap.put h1 (nx + 1) (some ⟨[(.int .i64 0), (.int .i64 0), (.int .i64 0)], 3, true⟩)
    (ldA h2 nx 0).bind fun v3 =>
    (asI .i64 v3).bind fun n4 =>
    if ((n4 : Int) == 1) = true then
    ((ldA h2 nx 2).bind fun v5 =>
    (asI .i64 v5).bind fun n6 =>
    ((callP Try.prog keepT n) Y 51 [(.ptr x0), (.int .i64 n6)] h2 (nx + 11)).bind fun r7 =>
    (asAgg 3 r7.1).bind fun d8 =>
    (asI .i64 (d8.getD 0 .bad)).bind fun n9 =>
    (asI .i64 (d8.getD 1 .bad)).bind fun n10 =>
    (asI .i64 (d8.getD 2 .bad)).bind fun n11 =>
    (stA r7.2.1 (nx + 1) 0 (.agg [(.int .i64 n9), (.int .i64 n10), (.int .i64 n11)]) 3).bind fun b12 =>
    let h13 := AHeap.put r7.2.1 (nx + 1) (some b12)
    (ldR h13 (nx + 1) 0 3).bind fun l14 =>
    (asAgg 3 (AV.agg l14)).bind fun d15 =>
    (asI .i64 (d15.getD 0 .bad)).bind fun n16 =>
    (asI .i64 (d15.getD 1 .bad)).bind fun n17 =>
    (asI .i64 (d15.getD 2 .bad)).bind fun n18 =>
    some ((.agg [(.int .i64 n16), (.int .i64 n17), (.int .i64 n18)]), h13, r7.2.2))
    else
    (if ((n4 : Int) == 2) = true then
    ((ldR h2 nx 0 3).bind fun l19 =>
    (asAgg 3 (AV.agg l19)).bind fun d20 =>
    (asI .i64 (d20.getD 0 .bad)).bind fun n21 =>
    (asI .i64 (d20.getD 1 .bad)).bind fun n22 =>
    (asI .i64 (d20.getD 2 .bad)).bind fun n23 =>
    ((callP Try.prog keepT n) Y 52 [(.ptr x0), (.agg [(.int .i64 n21), (.int .i64 n22), (.int .i64 n23)])] h2 (nx + 13)).bind fun r24 =>
    (asI .i64 r24.1).bind fun n25 =>
    (stA r24.2.1 (nx + 1) 0 (.agg [(.int .i64 n25), (.int .i64 0), (.int .i64 0)]) 3).bind fun b26 =>
    let h27 := AHeap.put r24.2.1 (nx + 1) (some b26)
    (ldR h27 (nx + 1) 0 3).bind fun l28 =>
    (asAgg 3 (AV.agg l28)).bind fun d29 =>
    (asI .i64 (d29.getD 0 .bad)).bind fun n30 =>
    (asI .i64 (d29.getD 1 .bad)).bind fun n31 =>
    (asI .i64 (d29.getD 2 .bad)).bind fun n32 =>
    some ((.agg [(.int .i64 n30), (.int .i64 n31), (.int .i64 n32)]), h27, r24.2.2))
    else
    (if ((n4 : Int) == 3) = true then
    (((callP Try.prog keepT n) Y 53 [(.ptr x0)] h2 (nx + 12)).bind fun r33 =>
    (asTup 0 r33.1).bind fun d34 =>
    (stA r33.2.1 (nx + 1) 0 (.agg [(.int .i64 0), (.int .i64 0), (.int .i64 0)]) 3).bind fun b35 =>
    let h36 := AHeap.put r33.2.1 (nx + 1) (some b35)
    (ldR h36 (nx + 1) 0 3).bind fun l37 =>
    (asAgg 3 (AV.agg l37)).bind fun d38 =>
    (asI .i64 (d38.getD 0 .bad)).bind fun n39 =>
    (asI .i64 (d38.getD 1 .bad)).bind fun n40 =>
    (asI .i64 (d38.getD 2 .bad)).bind fun n41 =>
    some ((.agg [(.int .i64 n39), (.int .i64 n40), (.int .i64 n41)]), h36, (r33.2.2 + 2)))
    else
    ((stA h2 (nx + 1) 0 (.agg [(.int .i64 3), (.int .i64 0), (.int .i64 0)]) 3).bind fun b42 =>
    let h43 := AHeap.put h2 (nx + 1) (some b42)
    (ldR h43 (nx + 1) 0 3).bind fun l44 =>
    (asAgg 3 (AV.agg l44)).bind fun d45 =>
    (asI .i64 (d45.getD 0 .bad)).bind fun n46 =>
    (asI .i64 (d45.getD 1 .bad)).bind fun n47 =>
    (asI .i64 (d45.getD 2 .bad)).bind fun n48 =>
    some ((.agg [(.int .i64 n46), (.int .i64 n47), (.int .i64 n48)]), h43, (nx + 12))))) := F36_eq' go1 n Y x0 x1_0 x1_1 x1_2 h nx

end Go.Proofs.Ytbekpkapkaifiaa.T
