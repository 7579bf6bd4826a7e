/- Printed by mp.py: functions of the program as plain Lean, each by the kernel. -/
import Derived.Test.YtahilinkfnchaaaDoorPf1
set_option linter.unusedVariables false
set_option linter.unusedSimpArgs false
namespace Go.Proofs.YtahilinkfnchaaaDoor.T
open Go Go.RowKit Go.Proofs
set_option maxRecDepth 100000

noncomputable def c14 : Code := (Tryd.f14.body).getD .skip

noncomputable def r14 : List ResultVar := Tryd.f14.results.toList

theorem F14_eq' (J : StepF (AV × AHeap × Nat) → StepF (AV × AHeap × Nat)) (n : Nat) (Y : YldF) (x0_0 : Int) (x0_1 : ByteArray) (x0_2 : ByteArray) (x0_3 : Int) (x0_4 : Int) (x0_5 : Int) (x0_6 : Int) (x0_7a : Option (Nat × Nat)) (x0_7n : Nat) (x0_7c : Option Nat) (x1_0 : Int) (x1_1 : ByteArray) (x1_2 : ByteArray) (x1_3 : Int) (x1_4 : Int) (x1_5 : Int) (x1_6 : Int) (x1_7a : Option (Nat × Nat)) (x1_7n : Nat) (x1_7c : Option Nat) (h : AHeap) (nx : Nat) : rootJ J Tryd.prog keepT (callP Tryd.prog keepT n) Y n 14 [(.agg [(.int .i64 x0_0), (.str x0_1), (.str x0_2), (.int .i64 x0_3), (.int .i64 x0_4), (.int .i64 x0_5), (.int .i64 x0_6), (.slice x0_7a x0_7n x0_7c)]), (.agg [(.int .i64 x1_0), (.str x1_1), (.str x1_2), (.int .i64 x1_3), (.int .i64 x1_4), (.int .i64 x1_5), (.int .i64 x1_6), (.slice x1_7a x1_7n x1_7c)])] h nx =
    let h1 := AHeap.put h nx (some ⟨[(.int .i64 x0_0), (.str x0_1), (.str x0_2), (.int .i64 x0_3), (.int .i64 x0_4), (.int .i64 x0_5), (.int .i64 x0_6), (.slice x0_7a x0_7n x0_7c)], 8, true⟩)
    let h2 := AHeap.put h1 (nx + 1) (some ⟨[(.int .i64 x1_0), (.str x1_1), (.str x1_2), (.int .i64 x1_3), (.int .i64 x1_4), (.int .i64 x1_5), (.int .i64 x1_6), (.slice x1_7a x1_7n x1_7c)], 8, true⟩)
    (ldA h2 nx 0).bind fun v3 =>
    (asI .i64 v3).bind fun n4 =>
    (ldA h2 (nx + 1) 0).bind fun v5 =>
    (asI .i64 v5).bind fun n6 =>
    if ((n4 : Int) == n6) = true then
    ((ldA h2 nx 1).bind fun v7 =>
    (asStr v7).bind fun s8 =>
    (ldA h2 (nx + 1) 1).bind fun v9 =>
    (asStr v9).bind fun s10 =>
    if (s8.toList == s10.toList) = true then
    ((ldA h2 nx 2).bind fun v11 =>
    (asStr v11).bind fun s12 =>
    (ldA h2 (nx + 1) 2).bind fun v13 =>
    (asStr v13).bind fun s14 =>
    if (s12.toList == s14.toList) = true then
    ((ldA h2 nx 3).bind fun v15 =>
    (asI .i64 v15).bind fun n16 =>
    (ldA h2 (nx + 1) 3).bind fun v17 =>
    (asI .i64 v17).bind fun n18 =>
    if ((n16 : Int) == n18) = true then
    ((ldA h2 nx 4).bind fun v19 =>
    (asI .i64 v19).bind fun n20 =>
    (ldA h2 (nx + 1) 4).bind fun v21 =>
    (asI .i64 v21).bind fun n22 =>
    if ((n20 : Int) == n22) = true then
    ((ldA h2 nx 5).bind fun v23 =>
    (asI .i64 v23).bind fun n24 =>
    (ldA h2 (nx + 1) 5).bind fun v25 =>
    (asI .i64 v25).bind fun n26 =>
    if ((n24 : Int) == n26) = true then
    ((ldA h2 nx 6).bind fun v27 =>
    (asI .i64 v27).bind fun n28 =>
    (ldA h2 (nx + 1) 6).bind fun v29 =>
    (asI .i64 v29).bind fun n30 =>
    if ((n28 : Int) == n30) = true then
    ((ldA h2 nx 7).bind fun v31 =>
    (asSl v31).bind fun s32 =>
    (ldA h2 (nx + 1) 7).bind fun v33 =>
    (asSl v33).bind fun s34 =>
    ((callP Tryd.prog keepT n) Y 15 [(.slice s32.1 s32.2.1 s32.2.2), (.slice s34.1 s34.2.1 s34.2.2)] h2 (nx + 58)).bind fun r35 =>
    (asB r35.1).bind fun t36 =>
    some ((.bool t36), r35.2.1, r35.2.2))
    else
    (some ((.bool false), h2, (nx + 58))))
    else
    (some ((.bool false), h2, (nx + 58))))
    else
    (some ((.bool false), h2, (nx + 58))))
    else
    (some ((.bool false), h2, (nx + 58))))
    else
    (some ((.bool false), h2, (nx + 58))))
    else
    (some ((.bool false), h2, (nx + 58))))
    else
    (some ((.bool false), h2, (nx + 58))) := by kernel_rfl

/-- quickset/quicksetkeep.sameCommand -/
theorem F14_eq (n : Nat) (Y : YldF) (x0_0 : Int) (x0_1 : ByteArray) (x0_2 : ByteArray) (x0_3 : Int) (x0_4 : Int) (x0_5 : Int) (x0_6 : Int) (x0_7a : Option (Nat × Nat)) (x0_7n : Nat) (x0_7c : Option Nat) (x1_0 : Int) (x1_1 : ByteArray) (x1_2 : ByteArray) (x1_3 : Int) (x1_4 : Int) (x1_5 : Int) (x1_6 : Int) (x1_7a : Option (Nat × Nat)) (x1_7n : Nat) (x1_7c : Option Nat) (h : AHeap) (nx : Nat) : callP Tryd.prog keepT (n + 1) Y 14 [(.agg [(.int .i64 x0_0), (.str x0_1), (.str x0_2), (.int .i64 x0_3), (.int .i64 x0_4), (.int .i64 x0_5), (.int .i64 x0_6), (.slice x0_7a x0_7n x0_7c)]), (.agg [(.int .i64 x1_0), (.str x1_1), (.str x1_2), (.int .i64 x1_3), (.int .i64 x1_4), (.int .i64 x1_5), (.int .i64 x1_6), (.slice x1_7a x1_7n x1_7c)])] h nx =
    let h1 := AHeap.put h nx (some ⟨[(.int .i64 x0_0), (.str x0_1), (.str x0_2), (.int .i64 x0_3), (.int .i64 x0_4), (.int .i64 x0_5), (.int .i64 x0_6), (.slice x0_7a x0_7n x0_7c)], 8, true⟩)
    let h2 := AHeap.put h1 (nx + 1) (some ⟨[(.int .i64 x1_0), (.str x1_1), (.str x1_2), (.int .i64 x1_3), (.int .i64 x1_4), (.int .i64 x1_5), (.int .i64 x1_6), (.slice x1_7a x1_7n x1_7c)], 8, true⟩)
    (ldA h2 nx 0).bind fun v3 =>
    (asI .i64 v3).bind fun n4 =>
    (ldA h2 (nx + 1) 0).bind fun v5 =>
    (asI .i64 v5).bind fun n6 =>
    if ((n4 : Int) == n6) = true then
    ((ldA h2 nx 1).bind fun v7 =>
    (asStr v7).bind fun s8 =>
    (ldA h2 (nx + 1) 1).bind fun v9 =>
    (asStr v9).bind fun s10 =>
    if (s8.toList == s10.toList) = true then
    ((ldA h2 nx 2).bind fun v11 =>
    (asStr v11).bind fun s12 =>
    (ldA h2 (nx + 1) 2).bind fun v13 =>
    (asStr v13).bind fun s14 =>
    if (s12.toList == s14.toList) = true then
    ((ldA h2 nx 3).bind fun v15 =>
    (asI .i64 v15).bind fun n16 =>
    (ldA h2 (nx + 1) 3).bind fun v17 =>
    (asI .i64 v17).bind fun n18 =>
    if ((n16 : Int) == n18) = true then
    ((ldA h2 nx 4).bind fun v19 =>
    (asI .i64 v19).bind fun n20 =>
    (ldA h2 (nx + 1) 4).bind fun v21 =>
    (asI .i64 v21).bind fun n22 =>
    if ((n20 : Int) == n22) = true then
    ((ldA h2 nx 5).bind fun v23 =>
    (asI .i64 v23).bind fun n24 =>
    (ldA h2 (nx + 1) 5).bind fun v25 =>
    (asI .i64 v25).bind fun n26 =>
    if ((n24 : Int) == n26) = true then
    ((ldA h2 nx 6).bind fun v27 =>
    (asI .i64 v27).bind fun n28 =>
    (ldA h2 (nx + 1) 6).bind fun v29 =>
    (asI .i64 v29).bind fun n30 =>
    if ((n28 : Int) == n30) = true then
    ((ldA h2 nx 7).bind fun v31 =>
    (asSl v31).bind fun s32 =>
    (ldA h2 (nx + 1) 7).bind fun v33 =>
    (asSl v33).bind fun s34 =>
    ((callP Tryd.prog keepT n) Y 15 [(.slice s32.1 s32.2.1 s32.2.2), (.slice s34.1 s34.2.1 s34.2.2)] h2 (nx + 58)).bind fun r35 =>
    (asB r35.1).bind fun t36 =>
    some ((.bool t36), r35.2.1, r35.2.2))
    else
    (some ((.bool false), h2, (nx + 58))))
    else
    (some ((.bool false), h2, (nx + 58))))
    else
    (some ((.bool false), h2, (nx + 58))))
    else
    (some ((.bool false), h2, (nx + 58))))
    else
    (some ((.bool false), h2, (nx + 58))))
    else
    (some ((.bool false), h2, (nx + 58))))
    else
    (some ((.bool false), h2, (nx + 58))) := F14_eq' go1 n Y x0_0 x0_1 x0_2 x0_3 x0_4 x0_5 x0_6 x0_7a x0_7n x0_7c x1_0 x1_1 x1_2 x1_3 x1_4 x1_5 x1_6 x1_7a x1_7n x1_7c h nx

noncomputable def c15 : Code := (Tryd.f15.body).getD .skip

noncomputable def r15 : List ResultVar := Tryd.f15.results.toList

noncomputable def F15_L1' (W J : StepF (AV × AHeap × Nat) → StepF (AV × AHeap × Nat)) (call : YldF → CallF) (Y : YldF) (lf : Nat) (n0 : Nat) (x0a : Option (Nat × Nat)) (x0n : Nat) (x0c : Option Nat) (x1a : Option (Nat × Nat)) (x1n : Nat) (x1c : Option Nat) (x5 : Int) (h : AHeap) (nx : Nat) : Option (AV × AHeap × Nat) :=
  goK W J drawK (machOf Tryd.prog) call Y (keepT 15) lf c15 [1, 1, 0, 1, 0, 9] [n0] (retK (machOf Tryd.prog) ⟨c15, 26, r15, keepT 15⟩) ⟨26, mkL [(0, (.slice x0a x0n x0c)), (1, (.slice x1a x1n x1c)), (5, (.int .i64 x5))], (machOf Tryd.prog).gk⟩ h nx

noncomputable def F15_L1 (call : YldF → CallF) (Y : YldF) (lf : Nat) (n0 : Nat) (x0a : Option (Nat × Nat)) (x0n : Nat) (x0c : Option Nat) (x1a : Option (Nat × Nat)) (x1n : Nat) (x1c : Option Nat) (x5 : Int) (h : AHeap) (nx : Nat) : Option (AV × AHeap × Nat) := F15_L1' go1 go1 call Y lf n0 x0a x0n x0c x1a x1n x1c x5 h nx

theorem F15_L1_eq' (J : StepF (AV × AHeap × Nat) → StepF (AV × AHeap × Nat)) (call : YldF → CallF) (Y : YldF) (lf : Nat) (n0 : Nat) (x0a : Option (Nat × Nat)) (x0n : Nat) (x0c : Option Nat) (x1a : Option (Nat × Nat)) (x1n : Nat) (x1c : Option Nat) (x5 : Int) (h : AHeap) (nx : Nat) : F15_L1' go1 J call Y lf (n0 + 1) x0a x0n x0c x1a x1n x1c x5 h nx =
    if (decide ((x5 : Int) < ((x0n : Nat) : Int))) = true then
    ((x0a).bind fun p1 =>
    if 0 ≤ (x5 : Int) ∧ x5 < ((x0n : Nat) : Int) then
    ((ldA h p1.1 (p1.2 + Int.toNat x5 * 1)).bind fun v2 =>
    (asI .u8 v2).bind fun n3 =>
    (x1a).bind fun p4 =>
    if 0 ≤ (x5 : Int) ∧ x5 < ((x1n : Nat) : Int) then
    ((ldA h p4.1 (p4.2 + Int.toNat x5 * 1)).bind fun v5 =>
    (asI .u8 v5).bind fun n6 =>
    if ((n3 : Int) != n6) = true then
    (some ((.bool false), h, (nx + 14)))
    else
    (F15_L1' J J call Y lf n0 x0a x0n x0c x1a x1n x1c (wrapA .i64 (x5 + 1)) h (nx + 16)))
    else none)
    else none)
    else
    (some ((.bool true), h, (nx + 5))) := by kernel_rfl

theorem F15_L1_eq (call : YldF → CallF) (Y : YldF) (lf : Nat) (n0 : Nat) (x0a : Option (Nat × Nat)) (x0n : Nat) (x0c : Option Nat) (x1a : Option (Nat × Nat)) (x1n : Nat) (x1c : Option Nat) (x5 : Int) (h : AHeap) (nx : Nat) : F15_L1 call Y lf (n0 + 1) x0a x0n x0c x1a x1n x1c x5 h nx =
    if (decide ((x5 : Int) < ((x0n : Nat) : Int))) = true then
    ((x0a).bind fun p1 =>
    if 0 ≤ (x5 : Int) ∧ x5 < ((x0n : Nat) : Int) then
    ((ldA h p1.1 (p1.2 + Int.toNat x5 * 1)).bind fun v2 =>
    (asI .u8 v2).bind fun n3 =>
    (x1a).bind fun p4 =>
    if 0 ≤ (x5 : Int) ∧ x5 < ((x1n : Nat) : Int) then
    ((ldA h p4.1 (p4.2 + Int.toNat x5 * 1)).bind fun v5 =>
    (asI .u8 v5).bind fun n6 =>
    if ((n3 : Int) != n6) = true then
    (some ((.bool false), h, (nx + 14)))
    else
    (F15_L1 call Y lf n0 x0a x0n x0c x1a x1n x1c (wrapA .i64 (x5 + 1)) h (nx + 16)))
    else none)
    else none)
    else
    (some ((.bool true), h, (nx + 5))) := F15_L1_eq' go1 call Y lf n0 x0a x0n x0c x1a x1n x1c x5 h nx

theorem F15_L1_zero (call : YldF → CallF) (Y : YldF) (lf : Nat) (x0a : Option (Nat × Nat)) (x0n : Nat) (x0c : Option Nat) (x1a : Option (Nat × Nat)) (x1n : Nat) (x1c : Option Nat) (x5 : Int) (h : AHeap) (nx : Nat) : F15_L1 call Y lf 0 x0a x0n x0c x1a x1n x1c x5 h nx = none := by kernel_rfl

theorem F15_eq' (J : StepF (AV × AHeap × Nat) → StepF (AV × AHeap × Nat)) (n : Nat) (Y : YldF) (x0a : Option (Nat × Nat)) (x0n : Nat) (x0c : Option Nat) (x1a : Option (Nat × Nat)) (x1n : Nat) (x1c : Option Nat) (h : AHeap) (nx : Nat) : rootJ J Tryd.prog keepT (callP Tryd.prog keepT n) Y n 15 [(.slice x0a x0n x0c), (.slice x1a x1n x1c)] h nx =
    if ((((x0n : Nat) : Int) : Int) != ((x1n : Nat) : Int)) = true then
    (some ((.bool false), h, (nx + 7)))
    else
    (F15_L1' J J (callP Tryd.prog keepT n) Y n n x0a x0n x0c x1a x1n x1c 0 h (nx + 7)) := by kernel_rfl

/-- quickset/quicksetkeep.sameBytes -/
theorem F15_eq (n : Nat) (Y : YldF) (x0a : Option (Nat × Nat)) (x0n : Nat) (x0c : Option Nat) (x1a : Option (Nat × Nat)) (x1n : Nat) (x1c : Option Nat) (h : AHeap) (nx : Nat) : callP Tryd.prog keepT (n + 1) Y 15 [(.slice x0a x0n x0c), (.slice x1a x1n x1c)] h nx =
    if ((((x0n : Nat) : Int) : Int) != ((x1n : Nat) : Int)) = true then
    (some ((.bool false), h, (nx + 7)))
    else
    (F15_L1 (callP Tryd.prog keepT n) Y n n x0a x0n x0c x1a x1n x1c 0 h (nx + 7)) := F15_eq' go1 n Y x0a x0n x0c x1a x1n x1c h nx

noncomputable def c16 : Code := (Tryd.f16.body).getD .skip

noncomputable def r16 : List ResultVar := Tryd.f16.results.toList

theorem F16_eq' (J : StepF (AV × AHeap × Nat) → StepF (AV × AHeap × Nat)) (n : Nat) (Y : YldF) (x0 : ByteArray) (h : AHeap) (nx : Nat) : rootJ J Tryd.prog keepT (callP Tryd.prog keepT n) Y n 16 [(.str x0)] h nx =
    ((callP Tryd.prog keepT n) Y 17 [(.str x0)] h (nx + 9)).bind fun r1 =>
    (asB r1.1).bind fun t2 =>
    if (!t2) = true then
    (some ((.bool true), r1.2.1, r1.2.2))
    else
    (some ((.bool (x0.toList == (ByteArray.mk #[100, 111, 110, 101]).toList)), r1.2.1, r1.2.2)) := by kernel_rfl

/-- quickset/desk.Tell$1 -/
theorem F16_eq (n : Nat) (Y : YldF) (x0 : ByteArray) (h : AHeap) (nx : Nat) : callP Tryd.prog keepT (n + 1) Y 16 [(.str x0)] h nx =
    ((callP Tryd.prog keepT n) Y 17 [(.str x0)] h (nx + 9)).bind fun r1 =>
    (asB r1.1).bind fun t2 =>
    if (!t2) = true then
    (some ((.bool true), r1.2.1, r1.2.2))
    else
    (some ((.bool (x0.toList == (ByteArray.mk #[100, 111, 110, 101]).toList)), r1.2.1, r1.2.2)) := F16_eq' go1 n Y x0 h nx

noncomputable def c18 : Code := (Tryd.f18.body).getD .skip

noncomputable def r18 : List ResultVar := Tryd.f18.results.toList

theorem F18_eq' (J : StepF (AV × AHeap × Nat) → StepF (AV × AHeap × Nat)) (n : Nat) (Y : YldF) (x0a : Option (Nat × Nat)) (x0n : Nat) (x0c : Option Nat) (x1 : AV) (h : AHeap) (nx : Nat) : rootJ J Tryd.prog keepT (callP Tryd.prog keepT n) Y n 18 [(.slice x0a x0n x0c), x1] h nx =
    ((callP Tryd.prog keepT n) Y 31 [(.slice x0a x0n x0c), x1] h (nx + 6)).bind fun r1 =>
    (asI .i64 r1.1).bind fun n2 =>
    some ((.bool (decide ((n2 : Int) ≥ 0))), r1.2.1, r1.2.2) := by kernel_rfl

/-- slices.ContainsFunc[[]string,string] -/
theorem F18_eq (n : Nat) (Y : YldF) (x0a : Option (Nat × Nat)) (x0n : Nat) (x0c : Option Nat) (x1 : AV) (h : AHeap) (nx : Nat) : callP Tryd.prog keepT (n + 1) Y 18 [(.slice x0a x0n x0c), x1] h nx =
    ((callP Tryd.prog keepT n) Y 31 [(.slice x0a x0n x0c), x1] h (nx + 6)).bind fun r1 =>
    (asI .i64 r1.1).bind fun n2 =>
    some ((.bool (decide ((n2 : Int) ≥ 0))), r1.2.1, r1.2.2) := F18_eq' go1 n Y x0a x0n x0c x1 h nx

/-- strconv.Itoa, by its contract -/
theorem F19_eq (n : Nat) (Y : YldF) (args : List AV) (h : AHeap) (nx : Nat) : callP Tryd.prog keepT (n + 1) Y 19 args h nx = orcK [5] args h nx := by kernel_rfl

/-- quickset/desk.hex, by its contract -/
theorem F20_eq (n : Nat) (Y : YldF) (args : List AV) (h : AHeap) (nx : Nat) : callP Tryd.prog keepT (n + 1) Y 20 args h nx = orcK [10] args h nx := by kernel_rfl

/-- strings.Join, by its contract -/
theorem F21_eq (n : Nat) (Y : YldF) (args : List AV) (h : AHeap) (nx : Nat) : callP Tryd.prog keepT (n + 1) Y 21 args h nx = orcK [6] args h nx := by kernel_rfl

/-- strings.Split, by its contract -/
theorem F22_eq (n : Nat) (Y : YldF) (args : List AV) (h : AHeap) (nx : Nat) : callP Tryd.prog keepT (n + 1) Y 22 args h nx = orcK [7] args h nx := by kernel_rfl

noncomputable def c23 : Code := (Tryd.f23.body).getD .skip

noncomputable def r23 : List ResultVar := Tryd.f23.results.toList

theorem F23_eq' (J : StepF (AV × AHeap × Nat) → StepF (AV × AHeap × Nat)) (n : Nat) (Y : YldF) (x0 : ByteArray) (h : AHeap) (nx : Nat) : rootJ J Tryd.prog keepT (callP Tryd.prog keepT n) Y n 23 [(.str x0)] h nx =
    ((callP Tryd.prog keepT n) Y 38 [(.str x0)] h (nx + 9)).bind fun r1 =>
    (asTup 2 r1.1).bind fun d2 =>
    (asI .i64 (d2.getD 0 .bad)).bind fun n3 =>
    (asNil (d2.getD 1 .bad)).bind fun b4 =>
    if b4 = true then
    (((callP Tryd.prog keepT n) Y 19 [(.int .i64 n3)] r1.2.1 (r1.2.2 + 11)).bind fun r5 =>
    (asStr r5.1).bind fun s6 =>
    some ((.tuple [(.int .i64 n3), (.bool (s6.toList == x0.toList))]), r5.2.1, r5.2.2))
    else
    (some ((.tuple [(.int .i64 n3), (.bool false)]), r1.2.1, (r1.2.2 + 11))) := by kernel_rfl

/-- quickset/desk.number -/
theorem F23_eq (n : Nat) (Y : YldF) (x0 : ByteArray) (h : AHeap) (nx : Nat) : callP Tryd.prog keepT (n + 1) Y 23 [(.str x0)] h nx =
    ((callP Tryd.prog keepT n) Y 38 [(.str x0)] h (nx + 9)).bind fun r1 =>
    (asTup 2 r1.1).bind fun d2 =>
    (asI .i64 (d2.getD 0 .bad)).bind fun n3 =>
    (asNil (d2.getD 1 .bad)).bind fun b4 =>
    if b4 = true then
    (((callP Tryd.prog keepT n) Y 19 [(.int .i64 n3)] r1.2.1 (r1.2.2 + 11)).bind fun r5 =>
    (asStr r5.1).bind fun s6 =>
    some ((.tuple [(.int .i64 n3), (.bool (s6.toList == x0.toList))]), r5.2.1, r5.2.2))
    else
    (some ((.tuple [(.int .i64 n3), (.bool false)]), r1.2.1, (r1.2.2 + 11))) := F23_eq' go1 n Y x0 h nx

noncomputable def c24 : Code := (Tryd.f24.body).getD .skip

noncomputable def r24 : List ResultVar := Tryd.f24.results.toList

noncomputable def F24_J1' (W J : StepF (AV × AHeap × Nat) → StepF (AV × AHeap × Nat)) (call : YldF → CallF) (Y : YldF) (lf : Nat) (x0 : ByteArray) (h : AHeap) (nx : Nat) : Option (AV × AHeap × Nat) :=
  goK W J drawK (machOf Tryd.prog) call Y (keepT 24) lf c24 [1, 1, 1] [] (retK (machOf Tryd.prog) ⟨c24, 48, r24, keepT 24⟩) ⟨48, mkL [(0, (.str x0))], (machOf Tryd.prog).gk⟩ h nx

noncomputable def F24_J1 (call : YldF → CallF) (Y : YldF) (lf : Nat) (x0 : ByteArray) (h : AHeap) (nx : Nat) : Option (AV × AHeap × Nat) := F24_J1' go1 go1 call Y lf x0 h nx

noncomputable def F24_L2' (W J : StepF (AV × AHeap × Nat) → StepF (AV × AHeap × Nat)) (call : YldF → CallF) (Y : YldF) (lf : Nat) (n0 : Nat) (x0 : ByteArray) (x4a : Option (Nat × Nat)) (x4n : Nat) (x4c : Option Nat) (x5 : Int) (h : AHeap) (nx : Nat) : Option (AV × AHeap × Nat) :=
  goK W J drawK (machOf Tryd.prog) call Y (keepT 24) lf c24 [1, 1, 1, 1, 0, 1, 0, 9] [n0] (retK (machOf Tryd.prog) ⟨c24, 48, r24, keepT 24⟩) ⟨48, mkL [(0, (.str x0)), (4, (.slice x4a x4n x4c)), (5, (.int .i64 x5))], (machOf Tryd.prog).gk⟩ h nx

noncomputable def F24_L2 (call : YldF → CallF) (Y : YldF) (lf : Nat) (n0 : Nat) (x0 : ByteArray) (x4a : Option (Nat × Nat)) (x4n : Nat) (x4c : Option Nat) (x5 : Int) (h : AHeap) (nx : Nat) : Option (AV × AHeap × Nat) := F24_L2' go1 go1 call Y lf n0 x0 x4a x4n x4c x5 h nx

noncomputable def F24_J3' (W J : StepF (AV × AHeap × Nat) → StepF (AV × AHeap × Nat)) (call : YldF → CallF) (Y : YldF) (lf : Nat) (n0 : Nat) (x0 : ByteArray) (x4a : Option (Nat × Nat)) (x4n : Nat) (x4c : Option Nat) (x5 : Int) (x6 : Int) (x7 : Int) (h : AHeap) (nx : Nat) : Option (AV × AHeap × Nat) :=
  goK W J drawK (machOf Tryd.prog) call Y (keepT 24) lf c24 [1, 1, 1, 1, 0, 1, 0, 0, 1, 0, 0, 1, 1] [n0] (retK (machOf Tryd.prog) ⟨c24, 48, r24, keepT 24⟩) ⟨48, mkL [(0, (.str x0)), (4, (.slice x4a x4n x4c)), (5, (.int .i64 x5)), (6, (.int .i64 x6)), (7, (.int .i64 x7))], (machOf Tryd.prog).gk⟩ h nx

noncomputable def F24_J3 (call : YldF → CallF) (Y : YldF) (lf : Nat) (n0 : Nat) (x0 : ByteArray) (x4a : Option (Nat × Nat)) (x4n : Nat) (x4c : Option Nat) (x5 : Int) (x6 : Int) (x7 : Int) (h : AHeap) (nx : Nat) : Option (AV × AHeap × Nat) := F24_J3' go1 go1 call Y lf n0 x0 x4a x4n x4c x5 x6 x7 h nx

theorem F24_J1_eq' (J : StepF (AV × AHeap × Nat) → StepF (AV × AHeap × Nat)) (call : YldF → CallF) (Y : YldF) (lf : Nat) (x0 : ByteArray) (h : AHeap) (nx : Nat) : F24_J1' go1 J call Y lf x0 h nx =
    F24_L2' J J call Y lf lf x0 none 0 none 0 h (nx + 2) := by kernel_rfl

theorem F24_J1_eq (call : YldF → CallF) (Y : YldF) (lf : Nat) (x0 : ByteArray) (h : AHeap) (nx : Nat) : F24_J1 call Y lf x0 h nx =
    F24_L2 call Y lf lf x0 none 0 none 0 h (nx + 2) := F24_J1_eq' go1 call Y lf x0 h nx

theorem F24_L2_eq' (J : StepF (AV × AHeap × Nat) → StepF (AV × AHeap × Nat)) (call : YldF → CallF) (Y : YldF) (lf : Nat) (n0 : Nat) (x0 : ByteArray) (x4a : Option (Nat × Nat)) (x4n : Nat) (x4c : Option Nat) (x5 : Int) (h : AHeap) (nx : Nat) : F24_L2' go1 J call Y lf (n0 + 1) x0 x4a x4n x4c x5 h nx =
    if (decide ((x5 : Int) < ((ByteArray.size x0 : Nat) : Int))) = true then
    (if 0 ≤ (x5 : Int) then
    ((x0.data.toList[Int.toNat x5]?).bind fun b1 =>
    (call Y 39 [(.str (ByteArray.mk #[48, 49, 50, 51, 52, 53, 54, 55, 56, 57, 97, 98, 99, 100, 101, 102])), (.int .u8 ((UInt8.toNat b1 : Nat) : Int))] h (nx + 15)).bind fun r2 =>
    (asI .i64 r2.1).bind fun n3 =>
    if 0 ≤ ((wrapA .i64 (x5 + 1)) : Int) then
    ((x0.data.toList[Int.toNat (wrapA .i64 (x5 + 1))]?).bind fun b4 =>
    (call Y 39 [(.str (ByteArray.mk #[48, 49, 50, 51, 52, 53, 54, 55, 56, 57, 97, 98, 99, 100, 101, 102])), (.int .u8 ((UInt8.toNat b4 : Nat) : Int))] r2.2.1 r2.2.2).bind fun r5 =>
    (asI .i64 r5.1).bind fun n6 =>
    if (decide ((n3 : Int) < 0)) = true then
    (some ((.tuple [(.slice none 0 none), (.bool false)]), r5.2.1, (r5.2.2 + 8)))
    else
    (if (decide ((n6 : Int) < 0)) = true then
    (some ((.tuple [(.slice none 0 none), (.bool false)]), r5.2.1, (r5.2.2 + 8)))
    else
    (F24_J3' J J call Y lf n0 x0 x4a x4n x4c x5 n3 n6 r5.2.1 (r5.2.2 + 6))))
    else none)
    else none)
    else
    (some ((.tuple [(.slice x4a x4n x4c), (.bool true)]), h, (nx + 7))) := by kernel_rfl

theorem F24_L2_eq (call : YldF → CallF) (Y : YldF) (lf : Nat) (n0 : Nat) (x0 : ByteArray) (x4a : Option (Nat × Nat)) (x4n : Nat) (x4c : Option Nat) (x5 : Int) (h : AHeap) (nx : Nat) : F24_L2 call Y lf (n0 + 1) x0 x4a x4n x4c x5 h nx =
    if (decide ((x5 : Int) < ((ByteArray.size x0 : Nat) : Int))) = true then
    (if 0 ≤ (x5 : Int) then
    ((x0.data.toList[Int.toNat x5]?).bind fun b1 =>
    (call Y 39 [(.str (ByteArray.mk #[48, 49, 50, 51, 52, 53, 54, 55, 56, 57, 97, 98, 99, 100, 101, 102])), (.int .u8 ((UInt8.toNat b1 : Nat) : Int))] h (nx + 15)).bind fun r2 =>
    (asI .i64 r2.1).bind fun n3 =>
    if 0 ≤ ((wrapA .i64 (x5 + 1)) : Int) then
    ((x0.data.toList[Int.toNat (wrapA .i64 (x5 + 1))]?).bind fun b4 =>
    (call Y 39 [(.str (ByteArray.mk #[48, 49, 50, 51, 52, 53, 54, 55, 56, 57, 97, 98, 99, 100, 101, 102])), (.int .u8 ((UInt8.toNat b4 : Nat) : Int))] r2.2.1 r2.2.2).bind fun r5 =>
    (asI .i64 r5.1).bind fun n6 =>
    if (decide ((n3 : Int) < 0)) = true then
    (some ((.tuple [(.slice none 0 none), (.bool false)]), r5.2.1, (r5.2.2 + 8)))
    else
    (if (decide ((n6 : Int) < 0)) = true then
    (some ((.tuple [(.slice none 0 none), (.bool false)]), r5.2.1, (r5.2.2 + 8)))
    else
    (F24_J3 call Y lf n0 x0 x4a x4n x4c x5 n3 n6 r5.2.1 (r5.2.2 + 6))))
    else none)
    else none)
    else
    (some ((.tuple [(.slice x4a x4n x4c), (.bool true)]), h, (nx + 7))) := F24_L2_eq' go1 call Y lf n0 x0 x4a x4n x4c x5 h nx

theorem F24_L2_zero (call : YldF → CallF) (Y : YldF) (lf : Nat) (x0 : ByteArray) (x4a : Option (Nat × Nat)) (x4n : Nat) (x4c : Option Nat) (x5 : Int) (h : AHeap) (nx : Nat) : F24_L2 call Y lf 0 x0 x4a x4n x4c x5 h nx = none := by kernel_rfl

theorem F24_J3_eq' (J : StepF (AV × AHeap × Nat) → StepF (AV × AHeap × Nat)) (call : YldF → CallF) (Y : YldF) (lf : Nat) (n0 : Nat) (x0 : ByteArray) (x4a : Option (Nat × Nat)) (x4n : Nat) (x4c : Option Nat) (x5 : Int) (x6 : Int) (x7 : Int) (h : AHeap) (nx : Nat) : F24_J3' go1 J call Y lf n0 x0 x4a x4n x4c x5 x6 x7 h nx =
    let h1 := AHeap.put h (nx + 6) (some ⟨[(.int .u8 (wrapA .u8 (bits .or .i64 (wrapA .i64 (x6 * (2:Int) ^ min (Int.toNat 4) (IntKind.bits .i64))) x7)))], 1, true⟩)
    (srcS h1 (some ((nx + 6), 0)) 1 1).bind fun q2 =>
    (appD h1 x4a x4n x4c 1 1 (nx + 7) q2).bind fun e3 =>
    let h4 := AHeap.puts h1 e3.sets
    F24_L2' J J call Y lf n0 x0 e3.a e3.n e3.c (wrapA .i64 (x5 + 2)) h4 (nx + 12) := by kernel_rfl

theorem F24_J3_eq (call : YldF → CallF) (Y : YldF) (lf : Nat) (n0 : Nat) (x0 : ByteArray) (x4a : Option (Nat × Nat)) (x4n : Nat) (x4c : Option Nat) (x5 : Int) (x6 : Int) (x7 : Int) (h : AHeap) (nx : Nat) : F24_J3 call Y lf n0 x0 x4a x4n x4c x5 x6 x7 h nx =
    let h1 := AHeap.put h (nx + 6) (some ⟨[(.int .u8 (wrapA .u8 (bits .or .i64 (wrapA .i64 (x6 * (2:Int) ^ min (Int.toNat 4) (IntKind.bits .i64))) x7)))], 1, true⟩)
    (srcS h1 (some ((nx + 6), 0)) 1 1).bind fun q2 =>
    (appD h1 x4a x4n x4c 1 1 (nx + 7) q2).bind fun e3 =>
    let h4 := AHeap.puts h1 e3.sets
    F24_L2 call Y lf n0 x0 e3.a e3.n e3.c (wrapA .i64 (x5 + 2)) h4 (nx + 12) := F24_J3_eq' go1 call Y lf n0 x0 x4a x4n x4c x5 x6 x7 h nx

theorem F24_eq' (J : StepF (AV × AHeap × Nat) → StepF (AV × AHeap × Nat)) (n : Nat) (Y : YldF) (x0 : ByteArray) (h : AHeap) (nx : Nat) : rootJ J Tryd.prog keepT (callP Tryd.prog keepT n) Y n 24 [(.str x0)] h nx =
    if (x0.toList == (ByteArray.mk #[45]).toList) = true then
    (some ((.tuple [(.slice none 0 none), (.bool true)]), h, (nx + 6)))
    else
    (if (x0.toList == (ByteArray.mk #[]).toList) = true then
    (some ((.tuple [(.slice none 0 none), (.bool false)]), h, (nx + 14)))
    else
    (if (((Int.tmod ((ByteArray.size x0 : Nat) : Int) 2) : Int) != 0) = true then
    (some ((.tuple [(.slice none 0 none), (.bool false)]), h, (nx + 14)))
    else
    (F24_J1' J J (callP Tryd.prog keepT n) Y n x0 h (nx + 12)))) := by kernel_rfl

/-- quickset/desk.unhex -/
theorem F24_eq (n : Nat) (Y : YldF) (x0 : ByteArray) (h : AHeap) (nx : Nat) : callP Tryd.prog keepT (n + 1) Y 24 [(.str x0)] h nx =
    if (x0.toList == (ByteArray.mk #[45]).toList) = true then
    (some ((.tuple [(.slice none 0 none), (.bool true)]), h, (nx + 6)))
    else
    (if (x0.toList == (ByteArray.mk #[]).toList) = true then
    (some ((.tuple [(.slice none 0 none), (.bool false)]), h, (nx + 14)))
    else
    (if (((Int.tmod ((ByteArray.size x0 : Nat) : Int) 2) : Int) != 0) = true then
    (some ((.tuple [(.slice none 0 none), (.bool false)]), h, (nx + 14)))
    else
    (F24_J1 (callP Tryd.prog keepT n) Y n x0 h (nx + 12)))) := F24_eq' go1 n Y x0 h nx

noncomputable def c25 : Code := (Tryd.f25.body).getD .skip

noncomputable def r25 : List ResultVar := Tryd.f25.results.toList

theorem F25_eq' (J : StepF (AV × AHeap × Nat) → StepF (AV × AHeap × Nat)) (n : Nat) (Y : YldF) (x0a : Option (Nat × Nat)) (x0n : Nat) (x0c : Option Nat) (h : AHeap) (nx : Nat) : rootJ J Tryd.prog keepT (callP Tryd.prog keepT n) Y n 25 [(.slice x0a x0n x0c)] h nx =
    if (Option.isNone x0a) = true then
    (some ((.slice none 0 none), h, (nx + 4)))
    else
    (let h1 := AHeap.put h (nx + 3) (some ⟨[], 1, true⟩)
    (srcS h1 x0a x0n 1).bind fun q2 =>
    (appD h1 (some ((nx + 3), 0)) 0 (some 0) 1 16 (nx + 5) q2).bind fun e3 =>
    let h4 := AHeap.puts h1 e3.sets
    some ((.slice e3.a e3.n e3.c), h4, (nx + 7))) := by kernel_rfl

/-- slices.Clone[[]string,string] -/
theorem F25_eq (n : Nat) (Y : YldF) (x0a : Option (Nat × Nat)) (x0n : Nat) (x0c : Option Nat) (h : AHeap) (nx : Nat) : callP Tryd.prog keepT (n + 1) Y 25 [(.slice x0a x0n x0c)] h nx =
    if (Option.isNone x0a) = true then
    (some ((.slice none 0 none), h, (nx + 4)))
    else
    (let h1 := AHeap.put h (nx + 3) (some ⟨[], 1, true⟩)
    (srcS h1 x0a x0n 1).bind fun q2 =>
    (appD h1 (some ((nx + 3), 0)) 0 (some 0) 1 16 (nx + 5) q2).bind fun e3 =>
    let h4 := AHeap.puts h1 e3.sets
    some ((.slice e3.a e3.n e3.c), h4, (nx + 7))) := F25_eq' go1 n Y x0a x0n x0c h nx

noncomputable def c26 : Code := (Tryd.f26.body).getD .skip

noncomputable def r26 : List ResultVar := Tryd.f26.results.toList

noncomputable def F26_L1' (W J : StepF (AV × AHeap × Nat) → StepF (AV × AHeap × Nat)) (call : YldF → CallF) (Y : YldF) (lf : Nat) (n0 : Nat) (x0a : Option (Nat × Nat)) (x0n : Nat) (x0c : Option Nat) (x1a : Option (Nat × Nat)) (x1n : Nat) (x1c : Option Nat) (x5 : Int) (h : AHeap) (nx : Nat) : Option (AV × AHeap × Nat) :=
  goK W J drawK (machOf Tryd.prog) call Y (keepT 26) lf c26 [1, 1, 0, 1, 0, 9] [n0] (retK (machOf Tryd.prog) ⟨c26, 26, r26, keepT 26⟩) ⟨26, mkL [(0, (.slice x0a x0n x0c)), (1, (.slice x1a x1n x1c)), (5, (.int .i64 x5))], (machOf Tryd.prog).gk⟩ h nx

noncomputable def F26_L1 (call : YldF → CallF) (Y : YldF) (lf : Nat) (n0 : Nat) (x0a : Option (Nat × Nat)) (x0n : Nat) (x0c : Option Nat) (x1a : Option (Nat × Nat)) (x1n : Nat) (x1c : Option Nat) (x5 : Int) (h : AHeap) (nx : Nat) : Option (AV × AHeap × Nat) := F26_L1' go1 go1 call Y lf n0 x0a x0n x0c x1a x1n x1c x5 h nx

theorem F26_L1_eq' (J : StepF (AV × AHeap × Nat) → StepF (AV × AHeap × Nat)) (call : YldF → CallF) (Y : YldF) (lf : Nat) (n0 : Nat) (x0a : Option (Nat × Nat)) (x0n : Nat) (x0c : Option Nat) (x1a : Option (Nat × Nat)) (x1n : Nat) (x1c : Option Nat) (x5 : Int) (h : AHeap) (nx : Nat) : F26_L1' go1 J call Y lf (n0 + 1) x0a x0n x0c x1a x1n x1c x5 h nx =
    if (decide ((x5 : Int) < ((x0n : Nat) : Int))) = true then
    ((x0a).bind fun p1 =>
    if 0 ≤ (x5 : Int) ∧ x5 < ((x0n : Nat) : Int) then
    ((ldA h p1.1 (p1.2 + Int.toNat x5 * 1)).bind fun v2 =>
    (asStr v2).bind fun s3 =>
    (x1a).bind fun p4 =>
    if 0 ≤ (x5 : Int) ∧ x5 < ((x1n : Nat) : Int) then
    ((ldA h p4.1 (p4.2 + Int.toNat x5 * 1)).bind fun v5 =>
    (asStr v5).bind fun s6 =>
    if (!(s3.toList == s6.toList)) = true then
    (some ((.bool false), h, (nx + 14)))
    else
    (F26_L1' J J call Y lf n0 x0a x0n x0c x1a x1n x1c (wrapA .i64 (x5 + 1)) h (nx + 16)))
    else none)
    else none)
    else
    (some ((.bool true), h, (nx + 5))) := by kernel_rfl

theorem F26_L1_eq (call : YldF → CallF) (Y : YldF) (lf : Nat) (n0 : Nat) (x0a : Option (Nat × Nat)) (x0n : Nat) (x0c : Option Nat) (x1a : Option (Nat × Nat)) (x1n : Nat) (x1c : Option Nat) (x5 : Int) (h : AHeap) (nx : Nat) : F26_L1 call Y lf (n0 + 1) x0a x0n x0c x1a x1n x1c x5 h nx =
    if (decide ((x5 : Int) < ((x0n : Nat) : Int))) = true then
    ((x0a).bind fun p1 =>
    if 0 ≤ (x5 : Int) ∧ x5 < ((x0n : Nat) : Int) then
    ((ldA h p1.1 (p1.2 + Int.toNat x5 * 1)).bind fun v2 =>
    (asStr v2).bind fun s3 =>
    (x1a).bind fun p4 =>
    if 0 ≤ (x5 : Int) ∧ x5 < ((x1n : Nat) : Int) then
    ((ldA h p4.1 (p4.2 + Int.toNat x5 * 1)).bind fun v5 =>
    (asStr v5).bind fun s6 =>
    if (!(s3.toList == s6.toList)) = true then
    (some ((.bool false), h, (nx + 14)))
    else
    (F26_L1 call Y lf n0 x0a x0n x0c x1a x1n x1c (wrapA .i64 (x5 + 1)) h (nx + 16)))
    else none)
    else none)
    else
    (some ((.bool true), h, (nx + 5))) := F26_L1_eq' go1 call Y lf n0 x0a x0n x0c x1a x1n x1c x5 h nx

theorem F26_L1_zero (call : YldF → CallF) (Y : YldF) (lf : Nat) (x0a : Option (Nat × Nat)) (x0n : Nat) (x0c : Option Nat) (x1a : Option (Nat × Nat)) (x1n : Nat) (x1c : Option Nat) (x5 : Int) (h : AHeap) (nx : Nat) : F26_L1 call Y lf 0 x0a x0n x0c x1a x1n x1c x5 h nx = none := by kernel_rfl

theorem F26_eq' (J : StepF (AV × AHeap × Nat) → StepF (AV × AHeap × Nat)) (n : Nat) (Y : YldF) (x0a : Option (Nat × Nat)) (x0n : Nat) (x0c : Option Nat) (x1a : Option (Nat × Nat)) (x1n : Nat) (x1c : Option Nat) (h : AHeap) (nx : Nat) : rootJ J Tryd.prog keepT (callP Tryd.prog keepT n) Y n 26 [(.slice x0a x0n x0c), (.slice x1a x1n x1c)] h nx =
    if ((((x0n : Nat) : Int) : Int) != ((x1n : Nat) : Int)) = true then
    (some ((.bool false), h, (nx + 7)))
    else
    (F26_L1' J J (callP Tryd.prog keepT n) Y n n x0a x0n x0c x1a x1n x1c 0 h (nx + 7)) := by kernel_rfl

/-- quickset/quicksetkeep.sameTexts -/
theorem F26_eq (n : Nat) (Y : YldF) (x0a : Option (Nat × Nat)) (x0n : Nat) (x0c : Option Nat) (x1a : Option (Nat × Nat)) (x1n : Nat) (x1c : Option Nat) (h : AHeap) (nx : Nat) : callP Tryd.prog keepT (n + 1) Y 26 [(.slice x0a x0n x0c), (.slice x1a x1n x1c)] h nx =
    if ((((x0n : Nat) : Int) : Int) != ((x1n : Nat) : Int)) = true then
    (some ((.bool false), h, (nx + 7)))
    else
    (F26_L1 (callP Tryd.prog keepT n) Y n n x0a x0n x0c x1a x1n x1c 0 h (nx + 7)) := F26_eq' go1 n Y x0a x0n x0c x1a x1n x1c h nx

noncomputable def c27 : Code := (Tryd.f27.body).getD .skip

noncomputable def r27 : List ResultVar := Tryd.f27.results.toList

theorem F27_eq' (J : StepF (AV × AHeap × Nat) → StepF (AV × AHeap × Nat)) (n : Nat) (Y : YldF) (x0 : Int) (h : AHeap) (nx : Nat) : rootJ J Tryd.prog keepT (callP Tryd.prog keepT n) Y n 27 [(.int .i64 x0)] h nx =
    let h1 := AHeap.put h (nx + 1) (some ⟨[(.str (ByteArray.mk #[115])), (.str (ByteArray.mk #[116])), (.str (ByteArray.mk #[117, 48])), (.str (ByteArray.mk #[118]))], 1, true⟩)
    ((callP Tryd.prog keepT n) Y 6 [(.int .i64 x0), (.int .i64 4)] h1 (nx + 7)).bind fun r2 =>
    (asI .i64 r2.1).bind fun n3 =>
    if 0 ≤ (n3 : Int) ∧ n3 < ((4 : Nat) : Int) then
    ((ldA r2.2.1 (nx + 1) (0 + Int.toNat n3 * 1)).bind fun v4 =>
    (asStr v4).bind fun s5 =>
    some ((.str s5), r2.2.1, r2.2.2))
    else none := by kernel_rfl

/-- quickset/quicksetkeep.snapName -/
theorem F27_eq (n : Nat) (Y : YldF) (x0 : Int) (h : AHeap) (nx : Nat) : callP Tryd.prog keepT (n + 1) Y 27 [(.int .i64 x0)] h nx =
    let h1 := AHeap.put h (nx + 1) (some ⟨[(.str (ByteArray.mk #[115])), (.str (ByteArray.mk #[116])), (.str (ByteArray.mk #[117, 48])), (.str (ByteArray.mk #[118]))], 1, true⟩)
    ((callP Tryd.prog keepT n) Y 6 [(.int .i64 x0), (.int .i64 4)] h1 (nx + 7)).bind fun r2 =>
    (asI .i64 r2.1).bind fun n3 =>
    if 0 ≤ (n3 : Int) ∧ n3 < ((4 : Nat) : Int) then
    ((ldA r2.2.1 (nx + 1) (0 + Int.toNat n3 * 1)).bind fun v4 =>
    (asStr v4).bind fun s5 =>
    some ((.str s5), r2.2.1, r2.2.2))
    else none := F27_eq' go1 n Y x0 h nx

noncomputable def c17 : Code := (Tryd.f17.body).getD .skip

noncomputable def r17 : List ResultVar := Tryd.f17.results.toList

noncomputable def F17_L1' (W J : StepF (AV × AHeap × Nat) → StepF (AV × AHeap × Nat)) (call : YldF → CallF) (Y : YldF) (lf : Nat) (n0 : Nat) (x0 : ByteArray) (x6a : Option (Nat × Nat)) (x6n : Nat) (x6c : Option Nat) (x7 : Int) (x8 : Int) (h : AHeap) (nx : Nat) : Option (AV × AHeap × Nat) :=
  goK W J drawK (machOf Tryd.prog) call Y (keepT 17) lf c17 [1, 0, 1, 0, 9] [n0] (retK (machOf Tryd.prog) ⟨c17, 35, r17, keepT 17⟩) ⟨35, mkL [(0, (.str x0)), (6, (.slice x6a x6n x6c)), (7, (.int .i64 x7)), (8, (.int .i64 x8))], (machOf Tryd.prog).gk⟩ h nx

noncomputable def F17_L1 (call : YldF → CallF) (Y : YldF) (lf : Nat) (n0 : Nat) (x0 : ByteArray) (x6a : Option (Nat × Nat)) (x6n : Nat) (x6c : Option Nat) (x7 : Int) (x8 : Int) (h : AHeap) (nx : Nat) : Option (AV × AHeap × Nat) := F17_L1' go1 go1 call Y lf n0 x0 x6a x6n x6c x7 x8 h nx

theorem F17_L1_eq' (J : StepF (AV × AHeap × Nat) → StepF (AV × AHeap × Nat)) (call : YldF → CallF) (Y : YldF) (lf : Nat) (n0 : Nat) (x0 : ByteArray) (x6a : Option (Nat × Nat)) (x6n : Nat) (x6c : Option Nat) (x7 : Int) (x8 : Int) (h : AHeap) (nx : Nat) : F17_L1' go1 J call Y lf (n0 + 1) x0 x6a x6n x6c x7 x8 h nx =
    if (decide ((x8 : Int) < x7)) = true then
    ((x6a).bind fun p1 =>
    if 0 ≤ (x8 : Int) ∧ x8 < ((x6n : Nat) : Int) then
    ((ldA h p1.1 (p1.2 + Int.toNat x8 * 1)).bind fun v2 =>
    (asI .u8 v2).bind fun n3 =>
    if (decide ((n3 : Int) < 97)) = true then
    (if (decide ((n3 : Int) < 48)) = true then
    (some ((.bool false), h, (nx + 19)))
    else
    (if (decide ((n3 : Int) > 57)) = true then
    (some ((.bool false), h, (nx + 19)))
    else
    (F17_L1' J J call Y lf n0 x0 x6a x6n x6c x7 (wrapA .i64 (x8 + 1)) h (nx + 20))))
    else
    (if (decide ((n3 : Int) > 122)) = true then
    (if (decide ((n3 : Int) < 48)) = true then
    (some ((.bool false), h, (nx + 19)))
    else
    (if (decide ((n3 : Int) > 57)) = true then
    (some ((.bool false), h, (nx + 19)))
    else
    (F17_L1' J J call Y lf n0 x0 x6a x6n x6c x7 (wrapA .i64 (x8 + 1)) h (nx + 20))))
    else
    (F17_L1' J J call Y lf n0 x0 x6a x6n x6c x7 (wrapA .i64 (x8 + 1)) h (nx + 20))))
    else none)
    else
    (if (decide ((((ByteArray.size x0 : Nat) : Int) : Int) ≥ 1)) = true then
    (some ((.bool (decide ((((ByteArray.size x0 : Nat) : Int) : Int) ≤ 8))), h, (nx + 10)))
    else
    (some ((.bool false), h, (nx + 10)))) := by kernel_rfl

theorem F17_L1_eq (call : YldF → CallF) (Y : YldF) (lf : Nat) (n0 : Nat) (x0 : ByteArray) (x6a : Option (Nat × Nat)) (x6n : Nat) (x6c : Option Nat) (x7 : Int) (x8 : Int) (h : AHeap) (nx : Nat) : F17_L1 call Y lf (n0 + 1) x0 x6a x6n x6c x7 x8 h nx =
    if (decide ((x8 : Int) < x7)) = true then
    ((x6a).bind fun p1 =>
    if 0 ≤ (x8 : Int) ∧ x8 < ((x6n : Nat) : Int) then
    ((ldA h p1.1 (p1.2 + Int.toNat x8 * 1)).bind fun v2 =>
    (asI .u8 v2).bind fun n3 =>
    if (decide ((n3 : Int) < 97)) = true then
    (if (decide ((n3 : Int) < 48)) = true then
    (some ((.bool false), h, (nx + 19)))
    else
    (if (decide ((n3 : Int) > 57)) = true then
    (some ((.bool false), h, (nx + 19)))
    else
    (F17_L1 call Y lf n0 x0 x6a x6n x6c x7 (wrapA .i64 (x8 + 1)) h (nx + 20))))
    else
    (if (decide ((n3 : Int) > 122)) = true then
    (if (decide ((n3 : Int) < 48)) = true then
    (some ((.bool false), h, (nx + 19)))
    else
    (if (decide ((n3 : Int) > 57)) = true then
    (some ((.bool false), h, (nx + 19)))
    else
    (F17_L1 call Y lf n0 x0 x6a x6n x6c x7 (wrapA .i64 (x8 + 1)) h (nx + 20))))
    else
    (F17_L1 call Y lf n0 x0 x6a x6n x6c x7 (wrapA .i64 (x8 + 1)) h (nx + 20))))
    else none)
    else
    (if (decide ((((ByteArray.size x0 : Nat) : Int) : Int) ≥ 1)) = true then
    (some ((.bool (decide ((((ByteArray.size x0 : Nat) : Int) : Int) ≤ 8))), h, (nx + 10)))
    else
    (some ((.bool false), h, (nx + 10)))) := F17_L1_eq' go1 call Y lf n0 x0 x6a x6n x6c x7 x8 h nx

theorem F17_L1_zero (call : YldF → CallF) (Y : YldF) (lf : Nat) (x0 : ByteArray) (x6a : Option (Nat × Nat)) (x6n : Nat) (x6c : Option Nat) (x7 : Int) (x8 : Int) (h : AHeap) (nx : Nat) : F17_L1 call Y lf 0 x0 x6a x6n x6c x7 x8 h nx = none := by kernel_rfl

theorem F17_eq' (J : StepF (AV × AHeap × Nat) → StepF (AV × AHeap × Nat)) (n : Nat) (Y : YldF) (x0 : ByteArray) (h : AHeap) (nx : Nat) : rootJ J Tryd.prog keepT (callP Tryd.prog keepT n) Y n 17 [(.str x0)] h nx =
    let h1 := AHeap.put h (nx + 2) (some ⟨(bytesA x0), 1, true⟩)
    F17_L1' J J (callP Tryd.prog keepT n) Y n n x0 (some ((nx + 2), 0)) (ByteArray.size x0) none (((ByteArray.size x0) : Nat) : Int) 0 h1 (nx + 5) := by kernel_rfl

/-- quickset/pool.Name -/
theorem F17_eq (n : Nat) (Y : YldF) (x0 : ByteArray) (h : AHeap) (nx : Nat) : callP Tryd.prog keepT (n + 1) Y 17 [(.str x0)] h nx =
    let h1 := AHeap.put h (nx + 2) (some ⟨(bytesA x0), 1, true⟩)
    F17_L1 (callP Tryd.prog keepT n) Y n n x0 (some ((nx + 2), 0)) (ByteArray.size x0) none (((ByteArray.size x0) : Nat) : Int) 0 h1 (nx + 5) := F17_eq' go1 n Y x0 h nx

noncomputable def c28 : Code := (Tryd.f28.body).getD .skip

noncomputable def r28 : List ResultVar := Tryd.f28.results.toList

noncomputable def F28_J1' (W J : StepF (AV × AHeap × Nat) → StepF (AV × AHeap × Nat)) (call : YldF → CallF) (Y : YldF) (lf : Nat) (x4 : Option (Nat × Nat)) (x5 : Option (Nat × Nat)) (x6 : Option (Nat × Nat)) (h : AHeap) (nx : Nat) : Option (AV × AHeap × Nat) :=
  goK W J drawK (machOf Tryd.prog) call Y (keepT 28) lf c28 [1, 1] [] (retK (machOf Tryd.prog) ⟨c28, 46, r28, keepT 28⟩) ⟨46, mkL [(4, (.ptr x4)), (5, (.ptr x5)), (6, (.ptr x6))], (machOf Tryd.prog).gk⟩ h nx

noncomputable def F28_J1 (call : YldF → CallF) (Y : YldF) (lf : Nat) (x4 : Option (Nat × Nat)) (x5 : Option (Nat × Nat)) (x6 : Option (Nat × Nat)) (h : AHeap) (nx : Nat) : Option (AV × AHeap × Nat) := F28_J1' go1 go1 call Y lf x4 x5 x6 h nx

theorem F28_J1_eq' (J : StepF (AV × AHeap × Nat) → StepF (AV × AHeap × Nat)) (call : YldF → CallF) (Y : YldF) (lf : Nat) (x4 : Option (Nat × Nat)) (x5 : Option (Nat × Nat)) (x6 : Option (Nat × Nat)) (h : AHeap) (nx : Nat) : F28_J1' go1 J call Y lf x4 x5 x6 h nx =
    some ((.tuple [(.ptr x4), (.ptr x5), (.ptr x6)]), h, (nx + 6)) := by kernel_rfl

theorem F28_J1_eq (call : YldF → CallF) (Y : YldF) (lf : Nat) (x4 : Option (Nat × Nat)) (x5 : Option (Nat × Nat)) (x6 : Option (Nat × Nat)) (h : AHeap) (nx : Nat) : F28_J1 call Y lf x4 x5 x6 h nx =
    some ((.tuple [(.ptr x4), (.ptr x5), (.ptr x6)]), h, (nx + 6)) := F28_J1_eq' go1 call Y lf x4 x5 x6 h nx

theorem F28_eq' (J : StepF (AV × AHeap × Nat) → StepF (AV × AHeap × Nat)) (n : Nat) (Y : YldF) (x0 : Option (Nat × Nat)) (x1 : Int) (h : AHeap) (nx : Nat) : rootJ J Tryd.prog keepT (callP Tryd.prog keepT n) Y n 28 [(.ptr x0), (.int .i32 x1)] h nx =
    if ((x1 : Int) == 110) = true then
    ((x0).bind fun p1 =>
    F28_J1' J J (callP Tryd.prog keepT n) Y n (some (p1.1, (p1.2 + 1))) none none h (nx + 10))
    else
    (if ((x1 : Int) == 111) = true then
    ((x0).bind fun p2 =>
    F28_J1' J J (callP Tryd.prog keepT n) Y n (some (p2.1, (p2.2 + 2))) none none h (nx + 12))
    else
    (if ((x1 : Int) == 102) = true then
    ((x0).bind fun p3 =>
    F28_J1' J J (callP Tryd.prog keepT n) Y n none (some (p3.1, (p3.2 + 3))) none h (nx + 14))
    else
    (if ((x1 : Int) == 99) = true then
    ((x0).bind fun p4 =>
    F28_J1' J J (callP Tryd.prog keepT n) Y n none (some (p4.1, (p4.2 + 4))) none h (nx + 16))
    else
    (if ((x1 : Int) == 100) = true then
    ((x0).bind fun p5 =>
    F28_J1' J J (callP Tryd.prog keepT n) Y n none (some (p5.1, (p5.2 + 5))) none h (nx + 18))
    else
    (if ((x1 : Int) == 107) = true then
    ((x0).bind fun p6 =>
    F28_J1' J J (callP Tryd.prog keepT n) Y n none (some (p6.1, (p6.2 + 6))) none h (nx + 20))
    else
    (if ((x1 : Int) == 120) = true then
    ((x0).bind fun p7 =>
    F28_J1' J J (callP Tryd.prog keepT n) Y n none none (some (p7.1, (p7.2 + 7))) h (nx + 22))
    else
    (F28_J1' J J (callP Tryd.prog keepT n) Y n none none none h (nx + 18)))))))) := by kernel_rfl

/-- quickset/desk.field -/
theorem F28_eq (n : Nat) (Y : YldF) (x0 : Option (Nat × Nat)) (x1 : Int) (h : AHeap) (nx : Nat) : callP Tryd.prog keepT (n + 1) Y 28 [(.ptr x0), (.int .i32 x1)] h nx =
    if ((x1 : Int) == 110) = true then
    ((x0).bind fun p1 =>
    F28_J1 (callP Tryd.prog keepT n) Y n (some (p1.1, (p1.2 + 1))) none none h (nx + 10))
    else
    (if ((x1 : Int) == 111) = true then
    ((x0).bind fun p2 =>
    F28_J1 (callP Tryd.prog keepT n) Y n (some (p2.1, (p2.2 + 2))) none none h (nx + 12))
    else
    (if ((x1 : Int) == 102) = true then
    ((x0).bind fun p3 =>
    F28_J1 (callP Tryd.prog keepT n) Y n none (some (p3.1, (p3.2 + 3))) none h (nx + 14))
    else
    (if ((x1 : Int) == 99) = true then
    ((x0).bind fun p4 =>
    F28_J1 (callP Tryd.prog keepT n) Y n none (some (p4.1, (p4.2 + 4))) none h (nx + 16))
    else
    (if ((x1 : Int) == 100) = true then
    ((x0).bind fun p5 =>
    F28_J1 (callP Tryd.prog keepT n) Y n none (some (p5.1, (p5.2 + 5))) none h (nx + 18))
    else
    (if ((x1 : Int) == 107) = true then
    ((x0).bind fun p6 =>
    F28_J1 (callP Tryd.prog keepT n) Y n none (some (p6.1, (p6.2 + 6))) none h (nx + 20))
    else
    (if ((x1 : Int) == 120) = true then
    ((x0).bind fun p7 =>
    F28_J1 (callP Tryd.prog keepT n) Y n none none (some (p7.1, (p7.2 + 7))) h (nx + 22))
    else
    (F28_J1 (callP Tryd.prog keepT n) Y n none none none h (nx + 18)))))))) := F28_eq' go1 n Y x0 x1 h nx

noncomputable def c29 : Code := (Tryd.f29.body).getD .skip

noncomputable def r29 : List ResultVar := Tryd.f29.results.toList

noncomputable def F29_L1' (W J : StepF (AV × AHeap × Nat) → StepF (AV × AHeap × Nat)) (call : YldF → CallF) (Y : YldF) (lf : Nat) (n0 : Nat) (x0a : Option (Nat × Nat)) (x0n : Nat) (x0c : Option Nat) (x1 : AV) (x7 : Int) (x8 : Int) (h : AHeap) (nx : Nat) : Option (AV × AHeap × Nat) :=
  goK W J drawK (machOf Tryd.prog) call Y (keepT 29) lf c29 [1, 0, 1, 0, 9] [n0] (retK (machOf Tryd.prog) ⟨c29, 19, r29, keepT 29⟩) ⟨19, mkL [(0, (.slice x0a x0n x0c)), (1, x1), (7, (.int .i64 x7)), (8, (.int .i64 x8))], (machOf Tryd.prog).gk⟩ h nx

noncomputable def F29_L1 (call : YldF → CallF) (Y : YldF) (lf : Nat) (n0 : Nat) (x0a : Option (Nat × Nat)) (x0n : Nat) (x0c : Option Nat) (x1 : AV) (x7 : Int) (x8 : Int) (h : AHeap) (nx : Nat) : Option (AV × AHeap × Nat) := F29_L1' go1 go1 call Y lf n0 x0a x0n x0c x1 x7 x8 h nx

theorem F29_L1_eq' (J : StepF (AV × AHeap × Nat) → StepF (AV × AHeap × Nat)) (call : YldF → CallF) (Y : YldF) (lf : Nat) (n0 : Nat) (x0a : Option (Nat × Nat)) (x0n : Nat) (x0c : Option Nat) (x1 : AV) (x7 : Int) (x8 : Int) (h : AHeap) (nx : Nat) : F29_L1' go1 J call Y lf (n0 + 1) x0a x0n x0c x1 x7 x8 h nx =
    if (decide ((x8 : Int) < x7)) = true then
    ((x0a).bind fun p1 =>
    if 0 ≤ (x8 : Int) ∧ x8 < ((x0n : Nat) : Int) then
    ((ldR h p1.1 (p1.2 + Int.toNat x8 * 2) 2).bind fun l2 =>
    (asCal x1).bind fun q4 =>
    (callC (call Y) Y q4.1 (q4.2.1 ++ [(.agg l2)] ++ q4.2.2) h (nx + 9)).bind fun r3 =>
    (asB r3.1).bind fun t5 =>
    if t5 = true then
    (some ((.int .i64 x8), r3.2.1, (r3.2.2 + 2)))
    else
    (F29_L1' J J call Y lf n0 x0a x0n x0c (x1) x7 (wrapA .i64 (x8 + 1)) r3.2.1 (r3.2.2 + 2)))
    else none)
    else
    (some ((.int .i64 (-1)), h, (nx + 2))) := by kernel_rfl

theorem F29_L1_eq (call : YldF → CallF) (Y : YldF) (lf : Nat) (n0 : Nat) (x0a : Option (Nat × Nat)) (x0n : Nat) (x0c : Option Nat) (x1 : AV) (x7 : Int) (x8 : Int) (h : AHeap) (nx : Nat) : F29_L1 call Y lf (n0 + 1) x0a x0n x0c x1 x7 x8 h nx =
    if (decide ((x8 : Int) < x7)) = true then
    ((x0a).bind fun p1 =>
    if 0 ≤ (x8 : Int) ∧ x8 < ((x0n : Nat) : Int) then
    ((ldR h p1.1 (p1.2 + Int.toNat x8 * 2) 2).bind fun l2 =>
    (asCal x1).bind fun q4 =>
    (callC (call Y) Y q4.1 (q4.2.1 ++ [(.agg l2)] ++ q4.2.2) h (nx + 9)).bind fun r3 =>
    (asB r3.1).bind fun t5 =>
    if t5 = true then
    (some ((.int .i64 x8), r3.2.1, (r3.2.2 + 2)))
    else
    (F29_L1 call Y lf n0 x0a x0n x0c (x1) x7 (wrapA .i64 (x8 + 1)) r3.2.1 (r3.2.2 + 2)))
    else none)
    else
    (some ((.int .i64 (-1)), h, (nx + 2))) := F29_L1_eq' go1 call Y lf n0 x0a x0n x0c x1 x7 x8 h nx

theorem F29_L1_zero (call : YldF → CallF) (Y : YldF) (lf : Nat) (x0a : Option (Nat × Nat)) (x0n : Nat) (x0c : Option Nat) (x1 : AV) (x7 : Int) (x8 : Int) (h : AHeap) (nx : Nat) : F29_L1 call Y lf 0 x0a x0n x0c x1 x7 x8 h nx = none := by kernel_rfl

theorem F29_eq' (J : StepF (AV × AHeap × Nat) → StepF (AV × AHeap × Nat)) (n : Nat) (Y : YldF) (x0a : Option (Nat × Nat)) (x0n : Nat) (x0c : Option Nat) (x1 : AV) (h : AHeap) (nx : Nat) : rootJ J Tryd.prog keepT (callP Tryd.prog keepT n) Y n 29 [(.slice x0a x0n x0c), x1] h nx =
    F29_L1' J J (callP Tryd.prog keepT n) Y n n x0a x0n x0c (x1) ((x0n : Nat) : Int) 0 h (nx + 4) := by kernel_rfl

/-- slices.IndexFunc[[][2]string,[2]string] -/
theorem F29_eq (n : Nat) (Y : YldF) (x0a : Option (Nat × Nat)) (x0n : Nat) (x0c : Option Nat) (x1 : AV) (h : AHeap) (nx : Nat) : callP Tryd.prog keepT (n + 1) Y 29 [(.slice x0a x0n x0c), x1] h nx =
    F29_L1 (callP Tryd.prog keepT n) Y n n x0a x0n x0c (x1) ((x0n : Nat) : Int) 0 h (nx + 4) := F29_eq' go1 n Y x0a x0n x0c x1 h nx

noncomputable def c30 : Code := (Tryd.f30.body).getD .skip

noncomputable def r30 : List ResultVar := Tryd.f30.results.toList

theorem F30_eq' (J : StepF (AV × AHeap × Nat) → StepF (AV × AHeap × Nat)) (n : Nat) (Y : YldF) (x0 : List AV) (x1 : Option (Nat × Nat)) (h : AHeap) (nx : Nat) : rootJ J Tryd.prog keepT (callP Tryd.prog keepT n) Y n 30 [(.agg x0), (.ptr x1)] h nx =
    if allOne x0 = true then
    (let h1 := AHeap.put h nx (some ⟨x0, 1, true⟩)
    if 0 ≤ (0 : Int) ∧ 0 < ((2 : Nat) : Int) then
    ((ldA h1 nx (0 + Int.toNat 0 * 1)).bind fun v2 =>
    (asStr v2).bind fun s3 =>
    (x1).bind fun p4 =>
    (ldA h1 p4.1 p4.2).bind fun v5 =>
    (asSl v5).bind fun s6 =>
    (s6.1).bind fun p7 =>
    if 0 ≤ (0 : Int) ∧ 0 < ((s6.2.1 : Nat) : Int) then
    ((ldA h1 p7.1 (p7.2 + Int.toNat 0 * 1)).bind fun v8 =>
    (asStr v8).bind fun s9 =>
    some ((.bool (s3.toList == s9.toList)), h1, (nx + 9)))
    else none)
    else none)
    else none := by kernel_rfl

/-- quickset/desk.Read$1 -/
theorem F30_eq (n : Nat) (Y : YldF) (x0 : List AV) (x1 : Option (Nat × Nat)) (h : AHeap) (nx : Nat) : callP Tryd.prog keepT (n + 1) Y 30 [(.agg x0), (.ptr x1)] h nx =
    if allOne x0 = true then
    (let h1 := AHeap.put h nx (some ⟨x0, 1, true⟩)
    if 0 ≤ (0 : Int) ∧ 0 < ((2 : Nat) : Int) then
    ((ldA h1 nx (0 + Int.toNat 0 * 1)).bind fun v2 =>
    (asStr v2).bind fun s3 =>
    (x1).bind fun p4 =>
    (ldA h1 p4.1 p4.2).bind fun v5 =>
    (asSl v5).bind fun s6 =>
    (s6.1).bind fun p7 =>
    if 0 ≤ (0 : Int) ∧ 0 < ((s6.2.1 : Nat) : Int) then
    ((ldA h1 p7.1 (p7.2 + Int.toNat 0 * 1)).bind fun v8 =>
    (asStr v8).bind fun s9 =>
    some ((.bool (s3.toList == s9.toList)), h1, (nx + 9)))
    else none)
    else none)
    else none := F30_eq' go1 n Y x0 x1 h nx

noncomputable def c31 : Code := (Tryd.f31.body).getD .skip

noncomputable def r31 : List ResultVar := Tryd.f31.results.toList

noncomputable def F31_L1' (W J : StepF (AV × AHeap × Nat) → StepF (AV × AHeap × Nat)) (call : YldF → CallF) (Y : YldF) (lf : Nat) (n0 : Nat) (x0a : Option (Nat × Nat)) (x0n : Nat) (x0c : Option Nat) (x1 : AV) (x7 : Int) (x8 : Int) (h : AHeap) (nx : Nat) : Option (AV × AHeap × Nat) :=
  goK W J drawK (machOf Tryd.prog) call Y (keepT 31) lf c31 [1, 0, 1, 0, 9] [n0] (retK (machOf Tryd.prog) ⟨c31, 19, r31, keepT 31⟩) ⟨19, mkL [(0, (.slice x0a x0n x0c)), (1, x1), (7, (.int .i64 x7)), (8, (.int .i64 x8))], (machOf Tryd.prog).gk⟩ h nx

noncomputable def F31_L1 (call : YldF → CallF) (Y : YldF) (lf : Nat) (n0 : Nat) (x0a : Option (Nat × Nat)) (x0n : Nat) (x0c : Option Nat) (x1 : AV) (x7 : Int) (x8 : Int) (h : AHeap) (nx : Nat) : Option (AV × AHeap × Nat) := F31_L1' go1 go1 call Y lf n0 x0a x0n x0c x1 x7 x8 h nx

theorem F31_L1_eq' (J : StepF (AV × AHeap × Nat) → StepF (AV × AHeap × Nat)) (call : YldF → CallF) (Y : YldF) (lf : Nat) (n0 : Nat) (x0a : Option (Nat × Nat)) (x0n : Nat) (x0c : Option Nat) (x1 : AV) (x7 : Int) (x8 : Int) (h : AHeap) (nx : Nat) : F31_L1' go1 J call Y lf (n0 + 1) x0a x0n x0c x1 x7 x8 h nx =
    if (decide ((x8 : Int) < x7)) = true then
    ((x0a).bind fun p1 =>
    if 0 ≤ (x8 : Int) ∧ x8 < ((x0n : Nat) : Int) then
    ((ldA h p1.1 (p1.2 + Int.toNat x8 * 1)).bind fun v2 =>
    (asStr v2).bind fun s3 =>
    (asCal x1).bind fun q5 =>
    (callC (call Y) Y q5.1 (q5.2.1 ++ [(.str s3)] ++ q5.2.2) h (nx + 9)).bind fun r4 =>
    (asB r4.1).bind fun t6 =>
    if t6 = true then
    (some ((.int .i64 x8), r4.2.1, (r4.2.2 + 2)))
    else
    (F31_L1' J J call Y lf n0 x0a x0n x0c (x1) x7 (wrapA .i64 (x8 + 1)) r4.2.1 (r4.2.2 + 2)))
    else none)
    else
    (some ((.int .i64 (-1)), h, (nx + 2))) := by kernel_rfl

theorem F31_L1_eq (call : YldF → CallF) (Y : YldF) (lf : Nat) (n0 : Nat) (x0a : Option (Nat × Nat)) (x0n : Nat) (x0c : Option Nat) (x1 : AV) (x7 : Int) (x8 : Int) (h : AHeap) (nx : Nat) : F31_L1 call Y lf (n0 + 1) x0a x0n x0c x1 x7 x8 h nx =
    if (decide ((x8 : Int) < x7)) = true then
    ((x0a).bind fun p1 =>
    if 0 ≤ (x8 : Int) ∧ x8 < ((x0n : Nat) : Int) then
    ((ldA h p1.1 (p1.2 + Int.toNat x8 * 1)).bind fun v2 =>
    (asStr v2).bind fun s3 =>
    (asCal x1).bind fun q5 =>
    (callC (call Y) Y q5.1 (q5.2.1 ++ [(.str s3)] ++ q5.2.2) h (nx + 9)).bind fun r4 =>
    (asB r4.1).bind fun t6 =>
    if t6 = true then
    (some ((.int .i64 x8), r4.2.1, (r4.2.2 + 2)))
    else
    (F31_L1 call Y lf n0 x0a x0n x0c (x1) x7 (wrapA .i64 (x8 + 1)) r4.2.1 (r4.2.2 + 2)))
    else none)
    else
    (some ((.int .i64 (-1)), h, (nx + 2))) := F31_L1_eq' go1 call Y lf n0 x0a x0n x0c x1 x7 x8 h nx

theorem F31_L1_zero (call : YldF → CallF) (Y : YldF) (lf : Nat) (x0a : Option (Nat × Nat)) (x0n : Nat) (x0c : Option Nat) (x1 : AV) (x7 : Int) (x8 : Int) (h : AHeap) (nx : Nat) : F31_L1 call Y lf 0 x0a x0n x0c x1 x7 x8 h nx = none := by kernel_rfl

theorem F31_eq' (J : StepF (AV × AHeap × Nat) → StepF (AV × AHeap × Nat)) (n : Nat) (Y : YldF) (x0a : Option (Nat × Nat)) (x0n : Nat) (x0c : Option Nat) (x1 : AV) (h : AHeap) (nx : Nat) : rootJ J Tryd.prog keepT (callP Tryd.prog keepT n) Y n 31 [(.slice x0a x0n x0c), x1] h nx =
    F31_L1' J J (callP Tryd.prog keepT n) Y n n x0a x0n x0c (x1) ((x0n : Nat) : Int) 0 h (nx + 4) := by kernel_rfl

/-- slices.IndexFunc[[]string,string] -/
theorem F31_eq (n : Nat) (Y : YldF) (x0a : Option (Nat × Nat)) (x0n : Nat) (x0c : Option Nat) (x1 : AV) (h : AHeap) (nx : Nat) : callP Tryd.prog keepT (n + 1) Y 31 [(.slice x0a x0n x0c), x1] h nx =
    F31_L1 (callP Tryd.prog keepT n) Y n n x0a x0n x0c (x1) ((x0n : Nat) : Int) 0 h (nx + 4) := F31_eq' go1 n Y x0a x0n x0c x1 h nx

/-- strconv.Atoi, by its contract -/
theorem F38_eq (n : Nat) (Y : YldF) (args : List AV) (h : AHeap) (nx : Nat) : callP Tryd.prog keepT (n + 1) Y 38 args h nx = orcK [8, 103] args h nx := by kernel_rfl

/-- strings.IndexByte, by its contract -/
theorem F39_eq (n : Nat) (Y : YldF) (args : List AV) (h : AHeap) (nx : Nat) : callP Tryd.prog keepT (n + 1) Y 39 args h nx = orcK [9] args h nx := by kernel_rfl

end Go.Proofs.YtahilinkfnchaaaDoor.T
