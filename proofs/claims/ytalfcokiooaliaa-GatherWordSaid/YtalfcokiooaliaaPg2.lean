/- Printed by mp.py: functions of the program as plain Lean, each by the kernel. -/
import Derived.Test.YtalfcokiooaliaaPg1
set_option linter.unusedVariables false
set_option linter.unusedSimpArgs false
namespace Go.Proofs.Ytalfcokiooaliaa.T
open Go Go.RowKit Go.Proofs
set_option maxRecDepth 100000

noncomputable def c35 : Code := (Try.f35.body).getD .skip

noncomputable def r35 : List ResultVar := Try.f35.results.toList

theorem F35_eq' (J : StepF (AV × AHeap × Nat) → StepF (AV × AHeap × Nat)) (n : Nat) (Y : YldF) (x0a : Option (Nat × Nat)) (x0n : Nat) (x0c : Bool) (h : AHeap) (nx : Nat) : rootJ J Try.prog keepT (callP Try.prog keepT n) Y n 35 [(.slice x0a x0n x0c)] h nx =
    if (decide ((((x0n : Nat) : Int) : Int) > 0)) = true then
    (if (decide ((((x0n : Nat) : Int) : Int) ≤ 12)) = true then
    (((callP Try.prog keepT n) Y 42 [(.slice x0a x0n x0c)] h (nx + 14)).bind fun r1 =>
    (asB r1.1).bind fun t2 =>
    some ((.bool t2), r1.2.1, r1.2.2))
    else
    (some ((.bool false), h, (nx + 14))))
    else
    (some ((.bool false), h, (nx + 14))) := by kernel_rfl

/-- quickset/par.May -/
theorem F35_eq (n : Nat) (Y : YldF) (x0a : Option (Nat × Nat)) (x0n : Nat) (x0c : Bool) (h : AHeap) (nx : Nat) : callP Try.prog keepT (n + 1) Y 35 [(.slice x0a x0n x0c)] h nx =
    if (decide ((((x0n : Nat) : Int) : Int) > 0)) = true then
    (if (decide ((((x0n : Nat) : Int) : Int) ≤ 12)) = true then
    (((callP Try.prog keepT n) Y 42 [(.slice x0a x0n x0c)] h (nx + 14)).bind fun r1 =>
    (asB r1.1).bind fun t2 =>
    some ((.bool t2), r1.2.1, r1.2.2))
    else
    (some ((.bool false), h, (nx + 14))))
    else
    (some ((.bool false), h, (nx + 14))) := F35_eq' go1 n Y x0a x0n x0c h nx

noncomputable def c36 : Code := (Try.f36.body).getD .skip

noncomputable def r36 : List ResultVar := Try.f36.results.toList

theorem F36_eq' (J : StepF (AV × AHeap × Nat) → StepF (AV × AHeap × Nat)) (n : Nat) (Y : YldF) (x0 : Int) (h : AHeap) (nx : Nat) : rootJ J Try.prog keepT (callP Try.prog keepT n) Y n 36 [(.int .i64 x0)] h nx =
    if (decide ((x0 : Int) ≥ 1)) = true then
    (some ((.bool (decide ((x0 : Int) ≤ 3))), h, (nx + 8)))
    else
    (some ((.bool false), h, (nx + 8))) := by kernel_rfl

/-- quickset/par.some -/
theorem F36_eq (n : Nat) (Y : YldF) (x0 : Int) (h : AHeap) (nx : Nat) : callP Try.prog keepT (n + 1) Y 36 [(.int .i64 x0)] h nx =
    if (decide ((x0 : Int) ≥ 1)) = true then
    (some ((.bool (decide ((x0 : Int) ≤ 3))), h, (nx + 8)))
    else
    (some ((.bool false), h, (nx + 8))) := F36_eq' go1 n Y x0 h nx

noncomputable def c37 : Code := (Try.f37.body).getD .skip

noncomputable def r37 : List ResultVar := Try.f37.results.toList

noncomputable def F37_L1' (W J : StepF (AV × AHeap × Nat) → StepF (AV × AHeap × Nat)) (call : YldF → CallF) (Y : YldF) (lf : Nat) (n0 : Nat) (x1 : Int) (x5a : Option (Nat × Nat)) (x5n : Nat) (x5c : Bool) (x13a : Option (Nat × Nat)) (x13n : Nat) (x13c : Bool) (x14 : Int) (x15 : Int) (h : AHeap) (nx : Nat) : Option (AV × AHeap × Nat) :=
  goK W J drawK (machOf Try.prog) call Y (keepT 37) lf c37 [1, 1, 0, 1, 0, 9] [n0] (retK (machOf Try.prog) ⟨c37, 28, r37, keepT 37⟩) ⟨28, mkL [(1, (.int .i64 x1)), (5, (.slice x5a x5n x5c)), (13, (.slice x13a x13n x13c)), (14, (.int .i64 x14)), (15, (.int .i64 x15))]⟩ h nx

noncomputable def F37_L1 (call : YldF → CallF) (Y : YldF) (lf : Nat) (n0 : Nat) (x1 : Int) (x5a : Option (Nat × Nat)) (x5n : Nat) (x5c : Bool) (x13a : Option (Nat × Nat)) (x13n : Nat) (x13c : Bool) (x14 : Int) (x15 : Int) (h : AHeap) (nx : Nat) : Option (AV × AHeap × Nat) := F37_L1' go1 go1 call Y lf n0 x1 x5a x5n x5c x13a x13n x13c x14 x15 h nx

theorem F37_L1_eq' (J : StepF (AV × AHeap × Nat) → StepF (AV × AHeap × Nat)) (call : YldF → CallF) (Y : YldF) (lf : Nat) (n0 : Nat) (x1 : Int) (x5a : Option (Nat × Nat)) (x5n : Nat) (x5c : Bool) (x13a : Option (Nat × Nat)) (x13n : Nat) (x13c : Bool) (x14 : Int) (x15 : Int) (h : AHeap) (nx : Nat) : F37_L1' go1 J call Y lf (n0 + 1) x1 x5a x5n x5c x13a x13n x13c x14 x15 h nx =
    if (decide ((x15 : Int) < x14)) = true then
    ((x13a).bind fun p1 =>
    if 0 ≤ (x15 : Int) ∧ x15 < ((x13n : Nat) : Int) then
    ((ldA h p1.1 (p1.2 + Int.toNat x15 * 1)).bind fun v2 =>
    (asSl v2).bind fun s3 =>
    (call Y 46 [(.int .i64 x1), (.int .i64 x15)] h (nx + 12)).bind fun r4 =>
    (asI .i64 r4.1).bind fun n5 =>
    (call Y 45 [(.slice x5a x5n x5c), (.slice s3.1 s3.2.1 s3.2.2), (.int .i64 n5)] r4.2.1 r4.2.2).bind fun r6 =>
    (asTup 0 r6.1).bind fun d7 =>
    F37_L1' J J call Y lf n0 x1 x5a x5n x5c x13a x13n x13c x14 (wrapA .i64 (x15 + 1)) r6.2.1 (r6.2.2 + 2))
    else none)
    else
    (some ((.slice x5a x5n x5c), h, (nx + 3))) := by kernel_rfl

theorem F37_L1_eq (call : YldF → CallF) (Y : YldF) (lf : Nat) (n0 : Nat) (x1 : Int) (x5a : Option (Nat × Nat)) (x5n : Nat) (x5c : Bool) (x13a : Option (Nat × Nat)) (x13n : Nat) (x13c : Bool) (x14 : Int) (x15 : Int) (h : AHeap) (nx : Nat) : F37_L1 call Y lf (n0 + 1) x1 x5a x5n x5c x13a x13n x13c x14 x15 h nx =
    if (decide ((x15 : Int) < x14)) = true then
    ((x13a).bind fun p1 =>
    if 0 ≤ (x15 : Int) ∧ x15 < ((x13n : Nat) : Int) then
    ((ldA h p1.1 (p1.2 + Int.toNat x15 * 1)).bind fun v2 =>
    (asSl v2).bind fun s3 =>
    (call Y 46 [(.int .i64 x1), (.int .i64 x15)] h (nx + 12)).bind fun r4 =>
    (asI .i64 r4.1).bind fun n5 =>
    (call Y 45 [(.slice x5a x5n x5c), (.slice s3.1 s3.2.1 s3.2.2), (.int .i64 n5)] r4.2.1 r4.2.2).bind fun r6 =>
    (asTup 0 r6.1).bind fun d7 =>
    F37_L1 call Y lf n0 x1 x5a x5n x5c x13a x13n x13c x14 (wrapA .i64 (x15 + 1)) r6.2.1 (r6.2.2 + 2))
    else none)
    else
    (some ((.slice x5a x5n x5c), h, (nx + 3))) := F37_L1_eq' go1 call Y lf n0 x1 x5a x5n x5c x13a x13n x13c x14 x15 h nx

theorem F37_L1_zero (call : YldF → CallF) (Y : YldF) (lf : Nat) (x1 : Int) (x5a : Option (Nat × Nat)) (x5n : Nat) (x5c : Bool) (x13a : Option (Nat × Nat)) (x13n : Nat) (x13c : Bool) (x14 : Int) (x15 : Int) (h : AHeap) (nx : Nat) : F37_L1 call Y lf 0 x1 x5a x5n x5c x13a x13n x13c x14 x15 h nx = none := by kernel_rfl

theorem F37_eq' (J : StepF (AV × AHeap × Nat) → StepF (AV × AHeap × Nat)) (n : Nat) (Y : YldF) (x0a : Option (Nat × Nat)) (x0n : Nat) (x0c : Bool) (x1 : Int) (h : AHeap) (nx : Nat) : rootJ J Try.prog keepT (callP Try.prog keepT n) Y n 37 [(.slice x0a x0n x0c), (.int .i64 x1)] h nx =
    (x0a).bind fun p1 =>
    if 0 ≤ (0 : Int) ∧ 0 < ((x0n : Nat) : Int) then
    ((ldA h p1.1 (p1.2 + Int.toNat 0 * 1)).bind fun v2 =>
    (asSl v2).bind fun s3 =>
    if (decide (0 ≤ (((s3.2.1 : Nat) : Int) : Int)) && decide ((((s3.2.1 : Nat) : Int) : Int) ≤ ((s3.2.1 : Nat) : Int)) && decide (((1 : Nat) : Int) * ((s3.2.1 : Nat) : Int) ≤ 281474976710656) && decide ((((s3.2.1 : Nat) : Int) : Int) ≤ 9223372036854775807) && 1 != 0) = true then
    (let h4 := AHeap.put h (nx + 5) (some ⟨(madeA [(.int .u8 0)] (Int.toNat ((s3.2.1 : Nat) : Int) * 1)), 1, true⟩)
    F37_L1' J J (callP Try.prog keepT n) Y n n x1 (some ((nx + 5), 0)) (Int.toNat ((s3.2.1 : Nat) : Int)) (((s3.2.1 : Nat) : Int) == ((s3.2.1 : Nat) : Int)) x0a x0n x0c ((x0n : Nat) : Int) 0 h4 (nx + 10))
    else none)
    else none := by kernel_rfl

/-- quickset/par.encode -/
theorem F37_eq (n : Nat) (Y : YldF) (x0a : Option (Nat × Nat)) (x0n : Nat) (x0c : Bool) (x1 : Int) (h : AHeap) (nx : Nat) : callP Try.prog keepT (n + 1) Y 37 [(.slice x0a x0n x0c), (.int .i64 x1)] h nx =
    (x0a).bind fun p1 =>
    if 0 ≤ (0 : Int) ∧ 0 < ((x0n : Nat) : Int) then
    ((ldA h p1.1 (p1.2 + Int.toNat 0 * 1)).bind fun v2 =>
    (asSl v2).bind fun s3 =>
    if (decide (0 ≤ (((s3.2.1 : Nat) : Int) : Int)) && decide ((((s3.2.1 : Nat) : Int) : Int) ≤ ((s3.2.1 : Nat) : Int)) && decide (((1 : Nat) : Int) * ((s3.2.1 : Nat) : Int) ≤ 281474976710656) && decide ((((s3.2.1 : Nat) : Int) : Int) ≤ 9223372036854775807) && 1 != 0) = true then
    (let h4 := AHeap.put h (nx + 5) (some ⟨(madeA [(.int .u8 0)] (Int.toNat ((s3.2.1 : Nat) : Int) * 1)), 1, true⟩)
    F37_L1 (callP Try.prog keepT n) Y n n x1 (some ((nx + 5), 0)) (Int.toNat ((s3.2.1 : Nat) : Int)) (((s3.2.1 : Nat) : Int) == ((s3.2.1 : Nat) : Int)) x0a x0n x0c ((x0n : Nat) : Int) 0 h4 (nx + 10))
    else none)
    else none := F37_eq' go1 n Y x0a x0n x0c x1 h nx

noncomputable def c38 : Code := (Try.f38.body).getD .skip

noncomputable def r38 : List ResultVar := Try.f38.results.toList

theorem F38_eq' (J : StepF (AV × AHeap × Nat) → StepF (AV × AHeap × Nat)) (n : Nat) (Y : YldF) (x0_0 : Int) (x0_1 : Int) (h : AHeap) (nx : Nat) : rootJ J Try.prog keepT (callP Try.prog keepT n) Y n 38 [(.agg [(.int .i64 x0_0), (.int .i64 x0_1)])] h nx =
    let h1 := AHeap.put h nx (some ⟨[(.int .i64 x0_0), (.int .i64 x0_1)], 2, true⟩)
    (ldA h1 nx 0).bind fun v2 =>
    (asI .i64 v2).bind fun n3 =>
    if (decide ((n3 : Int) ≥ 2)) = true then
    ((ldA h1 nx 0).bind fun v4 =>
    (asI .i64 v4).bind fun n5 =>
    if (decide ((n5 : Int) ≤ 8)) = true then
    ((ldA h1 nx 1).bind fun v6 =>
    (asI .i64 v6).bind fun n7 =>
    if (decide ((n7 : Int) ≥ 1)) = true then
    ((ldA h1 nx 1).bind fun v8 =>
    (asI .i64 v8).bind fun n9 =>
    if (decide ((n9 : Int) ≤ 3)) = true then
    ((ldA h1 nx 1).bind fun v10 =>
    (asI .i64 v10).bind fun n11 =>
    (ldA h1 nx 0).bind fun v12 =>
    (asI .i64 v12).bind fun n13 =>
    some ((.bool (decide ((n11 : Int) < n13))), h1, (nx + 28)))
    else
    (some ((.bool false), h1, (nx + 28))))
    else
    (some ((.bool false), h1, (nx + 28))))
    else
    (some ((.bool false), h1, (nx + 28))))
    else
    (some ((.bool false), h1, (nx + 28))) := by kernel_rfl

/-- (quickset/geom.shape).may -/
theorem F38_eq (n : Nat) (Y : YldF) (x0_0 : Int) (x0_1 : Int) (h : AHeap) (nx : Nat) : callP Try.prog keepT (n + 1) Y 38 [(.agg [(.int .i64 x0_0), (.int .i64 x0_1)])] h nx =
    let h1 := AHeap.put h nx (some ⟨[(.int .i64 x0_0), (.int .i64 x0_1)], 2, true⟩)
    (ldA h1 nx 0).bind fun v2 =>
    (asI .i64 v2).bind fun n3 =>
    if (decide ((n3 : Int) ≥ 2)) = true then
    ((ldA h1 nx 0).bind fun v4 =>
    (asI .i64 v4).bind fun n5 =>
    if (decide ((n5 : Int) ≤ 8)) = true then
    ((ldA h1 nx 1).bind fun v6 =>
    (asI .i64 v6).bind fun n7 =>
    if (decide ((n7 : Int) ≥ 1)) = true then
    ((ldA h1 nx 1).bind fun v8 =>
    (asI .i64 v8).bind fun n9 =>
    if (decide ((n9 : Int) ≤ 3)) = true then
    ((ldA h1 nx 1).bind fun v10 =>
    (asI .i64 v10).bind fun n11 =>
    (ldA h1 nx 0).bind fun v12 =>
    (asI .i64 v12).bind fun n13 =>
    some ((.bool (decide ((n11 : Int) < n13))), h1, (nx + 28)))
    else
    (some ((.bool false), h1, (nx + 28))))
    else
    (some ((.bool false), h1, (nx + 28))))
    else
    (some ((.bool false), h1, (nx + 28))))
    else
    (some ((.bool false), h1, (nx + 28))) := F38_eq' go1 n Y x0_0 x0_1 h nx

noncomputable def c39 : Code := (Try.f39.body).getD .skip

noncomputable def r39 : List ResultVar := Try.f39.results.toList

theorem F39_eq' (J : StepF (AV × AHeap × Nat) → StepF (AV × AHeap × Nat)) (n : Nat) (Y : YldF) (x0 : Int) (h : AHeap) (nx : Nat) : rootJ J Try.prog keepT (callP Try.prog keepT n) Y n 39 [(.int .i64 x0)] h nx =
    if (decide ((x0 : Int) ≥ 1)) = true then
    (some ((.bool (decide ((x0 : Int) ≤ 32))), h, (nx + 8)))
    else
    (some ((.bool false), h, (nx + 8))) := by kernel_rfl

/-- quickset/geom.counted -/
theorem F39_eq (n : Nat) (Y : YldF) (x0 : Int) (h : AHeap) (nx : Nat) : callP Try.prog keepT (n + 1) Y 39 [(.int .i64 x0)] h nx =
    if (decide ((x0 : Int) ≥ 1)) = true then
    (some ((.bool (decide ((x0 : Int) ≤ 32))), h, (nx + 8)))
    else
    (some ((.bool false), h, (nx + 8))) := F39_eq' go1 n Y x0 h nx

noncomputable def c40 : Code := (Try.f40.body).getD .skip

noncomputable def r40 : List ResultVar := Try.f40.results.toList

theorem F40_eq' (J : StepF (AV × AHeap × Nat) → StepF (AV × AHeap × Nat)) (n : Nat) (Y : YldF) (x0 : Int) (h : AHeap) (nx : Nat) : rootJ J Try.prog keepT (callP Try.prog keepT n) Y n 40 [(.int .i64 x0)] h nx =
    if (decide ((x0 : Int) ≥ 0)) = true then
    (some ((.bool (decide ((x0 : Int) ≤ 65536))), h, (nx + 8)))
    else
    (some ((.bool false), h, (nx + 8))) := by kernel_rfl

/-- quickset/geom.addressed -/
theorem F40_eq (n : Nat) (Y : YldF) (x0 : Int) (h : AHeap) (nx : Nat) : callP Try.prog keepT (n + 1) Y 40 [(.int .i64 x0)] h nx =
    if (decide ((x0 : Int) ≥ 0)) = true then
    (some ((.bool (decide ((x0 : Int) ≤ 65536))), h, (nx + 8)))
    else
    (some ((.bool false), h, (nx + 8))) := F40_eq' go1 n Y x0 h nx

noncomputable def c30 : Code := (Try.f30.body).getD .skip

noncomputable def r30 : List ResultVar := Try.f30.results.toList

noncomputable def F30_L1' (W J : StepF (AV × AHeap × Nat) → StepF (AV × AHeap × Nat)) (call : YldF → CallF) (Y : YldF) (lf : Nat) (n0 : Nat) (x1 : Option (Nat × Nat)) (x2 : Option (Nat × Nat)) (x4 : Option (Nat × Nat)) (x5 : Option (Nat × Nat)) (x8 : Int) (h : AHeap) (nx : Nat) : Option (AV × AHeap × Nat) :=
  goK W J drawK (machOf Try.prog) call Y (keepT 30) lf c30 [1, 1, 0, 1, 0, 9] [n0] (retK (machOf Try.prog) ⟨c30, 42, r30, keepT 30⟩) ⟨42, mkL [(1, (.ptr x1)), (2, (.ptr x2)), (4, (.ptr x4)), (5, (.ptr x5)), (8, (.int .i64 x8))]⟩ h nx

noncomputable def F30_L1 (call : YldF → CallF) (Y : YldF) (lf : Nat) (n0 : Nat) (x1 : Option (Nat × Nat)) (x2 : Option (Nat × Nat)) (x4 : Option (Nat × Nat)) (x5 : Option (Nat × Nat)) (x8 : Int) (h : AHeap) (nx : Nat) : Option (AV × AHeap × Nat) := F30_L1' go1 go1 call Y lf n0 x1 x2 x4 x5 x8 h nx

theorem F30_L1_eq' (J : StepF (AV × AHeap × Nat) → StepF (AV × AHeap × Nat)) (call : YldF → CallF) (Y : YldF) (lf : Nat) (n0 : Nat) (x1 : Option (Nat × Nat)) (x2 : Option (Nat × Nat)) (x4 : Option (Nat × Nat)) (x5 : Option (Nat × Nat)) (x8 : Int) (h : AHeap) (nx : Nat) : F30_L1' go1 J call Y lf (n0 + 1) x1 x2 x4 x5 x8 h nx =
    (x4).bind fun p1 =>
    (ldA h p1.1 p1.2).bind fun v2 =>
    (asI .i64 v2).bind fun n3 =>
    (x2).bind fun p4 =>
    (ldA h p4.1 p4.2).bind fun v5 =>
    (asI .i64 v5).bind fun n6 =>
    (x1).bind fun p7 =>
    (ldA h p7.1 p7.2).bind fun v8 =>
    (asSl v8).bind fun s9 =>
    if (decide ((x8 : Int) ≤ (wrapA .i64 (n3 - (wrapA .i64 (n6 - ((s9.2.1 : Nat) : Int))))))) = true then
    ((x1).bind fun p10 =>
    (ldA h p10.1 p10.2).bind fun v11 =>
    (asSl v11).bind fun s12 =>
    let h13 := AHeap.put h (nx + 10) (some ⟨[(.int .i64 x8)], 1, true⟩)
    (srcS h13 (some ((nx + 10), 0)) 1 1).bind fun q14 =>
    (appD h13 s12.1 s12.2.1 s12.2.2 1 8 (nx + 11) q14).bind fun e15 =>
    let h16 := AHeap.puts h13 e15.sets
    (x1).bind fun p17 =>
    (stA h16 p17.1 p17.2 (.slice e15.a e15.n e15.c) 1).bind fun b18 =>
    let h19 := AHeap.put h16 p17.1 (some b18)
    (x5).bind fun p20 =>
    (ldA h19 p20.1 p20.2).bind fun v21 =>
    (asCal v21).bind fun q23 =>
    (callC (call Y) Y q23.1 (q23.2.1 ++ [(.int .i64 (wrapA .i64 (x8 + 1)))] ++ q23.2.2) h19 (nx + 18)).bind fun r22 =>
    (asB r22.1).bind fun t24 =>
    if (!t24) = true then
    (some ((.bool false), r22.2.1, (r22.2.2 + 1)))
    else
    ((x1).bind fun p25 =>
    (ldA r22.2.1 p25.1 p25.2).bind fun v26 =>
    (asSl v26).bind fun s27 =>
    (x1).bind fun p28 =>
    (ldA r22.2.1 p28.1 p28.2).bind fun v29 =>
    (asSl v29).bind fun s30 =>
    (cutA r22.2.1 s27.1 s27.2.1 s27.2.2 1 none (some (.int .i64 (wrapA .i64 (((s30.2.1 : Nat) : Int) - 1)))) none).bind fun s31 =>
    (x1).bind fun p32 =>
    (stA r22.2.1 p32.1 p32.2 (.slice s31.1 s31.2.1 s31.2.2) 1).bind fun b33 =>
    let h34 := AHeap.put r22.2.1 p32.1 (some b33)
    F30_L1' J J call Y lf n0 x1 x2 x4 x5 (wrapA .i64 (x8 + 1)) h34 (r22.2.2 + 9)))
    else
    (some ((.bool true), h, (nx + 9))) := by kernel_rfl

theorem F30_L1_eq (call : YldF → CallF) (Y : YldF) (lf : Nat) (n0 : Nat) (x1 : Option (Nat × Nat)) (x2 : Option (Nat × Nat)) (x4 : Option (Nat × Nat)) (x5 : Option (Nat × Nat)) (x8 : Int) (h : AHeap) (nx : Nat) : F30_L1 call Y lf (n0 + 1) x1 x2 x4 x5 x8 h nx =
    (x4).bind fun p1 =>
    (ldA h p1.1 p1.2).bind fun v2 =>
    (asI .i64 v2).bind fun n3 =>
    (x2).bind fun p4 =>
    (ldA h p4.1 p4.2).bind fun v5 =>
    (asI .i64 v5).bind fun n6 =>
    (x1).bind fun p7 =>
    (ldA h p7.1 p7.2).bind fun v8 =>
    (asSl v8).bind fun s9 =>
    if (decide ((x8 : Int) ≤ (wrapA .i64 (n3 - (wrapA .i64 (n6 - ((s9.2.1 : Nat) : Int))))))) = true then
    ((x1).bind fun p10 =>
    (ldA h p10.1 p10.2).bind fun v11 =>
    (asSl v11).bind fun s12 =>
    let h13 := AHeap.put h (nx + 10) (some ⟨[(.int .i64 x8)], 1, true⟩)
    (srcS h13 (some ((nx + 10), 0)) 1 1).bind fun q14 =>
    (appD h13 s12.1 s12.2.1 s12.2.2 1 8 (nx + 11) q14).bind fun e15 =>
    let h16 := AHeap.puts h13 e15.sets
    (x1).bind fun p17 =>
    (stA h16 p17.1 p17.2 (.slice e15.a e15.n e15.c) 1).bind fun b18 =>
    let h19 := AHeap.put h16 p17.1 (some b18)
    (x5).bind fun p20 =>
    (ldA h19 p20.1 p20.2).bind fun v21 =>
    (asCal v21).bind fun q23 =>
    (callC (call Y) Y q23.1 (q23.2.1 ++ [(.int .i64 (wrapA .i64 (x8 + 1)))] ++ q23.2.2) h19 (nx + 18)).bind fun r22 =>
    (asB r22.1).bind fun t24 =>
    if (!t24) = true then
    (some ((.bool false), r22.2.1, (r22.2.2 + 1)))
    else
    ((x1).bind fun p25 =>
    (ldA r22.2.1 p25.1 p25.2).bind fun v26 =>
    (asSl v26).bind fun s27 =>
    (x1).bind fun p28 =>
    (ldA r22.2.1 p28.1 p28.2).bind fun v29 =>
    (asSl v29).bind fun s30 =>
    (cutA r22.2.1 s27.1 s27.2.1 s27.2.2 1 none (some (.int .i64 (wrapA .i64 (((s30.2.1 : Nat) : Int) - 1)))) none).bind fun s31 =>
    (x1).bind fun p32 =>
    (stA r22.2.1 p32.1 p32.2 (.slice s31.1 s31.2.1 s31.2.2) 1).bind fun b33 =>
    let h34 := AHeap.put r22.2.1 p32.1 (some b33)
    F30_L1 call Y lf n0 x1 x2 x4 x5 (wrapA .i64 (x8 + 1)) h34 (r22.2.2 + 9)))
    else
    (some ((.bool true), h, (nx + 9))) := F30_L1_eq' go1 call Y lf n0 x1 x2 x4 x5 x8 h nx

theorem F30_L1_zero (call : YldF → CallF) (Y : YldF) (lf : Nat) (x1 : Option (Nat × Nat)) (x2 : Option (Nat × Nat)) (x4 : Option (Nat × Nat)) (x5 : Option (Nat × Nat)) (x8 : Int) (h : AHeap) (nx : Nat) : F30_L1 call Y lf 0 x1 x2 x4 x5 x8 h nx = none := by kernel_rfl

theorem F30_eq' (J : StepF (AV × AHeap × Nat) → StepF (AV × AHeap × Nat)) (n : Nat) (Y : YldF) (x0 : Int) (x1 : Option (Nat × Nat)) (x2 : Option (Nat × Nat)) (x3 : Option (Nat × Nat)) (x4 : Option (Nat × Nat)) (x5 : Option (Nat × Nat)) (h : AHeap) (nx : Nat) : rootJ J Try.prog keepT (callP Try.prog keepT n) Y n 30 [(.int .i64 x0), (.ptr x1), (.ptr x2), (.ptr x3), (.ptr x4), (.ptr x5)] h nx =
    (x1).bind fun p1 =>
    (ldA h p1.1 p1.2).bind fun v2 =>
    (asSl v2).bind fun s3 =>
    (x2).bind fun p4 =>
    (ldA h p4.1 p4.2).bind fun v5 =>
    (asI .i64 v5).bind fun n6 =>
    if ((((s3.2.1 : Nat) : Int) : Int) == n6) = true then
    ((x3).bind fun p7 =>
    (ldA h p7.1 p7.2).bind fun v8 =>
    (x1).bind fun p9 =>
    (ldA h p9.1 p9.2).bind fun v10 =>
    (asSl v10).bind fun s11 =>
    ((callP Try.prog keepT n) Y 21 [(.slice s11.1 s11.2.1 s11.2.2)] h (nx + 10)).bind fun r12 =>
    (asSl r12.1).bind fun s13 =>
    (asCal v8).bind fun q15 =>
    (callC ((callP Try.prog keepT n) Y) Y q15.1 (q15.2.1 ++ [(.slice s13.1 s13.2.1 s13.2.2)] ++ q15.2.2) r12.2.1 r12.2.2).bind fun r14 =>
    (asB r14.1).bind fun t16 =>
    ifKept [(h, r12.2.1, [p7.1])]
    (some ((.bool t16), r14.2.1, r14.2.2)))
    else
    (F30_L1' J J (callP Try.prog keepT n) Y n n x1 x2 x4 x5 x0 h (nx + 7)) := by kernel_rfl

/-- quickset/comb.Each$1$1 -/
theorem F30_eq (n : Nat) (Y : YldF) (x0 : Int) (x1 : Option (Nat × Nat)) (x2 : Option (Nat × Nat)) (x3 : Option (Nat × Nat)) (x4 : Option (Nat × Nat)) (x5 : Option (Nat × Nat)) (h : AHeap) (nx : Nat) : callP Try.prog keepT (n + 1) Y 30 [(.int .i64 x0), (.ptr x1), (.ptr x2), (.ptr x3), (.ptr x4), (.ptr x5)] h nx =
    (x1).bind fun p1 =>
    (ldA h p1.1 p1.2).bind fun v2 =>
    (asSl v2).bind fun s3 =>
    (x2).bind fun p4 =>
    (ldA h p4.1 p4.2).bind fun v5 =>
    (asI .i64 v5).bind fun n6 =>
    if ((((s3.2.1 : Nat) : Int) : Int) == n6) = true then
    ((x3).bind fun p7 =>
    (ldA h p7.1 p7.2).bind fun v8 =>
    (x1).bind fun p9 =>
    (ldA h p9.1 p9.2).bind fun v10 =>
    (asSl v10).bind fun s11 =>
    ((callP Try.prog keepT n) Y 21 [(.slice s11.1 s11.2.1 s11.2.2)] h (nx + 10)).bind fun r12 =>
    (asSl r12.1).bind fun s13 =>
    (asCal v8).bind fun q15 =>
    (callC ((callP Try.prog keepT n) Y) Y q15.1 (q15.2.1 ++ [(.slice s13.1 s13.2.1 s13.2.2)] ++ q15.2.2) r12.2.1 r12.2.2).bind fun r14 =>
    (asB r14.1).bind fun t16 =>
    ifKept [(h, r12.2.1, [p7.1])]
    (some ((.bool t16), r14.2.1, r14.2.2)))
    else
    (F30_L1 (callP Try.prog keepT n) Y n n x1 x2 x4 x5 x0 h (nx + 7)) := F30_eq' go1 n Y x0 x1 x2 x3 x4 x5 h nx

noncomputable def c41 : Code := (Try.f41.body).getD .skip

noncomputable def r41 : List ResultVar := Try.f41.results.toList

noncomputable def F41_L1' (W J : StepF (AV × AHeap × Nat) → StepF (AV × AHeap × Nat)) (call : YldF → CallF) (Y : YldF) (lf : Nat) (n0 : Nat) (x0a : Option (Nat × Nat)) (x0n : Nat) (x0c : Bool) (x2 : Int) (x8a : Option (Nat × Nat)) (x8n : Nat) (x8c : Bool) (x14a : Option (Nat × Nat)) (x14n : Nat) (x14c : Bool) (x15 : Int) (x16 : Int) (h : AHeap) (nx : Nat) : Option (AV × AHeap × Nat) :=
  goK W J drawK (machOf Try.prog) call Y (keepT 41) lf c41 [1, 1, 0, 1, 0, 9] [n0] (retK (machOf Try.prog) ⟨c41, 38, r41, keepT 41⟩) ⟨38, mkL [(0, (.slice x0a x0n x0c)), (2, (.int .i64 x2)), (8, (.slice x8a x8n x8c)), (14, (.slice x14a x14n x14c)), (15, (.int .i64 x15)), (16, (.int .i64 x16))]⟩ h nx

noncomputable def F41_L1 (call : YldF → CallF) (Y : YldF) (lf : Nat) (n0 : Nat) (x0a : Option (Nat × Nat)) (x0n : Nat) (x0c : Bool) (x2 : Int) (x8a : Option (Nat × Nat)) (x8n : Nat) (x8c : Bool) (x14a : Option (Nat × Nat)) (x14n : Nat) (x14c : Bool) (x15 : Int) (x16 : Int) (h : AHeap) (nx : Nat) : Option (AV × AHeap × Nat) := F41_L1' go1 go1 call Y lf n0 x0a x0n x0c x2 x8a x8n x8c x14a x14n x14c x15 x16 h nx

theorem F41_L1_eq' (J : StepF (AV × AHeap × Nat) → StepF (AV × AHeap × Nat)) (call : YldF → CallF) (Y : YldF) (lf : Nat) (n0 : Nat) (x0a : Option (Nat × Nat)) (x0n : Nat) (x0c : Bool) (x2 : Int) (x8a : Option (Nat × Nat)) (x8n : Nat) (x8c : Bool) (x14a : Option (Nat × Nat)) (x14n : Nat) (x14c : Bool) (x15 : Int) (x16 : Int) (h : AHeap) (nx : Nat) : F41_L1' go1 J call Y lf (n0 + 1) x0a x0n x0c x2 x8a x8n x8c x14a x14n x14c x15 x16 h nx =
    if (decide ((x16 : Int) < x15)) = true then
    ((x14a).bind fun p1 =>
    if 0 ≤ (x16 : Int) ∧ x16 < ((x14n : Nat) : Int) then
    ((ldA h p1.1 (p1.2 + Int.toNat x16 * 1)).bind fun v2 =>
    (asI .i64 v2).bind fun n3 =>
    if (decide ((n3 : Int) ≥ 0)) = true then
    (if (decide ((n3 : Int) < ((x0n : Nat) : Int))) = true then
    ((x8a).bind fun p4 =>
    if 0 ≤ (n3 : Int) ∧ n3 < ((x8n : Nat) : Int) then
    ((stA h p4.1 (p4.2 + Int.toNat n3 * 1) (.bool true) 1).bind fun b5 =>
    let h6 := AHeap.put h p4.1 (some b5)
    F41_L1' J J call Y lf n0 x0a x0n x0c x2 x8a x8n x8c x14a x14n x14c x15 (wrapA .i64 (x16 + 1)) h6 (nx + 18))
    else none)
    else
    (F41_L1' J J call Y lf n0 x0a x0n x0c x2 x8a x8n x8c x14a x14n x14c x15 (wrapA .i64 (x16 + 1)) h (nx + 14)))
    else
    (F41_L1' J J call Y lf n0 x0a x0n x0c x2 x8a x8n x8c x14a x14n x14c x15 (wrapA .i64 (x16 + 1)) h (nx + 14)))
    else none)
    else
    ((call Y 43 [(.slice x0a x0n x0c), (.slice x8a x8n x8c)] h (nx + 6)).bind fun r7 =>
    (asSl r7.1).bind fun s8 =>
    (call Y 42 [(.slice s8.1 s8.2.1 s8.2.2)] r7.2.1 r7.2.2).bind fun r9 =>
    (asB r9.1).bind fun t10 =>
    if (!t10) = true then
    (some ((.tuple [(.slice none 0 false), (.int .i64 4)]), r9.2.1, (r9.2.2 + 4)))
    else
    (some ((.tuple [(.slice none 0 false), (.int .i64 x2)]), r9.2.1, (r9.2.2 + 3)))) := by kernel_rfl

theorem F41_L1_eq (call : YldF → CallF) (Y : YldF) (lf : Nat) (n0 : Nat) (x0a : Option (Nat × Nat)) (x0n : Nat) (x0c : Bool) (x2 : Int) (x8a : Option (Nat × Nat)) (x8n : Nat) (x8c : Bool) (x14a : Option (Nat × Nat)) (x14n : Nat) (x14c : Bool) (x15 : Int) (x16 : Int) (h : AHeap) (nx : Nat) : F41_L1 call Y lf (n0 + 1) x0a x0n x0c x2 x8a x8n x8c x14a x14n x14c x15 x16 h nx =
    if (decide ((x16 : Int) < x15)) = true then
    ((x14a).bind fun p1 =>
    if 0 ≤ (x16 : Int) ∧ x16 < ((x14n : Nat) : Int) then
    ((ldA h p1.1 (p1.2 + Int.toNat x16 * 1)).bind fun v2 =>
    (asI .i64 v2).bind fun n3 =>
    if (decide ((n3 : Int) ≥ 0)) = true then
    (if (decide ((n3 : Int) < ((x0n : Nat) : Int))) = true then
    ((x8a).bind fun p4 =>
    if 0 ≤ (n3 : Int) ∧ n3 < ((x8n : Nat) : Int) then
    ((stA h p4.1 (p4.2 + Int.toNat n3 * 1) (.bool true) 1).bind fun b5 =>
    let h6 := AHeap.put h p4.1 (some b5)
    F41_L1 call Y lf n0 x0a x0n x0c x2 x8a x8n x8c x14a x14n x14c x15 (wrapA .i64 (x16 + 1)) h6 (nx + 18))
    else none)
    else
    (F41_L1 call Y lf n0 x0a x0n x0c x2 x8a x8n x8c x14a x14n x14c x15 (wrapA .i64 (x16 + 1)) h (nx + 14)))
    else
    (F41_L1 call Y lf n0 x0a x0n x0c x2 x8a x8n x8c x14a x14n x14c x15 (wrapA .i64 (x16 + 1)) h (nx + 14)))
    else none)
    else
    ((call Y 43 [(.slice x0a x0n x0c), (.slice x8a x8n x8c)] h (nx + 6)).bind fun r7 =>
    (asSl r7.1).bind fun s8 =>
    (call Y 42 [(.slice s8.1 s8.2.1 s8.2.2)] r7.2.1 r7.2.2).bind fun r9 =>
    (asB r9.1).bind fun t10 =>
    if (!t10) = true then
    (some ((.tuple [(.slice none 0 false), (.int .i64 4)]), r9.2.1, (r9.2.2 + 4)))
    else
    (some ((.tuple [(.slice none 0 false), (.int .i64 x2)]), r9.2.1, (r9.2.2 + 3)))) := F41_L1_eq' go1 call Y lf n0 x0a x0n x0c x2 x8a x8n x8c x14a x14n x14c x15 x16 h nx

theorem F41_L1_zero (call : YldF → CallF) (Y : YldF) (lf : Nat) (x0a : Option (Nat × Nat)) (x0n : Nat) (x0c : Bool) (x2 : Int) (x8a : Option (Nat × Nat)) (x8n : Nat) (x8c : Bool) (x14a : Option (Nat × Nat)) (x14n : Nat) (x14c : Bool) (x15 : Int) (x16 : Int) (h : AHeap) (nx : Nat) : F41_L1 call Y lf 0 x0a x0n x0c x2 x8a x8n x8c x14a x14n x14c x15 x16 h nx = none := by kernel_rfl

theorem F41_eq' (J : StepF (AV × AHeap × Nat) → StepF (AV × AHeap × Nat)) (n : Nat) (Y : YldF) (x0a : Option (Nat × Nat)) (x0n : Nat) (x0c : Bool) (x1a : Option (Nat × Nat)) (x1n : Nat) (x1c : Bool) (x2 : Int) (h : AHeap) (nx : Nat) : rootJ J Try.prog keepT (callP Try.prog keepT n) Y n 41 [(.slice x0a x0n x0c), (.slice x1a x1n x1c), (.int .i64 x2)] h nx =
    if (decide (0 ≤ (((x0n : Nat) : Int) : Int)) && decide ((((x0n : Nat) : Int) : Int) ≤ ((x0n : Nat) : Int)) && decide (((1 : Nat) : Int) * ((x0n : Nat) : Int) ≤ 281474976710656) && decide ((((x0n : Nat) : Int) : Int) ≤ 9223372036854775807) && 1 != 0) = true then
    (let h1 := AHeap.put h (nx + 4) (some ⟨(madeA [(.bool false)] (Int.toNat ((x0n : Nat) : Int) * 1)), 1, true⟩)
    F41_L1' J J (callP Try.prog keepT n) Y n n x0a x0n x0c x2 (some ((nx + 4), 0)) (Int.toNat ((x0n : Nat) : Int)) (((x0n : Nat) : Int) == ((x0n : Nat) : Int)) x1a x1n x1c ((x1n : Nat) : Int) 0 h1 (nx + 9))
    else none := by kernel_rfl

/-- quickset/par.refused -/
theorem F41_eq (n : Nat) (Y : YldF) (x0a : Option (Nat × Nat)) (x0n : Nat) (x0c : Bool) (x1a : Option (Nat × Nat)) (x1n : Nat) (x1c : Bool) (x2 : Int) (h : AHeap) (nx : Nat) : callP Try.prog keepT (n + 1) Y 41 [(.slice x0a x0n x0c), (.slice x1a x1n x1c), (.int .i64 x2)] h nx =
    if (decide (0 ≤ (((x0n : Nat) : Int) : Int)) && decide ((((x0n : Nat) : Int) : Int) ≤ ((x0n : Nat) : Int)) && decide (((1 : Nat) : Int) * ((x0n : Nat) : Int) ≤ 281474976710656) && decide ((((x0n : Nat) : Int) : Int) ≤ 9223372036854775807) && 1 != 0) = true then
    (let h1 := AHeap.put h (nx + 4) (some ⟨(madeA [(.bool false)] (Int.toNat ((x0n : Nat) : Int) * 1)), 1, true⟩)
    F41_L1 (callP Try.prog keepT n) Y n n x0a x0n x0c x2 (some ((nx + 4), 0)) (Int.toNat ((x0n : Nat) : Int)) (((x0n : Nat) : Int) == ((x0n : Nat) : Int)) x1a x1n x1c ((x1n : Nat) : Int) 0 h1 (nx + 9))
    else none := F41_eq' go1 n Y x0a x0n x0c x1a x1n x1c x2 h nx

noncomputable def c42 : Code := (Try.f42.body).getD .skip

noncomputable def r42 : List ResultVar := Try.f42.results.toList

theorem F42_eq' (J : StepF (AV × AHeap × Nat) → StepF (AV × AHeap × Nat)) (n : Nat) (Y : YldF) (x0a : Option (Nat × Nat)) (x0n : Nat) (x0c : Bool) (h : AHeap) (nx : Nat) : rootJ J Try.prog keepT (callP Try.prog keepT n) Y n 42 [(.slice x0a x0n x0c)] h nx =
    let h1 := AHeap.put h nx (some ⟨[(.slice x0a x0n x0c)], 1, true⟩)
    (ldA h1 nx 0).bind fun v2 =>
    (asSl v2).bind fun s3 =>
    ((callP Try.prog keepT n) Y 47 [(.slice s3.1 s3.2.1 s3.2.2), (.fn 48 [] [(.ptr (some (nx, 0)))])] h1 (nx + 7)).bind fun r4 =>
    (asB r4.1).bind fun t5 =>
    some ((.bool (!t5)), r4.2.1, r4.2.2) := by kernel_rfl

/-- quickset/par.even -/
theorem F42_eq (n : Nat) (Y : YldF) (x0a : Option (Nat × Nat)) (x0n : Nat) (x0c : Bool) (h : AHeap) (nx : Nat) : callP Try.prog keepT (n + 1) Y 42 [(.slice x0a x0n x0c)] h nx =
    let h1 := AHeap.put h nx (some ⟨[(.slice x0a x0n x0c)], 1, true⟩)
    (ldA h1 nx 0).bind fun v2 =>
    (asSl v2).bind fun s3 =>
    ((callP Try.prog keepT n) Y 47 [(.slice s3.1 s3.2.1 s3.2.2), (.fn 48 [] [(.ptr (some (nx, 0)))])] h1 (nx + 7)).bind fun r4 =>
    (asB r4.1).bind fun t5 =>
    some ((.bool (!t5)), r4.2.1, r4.2.2) := F42_eq' go1 n Y x0a x0n x0c h nx

noncomputable def c43 : Code := (Try.f43.body).getD .skip

noncomputable def r43 : List ResultVar := Try.f43.results.toList

noncomputable def F43_L1' (W J : StepF (AV × AHeap × Nat) → StepF (AV × AHeap × Nat)) (call : YldF → CallF) (Y : YldF) (lf : Nat) (n0 : Nat) (x1a : Option (Nat × Nat)) (x1n : Nat) (x1c : Bool) (x5a : Option (Nat × Nat)) (x5n : Nat) (x5c : Bool) (x8a : Option (Nat × Nat)) (x8n : Nat) (x8c : Bool) (x9 : Int) (x10 : Int) (h : AHeap) (nx : Nat) : Option (AV × AHeap × Nat) :=
  goK W J drawK (machOf Try.prog) call Y (keepT 43) lf c43 [1, 1, 0, 1, 0, 9] [n0] (retK (machOf Try.prog) ⟨c43, 26, r43, keepT 43⟩) ⟨26, mkL [(1, (.slice x1a x1n x1c)), (5, (.slice x5a x5n x5c)), (8, (.slice x8a x8n x8c)), (9, (.int .i64 x9)), (10, (.int .i64 x10))]⟩ h nx

noncomputable def F43_L1 (call : YldF → CallF) (Y : YldF) (lf : Nat) (n0 : Nat) (x1a : Option (Nat × Nat)) (x1n : Nat) (x1c : Bool) (x5a : Option (Nat × Nat)) (x5n : Nat) (x5c : Bool) (x8a : Option (Nat × Nat)) (x8n : Nat) (x8c : Bool) (x9 : Int) (x10 : Int) (h : AHeap) (nx : Nat) : Option (AV × AHeap × Nat) := F43_L1' go1 go1 call Y lf n0 x1a x1n x1c x5a x5n x5c x8a x8n x8c x9 x10 h nx

theorem F43_L1_eq' (J : StepF (AV × AHeap × Nat) → StepF (AV × AHeap × Nat)) (call : YldF → CallF) (Y : YldF) (lf : Nat) (n0 : Nat) (x1a : Option (Nat × Nat)) (x1n : Nat) (x1c : Bool) (x5a : Option (Nat × Nat)) (x5n : Nat) (x5c : Bool) (x8a : Option (Nat × Nat)) (x8n : Nat) (x8c : Bool) (x9 : Int) (x10 : Int) (h : AHeap) (nx : Nat) : F43_L1' go1 J call Y lf (n0 + 1) x1a x1n x1c x5a x5n x5c x8a x8n x8c x9 x10 h nx =
    if (decide ((x10 : Int) < x9)) = true then
    ((x8a).bind fun p1 =>
    if 0 ≤ (x10 : Int) ∧ x10 < ((x8n : Nat) : Int) then
    ((ldA h p1.1 (p1.2 + Int.toNat x10 * 1)).bind fun v2 =>
    (asSl v2).bind fun s3 =>
    (x1a).bind fun p4 =>
    if 0 ≤ (x10 : Int) ∧ x10 < ((x1n : Nat) : Int) then
    ((ldA h p4.1 (p4.2 + Int.toNat x10 * 1)).bind fun v5 =>
    (asB v5).bind fun t6 =>
    if (!t6) = true then
    (let h7 := AHeap.put h (nx + 13) (some ⟨[(.slice s3.1 s3.2.1 s3.2.2)], 1, true⟩)
    (srcS h7 (some ((nx + 13), 0)) 1 1).bind fun q8 =>
    (appD h7 x5a x5n x5c 1 24 (nx + 14) q8).bind fun e9 =>
    let h10 := AHeap.puts h7 e9.sets
    F43_L1' J J call Y lf n0 x1a x1n x1c e9.a e9.n e9.c x8a x8n x8c x9 (wrapA .i64 (x10 + 1)) h10 (nx + 18))
    else
    (F43_L1' J J call Y lf n0 x1a x1n x1c x5a x5n x5c x8a x8n x8c x9 (wrapA .i64 (x10 + 1)) h (nx + 13)))
    else none)
    else none)
    else
    (some ((.slice x5a x5n x5c), h, (nx + 3))) := by kernel_rfl

theorem F43_L1_eq (call : YldF → CallF) (Y : YldF) (lf : Nat) (n0 : Nat) (x1a : Option (Nat × Nat)) (x1n : Nat) (x1c : Bool) (x5a : Option (Nat × Nat)) (x5n : Nat) (x5c : Bool) (x8a : Option (Nat × Nat)) (x8n : Nat) (x8c : Bool) (x9 : Int) (x10 : Int) (h : AHeap) (nx : Nat) : F43_L1 call Y lf (n0 + 1) x1a x1n x1c x5a x5n x5c x8a x8n x8c x9 x10 h nx =
    if (decide ((x10 : Int) < x9)) = true then
    ((x8a).bind fun p1 =>
    if 0 ≤ (x10 : Int) ∧ x10 < ((x8n : Nat) : Int) then
    ((ldA h p1.1 (p1.2 + Int.toNat x10 * 1)).bind fun v2 =>
    (asSl v2).bind fun s3 =>
    (x1a).bind fun p4 =>
    if 0 ≤ (x10 : Int) ∧ x10 < ((x1n : Nat) : Int) then
    ((ldA h p4.1 (p4.2 + Int.toNat x10 * 1)).bind fun v5 =>
    (asB v5).bind fun t6 =>
    if (!t6) = true then
    (let h7 := AHeap.put h (nx + 13) (some ⟨[(.slice s3.1 s3.2.1 s3.2.2)], 1, true⟩)
    (srcS h7 (some ((nx + 13), 0)) 1 1).bind fun q8 =>
    (appD h7 x5a x5n x5c 1 24 (nx + 14) q8).bind fun e9 =>
    let h10 := AHeap.puts h7 e9.sets
    F43_L1 call Y lf n0 x1a x1n x1c e9.a e9.n e9.c x8a x8n x8c x9 (wrapA .i64 (x10 + 1)) h10 (nx + 18))
    else
    (F43_L1 call Y lf n0 x1a x1n x1c x5a x5n x5c x8a x8n x8c x9 (wrapA .i64 (x10 + 1)) h (nx + 13)))
    else none)
    else none)
    else
    (some ((.slice x5a x5n x5c), h, (nx + 3))) := F43_L1_eq' go1 call Y lf n0 x1a x1n x1c x5a x5n x5c x8a x8n x8c x9 x10 h nx

theorem F43_L1_zero (call : YldF → CallF) (Y : YldF) (lf : Nat) (x1a : Option (Nat × Nat)) (x1n : Nat) (x1c : Bool) (x5a : Option (Nat × Nat)) (x5n : Nat) (x5c : Bool) (x8a : Option (Nat × Nat)) (x8n : Nat) (x8c : Bool) (x9 : Int) (x10 : Int) (h : AHeap) (nx : Nat) : F43_L1 call Y lf 0 x1a x1n x1c x5a x5n x5c x8a x8n x8c x9 x10 h nx = none := by kernel_rfl

theorem F43_eq' (J : StepF (AV × AHeap × Nat) → StepF (AV × AHeap × Nat)) (n : Nat) (Y : YldF) (x0a : Option (Nat × Nat)) (x0n : Nat) (x0c : Bool) (x1a : Option (Nat × Nat)) (x1n : Nat) (x1c : Bool) (h : AHeap) (nx : Nat) : rootJ J Try.prog keepT (callP Try.prog keepT n) Y n 43 [(.slice x0a x0n x0c), (.slice x1a x1n x1c)] h nx =
    F43_L1' J J (callP Try.prog keepT n) Y n n x1a x1n x1c none 0 false x0a x0n x0c ((x0n : Nat) : Int) 0 h (nx + 5) := by kernel_rfl

/-- quickset/par.left -/
theorem F43_eq (n : Nat) (Y : YldF) (x0a : Option (Nat × Nat)) (x0n : Nat) (x0c : Bool) (x1a : Option (Nat × Nat)) (x1n : Nat) (x1c : Bool) (h : AHeap) (nx : Nat) : callP Try.prog keepT (n + 1) Y 43 [(.slice x0a x0n x0c), (.slice x1a x1n x1c)] h nx =
    F43_L1 (callP Try.prog keepT n) Y n n x1a x1n x1c none 0 false x0a x0n x0c ((x0n : Nat) : Int) 0 h (nx + 5) := F43_eq' go1 n Y x0a x0n x0c x1a x1n x1c h nx

noncomputable def c44 : Code := (Try.f44.body).getD .skip

noncomputable def r44 : List ResultVar := Try.f44.results.toList

noncomputable def F44_L1' (W J : StepF (AV × AHeap × Nat) → StepF (AV × AHeap × Nat)) (call : YldF → CallF) (Y : YldF) (lf : Nat) (n0 : Nat) (x0a : Option (Nat × Nat)) (x0n : Nat) (x0c : Bool) (x1 : Int) (x2a : Option (Nat × Nat)) (x2n : Nat) (x2c : Bool) (x7 : Int) (x8a : Option (Nat × Nat)) (x8n : Nat) (x8c : Bool) (x9a : Option (Nat × Nat)) (x9n : Nat) (x9c : Bool) (x10a : Option (Nat × Nat)) (x10n : Nat) (x10c : Bool) (x24a : Option (Nat × Nat)) (x24n : Nat) (x24c : Bool) (x25 : Int) (x26 : Int) (h : AHeap) (nx : Nat) : Option (AV × AHeap × Nat) :=
  goK W J drawK (machOf Try.prog) call Y (keepT 44) lf c44 [1, 1, 1, 1, 0, 1, 0, 9] [n0] (retK (machOf Try.prog) ⟨c44, 108, r44, keepT 44⟩) ⟨108, mkL [(0, (.slice x0a x0n x0c)), (1, (.int .i64 x1)), (2, (.slice x2a x2n x2c)), (7, (.int .i64 x7)), (8, (.slice x8a x8n x8c)), (9, (.slice x9a x9n x9c)), (10, (.slice x10a x10n x10c)), (24, (.slice x24a x24n x24c)), (25, (.int .i64 x25)), (26, (.int .i64 x26))]⟩ h nx

noncomputable def F44_L1 (call : YldF → CallF) (Y : YldF) (lf : Nat) (n0 : Nat) (x0a : Option (Nat × Nat)) (x0n : Nat) (x0c : Bool) (x1 : Int) (x2a : Option (Nat × Nat)) (x2n : Nat) (x2c : Bool) (x7 : Int) (x8a : Option (Nat × Nat)) (x8n : Nat) (x8c : Bool) (x9a : Option (Nat × Nat)) (x9n : Nat) (x9c : Bool) (x10a : Option (Nat × Nat)) (x10n : Nat) (x10c : Bool) (x24a : Option (Nat × Nat)) (x24n : Nat) (x24c : Bool) (x25 : Int) (x26 : Int) (h : AHeap) (nx : Nat) : Option (AV × AHeap × Nat) := F44_L1' go1 go1 call Y lf n0 x0a x0n x0c x1 x2a x2n x2c x7 x8a x8n x8c x9a x9n x9c x10a x10n x10c x24a x24n x24c x25 x26 h nx

noncomputable def F44_L2' (W J : StepF (AV × AHeap × Nat) → StepF (AV × AHeap × Nat)) (call : YldF → CallF) (Y : YldF) (lf : Nat) (n0 : Nat) (x0a : Option (Nat × Nat)) (x0n : Nat) (x0c : Bool) (x1 : Int) (x2a : Option (Nat × Nat)) (x2n : Nat) (x2c : Bool) (x8a : Option (Nat × Nat)) (x8n : Nat) (x8c : Bool) (x9a : Option (Nat × Nat)) (x9n : Nat) (x9c : Bool) (x10a : Option (Nat × Nat)) (x10n : Nat) (x10c : Bool) (x13 : Int) (h : AHeap) (nx : Nat) : Option (AV × AHeap × Nat) :=
  goK W J drawK (machOf Try.prog) call Y (keepT 44) lf c44 [1, 1, 1, 1, 1, 0, 1, 0, 9] [n0] (retK (machOf Try.prog) ⟨c44, 108, r44, keepT 44⟩) ⟨108, mkL [(0, (.slice x0a x0n x0c)), (1, (.int .i64 x1)), (2, (.slice x2a x2n x2c)), (8, (.slice x8a x8n x8c)), (9, (.slice x9a x9n x9c)), (10, (.slice x10a x10n x10c)), (13, (.int .i64 x13))]⟩ h nx

noncomputable def F44_L2 (call : YldF → CallF) (Y : YldF) (lf : Nat) (n0 : Nat) (x0a : Option (Nat × Nat)) (x0n : Nat) (x0c : Bool) (x1 : Int) (x2a : Option (Nat × Nat)) (x2n : Nat) (x2c : Bool) (x8a : Option (Nat × Nat)) (x8n : Nat) (x8c : Bool) (x9a : Option (Nat × Nat)) (x9n : Nat) (x9c : Bool) (x10a : Option (Nat × Nat)) (x10n : Nat) (x10c : Bool) (x13 : Int) (h : AHeap) (nx : Nat) : Option (AV × AHeap × Nat) := F44_L2' go1 go1 call Y lf n0 x0a x0n x0c x1 x2a x2n x2c x8a x8n x8c x9a x9n x9c x10a x10n x10c x13 h nx

noncomputable def F44_J3' (W J : StepF (AV × AHeap × Nat) → StepF (AV × AHeap × Nat)) (call : YldF → CallF) (Y : YldF) (lf : Nat) (n0 : Nat) (x0a : Option (Nat × Nat)) (x0n : Nat) (x0c : Bool) (x1 : Int) (x2a : Option (Nat × Nat)) (x2n : Nat) (x2c : Bool) (x8a : Option (Nat × Nat)) (x8n : Nat) (x8c : Bool) (x9a : Option (Nat × Nat)) (x9n : Nat) (x9c : Bool) (x10a : Option (Nat × Nat)) (x10n : Nat) (x10c : Bool) (x13 : Int) (h : AHeap) (nx : Nat) : Option (AV × AHeap × Nat) :=
  goK W J drawK (machOf Try.prog) call Y (keepT 44) lf c44 [1, 1, 1, 1, 1, 0, 1, 0, 0, 1] [n0] (retK (machOf Try.prog) ⟨c44, 108, r44, keepT 44⟩) ⟨108, mkL [(0, (.slice x0a x0n x0c)), (1, (.int .i64 x1)), (2, (.slice x2a x2n x2c)), (8, (.slice x8a x8n x8c)), (9, (.slice x9a x9n x9c)), (10, (.slice x10a x10n x10c)), (13, (.int .i64 x13))]⟩ h nx

noncomputable def F44_J3 (call : YldF → CallF) (Y : YldF) (lf : Nat) (n0 : Nat) (x0a : Option (Nat × Nat)) (x0n : Nat) (x0c : Bool) (x1 : Int) (x2a : Option (Nat × Nat)) (x2n : Nat) (x2c : Bool) (x8a : Option (Nat × Nat)) (x8n : Nat) (x8c : Bool) (x9a : Option (Nat × Nat)) (x9n : Nat) (x9c : Bool) (x10a : Option (Nat × Nat)) (x10n : Nat) (x10c : Bool) (x13 : Int) (h : AHeap) (nx : Nat) : Option (AV × AHeap × Nat) := F44_J3' go1 go1 call Y lf n0 x0a x0n x0c x1 x2a x2n x2c x8a x8n x8c x9a x9n x9c x10a x10n x10c x13 h nx

noncomputable def F44_J4' (W J : StepF (AV × AHeap × Nat) → StepF (AV × AHeap × Nat)) (call : YldF → CallF) (Y : YldF) (lf : Nat) (x0a : Option (Nat × Nat)) (x0n : Nat) (x0c : Bool) (x1 : Int) (x2a : Option (Nat × Nat)) (x2n : Nat) (x2c : Bool) (x8a : Option (Nat × Nat)) (x8n : Nat) (x8c : Bool) (x9a : Option (Nat × Nat)) (x9n : Nat) (x9c : Bool) (x10a : Option (Nat × Nat)) (x10n : Nat) (x10c : Bool) (h : AHeap) (nx : Nat) : Option (AV × AHeap × Nat) :=
  goK W J drawK (machOf Try.prog) call Y (keepT 44) lf c44 [1, 1, 1, 1, 1, 1] [] (retK (machOf Try.prog) ⟨c44, 108, r44, keepT 44⟩) ⟨108, mkL [(0, (.slice x0a x0n x0c)), (1, (.int .i64 x1)), (2, (.slice x2a x2n x2c)), (8, (.slice x8a x8n x8c)), (9, (.slice x9a x9n x9c)), (10, (.slice x10a x10n x10c))]⟩ h nx

noncomputable def F44_J4 (call : YldF → CallF) (Y : YldF) (lf : Nat) (x0a : Option (Nat × Nat)) (x0n : Nat) (x0c : Bool) (x1 : Int) (x2a : Option (Nat × Nat)) (x2n : Nat) (x2c : Bool) (x8a : Option (Nat × Nat)) (x8n : Nat) (x8c : Bool) (x9a : Option (Nat × Nat)) (x9n : Nat) (x9c : Bool) (x10a : Option (Nat × Nat)) (x10n : Nat) (x10c : Bool) (h : AHeap) (nx : Nat) : Option (AV × AHeap × Nat) := F44_J4' go1 go1 call Y lf x0a x0n x0c x1 x2a x2n x2c x8a x8n x8c x9a x9n x9c x10a x10n x10c h nx

noncomputable def F44_L5' (W J : StepF (AV × AHeap × Nat) → StepF (AV × AHeap × Nat)) (call : YldF → CallF) (Y : YldF) (lf : Nat) (n0 : Nat) (x0a : Option (Nat × Nat)) (x0n : Nat) (x0c : Bool) (x1 : Int) (x2a : Option (Nat × Nat)) (x2n : Nat) (x2c : Bool) (x8a : Option (Nat × Nat)) (x8n : Nat) (x8c : Bool) (x14 : Int) (h : AHeap) (nx : Nat) : Option (AV × AHeap × Nat) :=
  goK W J drawK (machOf Try.prog) call Y (keepT 44) lf c44 [1, 1, 1, 1, 1, 1, 1, 0, 1, 0, 9] [n0] (retK (machOf Try.prog) ⟨c44, 108, r44, keepT 44⟩) ⟨108, mkL [(0, (.slice x0a x0n x0c)), (1, (.int .i64 x1)), (2, (.slice x2a x2n x2c)), (8, (.slice x8a x8n x8c)), (14, (.int .i64 x14))]⟩ h nx

noncomputable def F44_L5 (call : YldF → CallF) (Y : YldF) (lf : Nat) (n0 : Nat) (x0a : Option (Nat × Nat)) (x0n : Nat) (x0c : Bool) (x1 : Int) (x2a : Option (Nat × Nat)) (x2n : Nat) (x2c : Bool) (x8a : Option (Nat × Nat)) (x8n : Nat) (x8c : Bool) (x14 : Int) (h : AHeap) (nx : Nat) : Option (AV × AHeap × Nat) := F44_L5' go1 go1 call Y lf n0 x0a x0n x0c x1 x2a x2n x2c x8a x8n x8c x14 h nx

theorem F44_L1_eq' (J : StepF (AV × AHeap × Nat) → StepF (AV × AHeap × Nat)) (call : YldF → CallF) (Y : YldF) (lf : Nat) (n0 : Nat) (x0a : Option (Nat × Nat)) (x0n : Nat) (x0c : Bool) (x1 : Int) (x2a : Option (Nat × Nat)) (x2n : Nat) (x2c : Bool) (x7 : Int) (x8a : Option (Nat × Nat)) (x8n : Nat) (x8c : Bool) (x9a : Option (Nat × Nat)) (x9n : Nat) (x9c : Bool) (x10a : Option (Nat × Nat)) (x10n : Nat) (x10c : Bool) (x24a : Option (Nat × Nat)) (x24n : Nat) (x24c : Bool) (x25 : Int) (x26 : Int) (h : AHeap) (nx : Nat) : F44_L1' go1 J call Y lf (n0 + 1) x0a x0n x0c x1 x2a x2n x2c x7 x8a x8n x8c x9a x9n x9c x10a x10n x10c x24a x24n x24c x25 x26 h nx =
    if (decide ((x26 : Int) < x25)) = true then
    ((x24a).bind fun p1 =>
    if 0 ≤ (x26 : Int) ∧ x26 < ((x24n : Nat) : Int) then
    ((ldA h p1.1 (p1.2 + Int.toNat x26 * 1)).bind fun v2 =>
    (asSl v2).bind fun s3 =>
    (x2a).bind fun p4 =>
    if 0 ≤ (x26 : Int) ∧ x26 < ((x2n : Nat) : Int) then
    ((ldA h p4.1 (p4.2 + Int.toNat x26 * 1)).bind fun v5 =>
    (asB v5).bind fun t6 =>
    if (!t6) = true then
    ((call Y 24 [(.slice s3.1 s3.2.1 s3.2.2)] h (nx + 18)).bind fun r7 =>
    (asSl r7.1).bind fun s8 =>
    (x8a).bind fun p9 =>
    if 0 ≤ (x26 : Int) ∧ x26 < ((x8n : Nat) : Int) then
    ((stA r7.2.1 p9.1 (p9.2 + Int.toNat x26 * 1) (.slice s8.1 s8.2.1 s8.2.2) 1).bind fun b10 =>
    let h11 := AHeap.put r7.2.1 p9.1 (some b10)
    F44_L1' J J call Y lf n0 x0a x0n x0c x1 x2a x2n x2c x7 x8a x8n x8c x9a x9n x9c x10a x10n x10c x24a x24n x24c x25 (wrapA .i64 (x26 + 1)) h11 (r7.2.2 + 2))
    else none)
    else
    (if (decide ((x26 : Int) < x1)) = true then
    (let h12 := AHeap.put h (nx + 20) (some ⟨[(.int .i64 x26)], 1, true⟩)
    (srcS h12 (some ((nx + 20), 0)) 1 1).bind fun q13 =>
    (appD h12 x9a x9n x9c 1 8 (nx + 21) q13).bind fun e14 =>
    let h15 := AHeap.puts h12 e14.sets
    if (decide (0 ≤ (x7 : Int)) && decide ((x7 : Int) ≤ x7) && decide (((1 : Nat) : Int) * x7 ≤ 281474976710656) && decide ((x7 : Int) ≤ 9223372036854775807) && 1 != 0) = true then
    (let h16 := AHeap.put h15 (nx + 23) (some ⟨(madeA [(.int .u8 0)] (Int.toNat x7 * 1)), 1, true⟩)
    (x8a).bind fun p17 =>
    if 0 ≤ (x26 : Int) ∧ x26 < ((x8n : Nat) : Int) then
    ((stA h16 p17.1 (p17.2 + Int.toNat x26 * 1) (.slice (some ((nx + 23), 0)) (Int.toNat x7) (x7 == x7)) 1).bind fun b18 =>
    let h19 := AHeap.put h16 p17.1 (some b18)
    ifApart [([(nx + 23)], e14.reads)]
    (F44_L1' J J call Y lf n0 x0a x0n x0c x1 x2a x2n x2c x7 x8a x8n x8c e14.a e14.n e14.c x10a x10n x10c x24a x24n x24c x25 (wrapA .i64 (x26 + 1)) h19 (nx + 29)))
    else none)
    else none)
    else
    (F44_L1' J J call Y lf n0 x0a x0n x0c x1 x2a x2n x2c x7 x8a x8n x8c x9a x9n x9c x10a x10n x10c x24a x24n x24c x25 (wrapA .i64 (x26 + 1)) h (nx + 18))))
    else none)
    else none)
    else
    (F44_L2' J J call Y lf lf x0a x0n x0c x1 x2a x2n x2c x8a x8n x8c x9a x9n x9c x10a x10n x10c x1 h (nx + 3)) := by kernel_rfl

theorem F44_L1_eq (call : YldF → CallF) (Y : YldF) (lf : Nat) (n0 : Nat) (x0a : Option (Nat × Nat)) (x0n : Nat) (x0c : Bool) (x1 : Int) (x2a : Option (Nat × Nat)) (x2n : Nat) (x2c : Bool) (x7 : Int) (x8a : Option (Nat × Nat)) (x8n : Nat) (x8c : Bool) (x9a : Option (Nat × Nat)) (x9n : Nat) (x9c : Bool) (x10a : Option (Nat × Nat)) (x10n : Nat) (x10c : Bool) (x24a : Option (Nat × Nat)) (x24n : Nat) (x24c : Bool) (x25 : Int) (x26 : Int) (h : AHeap) (nx : Nat) : F44_L1 call Y lf (n0 + 1) x0a x0n x0c x1 x2a x2n x2c x7 x8a x8n x8c x9a x9n x9c x10a x10n x10c x24a x24n x24c x25 x26 h nx =
    if (decide ((x26 : Int) < x25)) = true then
    ((x24a).bind fun p1 =>
    if 0 ≤ (x26 : Int) ∧ x26 < ((x24n : Nat) : Int) then
    ((ldA h p1.1 (p1.2 + Int.toNat x26 * 1)).bind fun v2 =>
    (asSl v2).bind fun s3 =>
    (x2a).bind fun p4 =>
    if 0 ≤ (x26 : Int) ∧ x26 < ((x2n : Nat) : Int) then
    ((ldA h p4.1 (p4.2 + Int.toNat x26 * 1)).bind fun v5 =>
    (asB v5).bind fun t6 =>
    if (!t6) = true then
    ((call Y 24 [(.slice s3.1 s3.2.1 s3.2.2)] h (nx + 18)).bind fun r7 =>
    (asSl r7.1).bind fun s8 =>
    (x8a).bind fun p9 =>
    if 0 ≤ (x26 : Int) ∧ x26 < ((x8n : Nat) : Int) then
    ((stA r7.2.1 p9.1 (p9.2 + Int.toNat x26 * 1) (.slice s8.1 s8.2.1 s8.2.2) 1).bind fun b10 =>
    let h11 := AHeap.put r7.2.1 p9.1 (some b10)
    F44_L1 call Y lf n0 x0a x0n x0c x1 x2a x2n x2c x7 x8a x8n x8c x9a x9n x9c x10a x10n x10c x24a x24n x24c x25 (wrapA .i64 (x26 + 1)) h11 (r7.2.2 + 2))
    else none)
    else
    (if (decide ((x26 : Int) < x1)) = true then
    (let h12 := AHeap.put h (nx + 20) (some ⟨[(.int .i64 x26)], 1, true⟩)
    (srcS h12 (some ((nx + 20), 0)) 1 1).bind fun q13 =>
    (appD h12 x9a x9n x9c 1 8 (nx + 21) q13).bind fun e14 =>
    let h15 := AHeap.puts h12 e14.sets
    if (decide (0 ≤ (x7 : Int)) && decide ((x7 : Int) ≤ x7) && decide (((1 : Nat) : Int) * x7 ≤ 281474976710656) && decide ((x7 : Int) ≤ 9223372036854775807) && 1 != 0) = true then
    (let h16 := AHeap.put h15 (nx + 23) (some ⟨(madeA [(.int .u8 0)] (Int.toNat x7 * 1)), 1, true⟩)
    (x8a).bind fun p17 =>
    if 0 ≤ (x26 : Int) ∧ x26 < ((x8n : Nat) : Int) then
    ((stA h16 p17.1 (p17.2 + Int.toNat x26 * 1) (.slice (some ((nx + 23), 0)) (Int.toNat x7) (x7 == x7)) 1).bind fun b18 =>
    let h19 := AHeap.put h16 p17.1 (some b18)
    ifApart [([(nx + 23)], e14.reads)]
    (F44_L1 call Y lf n0 x0a x0n x0c x1 x2a x2n x2c x7 x8a x8n x8c e14.a e14.n e14.c x10a x10n x10c x24a x24n x24c x25 (wrapA .i64 (x26 + 1)) h19 (nx + 29)))
    else none)
    else none)
    else
    (F44_L1 call Y lf n0 x0a x0n x0c x1 x2a x2n x2c x7 x8a x8n x8c x9a x9n x9c x10a x10n x10c x24a x24n x24c x25 (wrapA .i64 (x26 + 1)) h (nx + 18))))
    else none)
    else none)
    else
    (F44_L2 call Y lf lf x0a x0n x0c x1 x2a x2n x2c x8a x8n x8c x9a x9n x9c x10a x10n x10c x1 h (nx + 3)) := F44_L1_eq' go1 call Y lf n0 x0a x0n x0c x1 x2a x2n x2c x7 x8a x8n x8c x9a x9n x9c x10a x10n x10c x24a x24n x24c x25 x26 h nx

theorem F44_L1_zero (call : YldF → CallF) (Y : YldF) (lf : Nat) (x0a : Option (Nat × Nat)) (x0n : Nat) (x0c : Bool) (x1 : Int) (x2a : Option (Nat × Nat)) (x2n : Nat) (x2c : Bool) (x7 : Int) (x8a : Option (Nat × Nat)) (x8n : Nat) (x8c : Bool) (x9a : Option (Nat × Nat)) (x9n : Nat) (x9c : Bool) (x10a : Option (Nat × Nat)) (x10n : Nat) (x10c : Bool) (x24a : Option (Nat × Nat)) (x24n : Nat) (x24c : Bool) (x25 : Int) (x26 : Int) (h : AHeap) (nx : Nat) : F44_L1 call Y lf 0 x0a x0n x0c x1 x2a x2n x2c x7 x8a x8n x8c x9a x9n x9c x10a x10n x10c x24a x24n x24c x25 x26 h nx = none := by kernel_rfl

theorem F44_L2_eq' (J : StepF (AV × AHeap × Nat) → StepF (AV × AHeap × Nat)) (call : YldF → CallF) (Y : YldF) (lf : Nat) (n0 : Nat) (x0a : Option (Nat × Nat)) (x0n : Nat) (x0c : Bool) (x1 : Int) (x2a : Option (Nat × Nat)) (x2n : Nat) (x2c : Bool) (x8a : Option (Nat × Nat)) (x8n : Nat) (x8c : Bool) (x9a : Option (Nat × Nat)) (x9n : Nat) (x9c : Bool) (x10a : Option (Nat × Nat)) (x10n : Nat) (x10c : Bool) (x13 : Int) (h : AHeap) (nx : Nat) : F44_L2' go1 J call Y lf (n0 + 1) x0a x0n x0c x1 x2a x2n x2c x8a x8n x8c x9a x9n x9c x10a x10n x10c x13 h nx =
    if (decide ((x13 : Int) < ((x0n : Nat) : Int))) = true then
    (if (decide ((((x10n : Nat) : Int) : Int) < ((x9n : Nat) : Int))) = true then
    (F44_J3' J J call Y lf n0 x0a x0n x0c x1 x2a x2n x2c x8a x8n x8c x9a x9n x9c x10a x10n x10c x13 h (nx + 11))
    else
    (F44_J4' J J call Y lf x0a x0n x0c x1 x2a x2n x2c x8a x8n x8c x9a x9n x9c x10a x10n x10c h (nx + 11)))
    else
    (F44_J4' J J call Y lf x0a x0n x0c x1 x2a x2n x2c x8a x8n x8c x9a x9n x9c x10a x10n x10c h (nx + 11)) := by kernel_rfl

theorem F44_L2_eq (call : YldF → CallF) (Y : YldF) (lf : Nat) (n0 : Nat) (x0a : Option (Nat × Nat)) (x0n : Nat) (x0c : Bool) (x1 : Int) (x2a : Option (Nat × Nat)) (x2n : Nat) (x2c : Bool) (x8a : Option (Nat × Nat)) (x8n : Nat) (x8c : Bool) (x9a : Option (Nat × Nat)) (x9n : Nat) (x9c : Bool) (x10a : Option (Nat × Nat)) (x10n : Nat) (x10c : Bool) (x13 : Int) (h : AHeap) (nx : Nat) : F44_L2 call Y lf (n0 + 1) x0a x0n x0c x1 x2a x2n x2c x8a x8n x8c x9a x9n x9c x10a x10n x10c x13 h nx =
    if (decide ((x13 : Int) < ((x0n : Nat) : Int))) = true then
    (if (decide ((((x10n : Nat) : Int) : Int) < ((x9n : Nat) : Int))) = true then
    (F44_J3 call Y lf n0 x0a x0n x0c x1 x2a x2n x2c x8a x8n x8c x9a x9n x9c x10a x10n x10c x13 h (nx + 11))
    else
    (F44_J4 call Y lf x0a x0n x0c x1 x2a x2n x2c x8a x8n x8c x9a x9n x9c x10a x10n x10c h (nx + 11)))
    else
    (F44_J4 call Y lf x0a x0n x0c x1 x2a x2n x2c x8a x8n x8c x9a x9n x9c x10a x10n x10c h (nx + 11)) := F44_L2_eq' go1 call Y lf n0 x0a x0n x0c x1 x2a x2n x2c x8a x8n x8c x9a x9n x9c x10a x10n x10c x13 h nx

theorem F44_L2_zero (call : YldF → CallF) (Y : YldF) (lf : Nat) (x0a : Option (Nat × Nat)) (x0n : Nat) (x0c : Bool) (x1 : Int) (x2a : Option (Nat × Nat)) (x2n : Nat) (x2c : Bool) (x8a : Option (Nat × Nat)) (x8n : Nat) (x8c : Bool) (x9a : Option (Nat × Nat)) (x9n : Nat) (x9c : Bool) (x10a : Option (Nat × Nat)) (x10n : Nat) (x10c : Bool) (x13 : Int) (h : AHeap) (nx : Nat) : F44_L2 call Y lf 0 x0a x0n x0c x1 x2a x2n x2c x8a x8n x8c x9a x9n x9c x10a x10n x10c x13 h nx = none := by kernel_rfl

theorem F44_J3_eq' (J : StepF (AV × AHeap × Nat) → StepF (AV × AHeap × Nat)) (call : YldF → CallF) (Y : YldF) (lf : Nat) (n0 : Nat) (x0a : Option (Nat × Nat)) (x0n : Nat) (x0c : Bool) (x1 : Int) (x2a : Option (Nat × Nat)) (x2n : Nat) (x2c : Bool) (x8a : Option (Nat × Nat)) (x8n : Nat) (x8c : Bool) (x9a : Option (Nat × Nat)) (x9n : Nat) (x9c : Bool) (x10a : Option (Nat × Nat)) (x10n : Nat) (x10c : Bool) (x13 : Int) (h : AHeap) (nx : Nat) : F44_J3' go1 J call Y lf n0 x0a x0n x0c x1 x2a x2n x2c x8a x8n x8c x9a x9n x9c x10a x10n x10c x13 h nx =
    (x2a).bind fun p1 =>
    if 0 ≤ (x13 : Int) ∧ x13 < ((x2n : Nat) : Int) then
    ((ldA h p1.1 (p1.2 + Int.toNat x13 * 1)).bind fun v2 =>
    (asB v2).bind fun t3 =>
    if (!t3) = true then
    (let h4 := AHeap.put h (nx + 9) (some ⟨[(.int .i64 (wrapA .i64 (x13 - x1)))], 1, true⟩)
    (srcS h4 (some ((nx + 9), 0)) 1 1).bind fun q5 =>
    (appD h4 x10a x10n x10c 1 8 (nx + 10) q5).bind fun e6 =>
    let h7 := AHeap.puts h4 e6.sets
    F44_L2' J J call Y lf n0 x0a x0n x0c x1 x2a x2n x2c x8a x8n x8c x9a x9n x9c e6.a e6.n e6.c (wrapA .i64 (x13 + 1)) h7 (nx + 15))
    else
    (F44_L2' J J call Y lf n0 x0a x0n x0c x1 x2a x2n x2c x8a x8n x8c x9a x9n x9c x10a x10n x10c (wrapA .i64 (x13 + 1)) h (nx + 8)))
    else none := by kernel_rfl

theorem F44_J3_eq (call : YldF → CallF) (Y : YldF) (lf : Nat) (n0 : Nat) (x0a : Option (Nat × Nat)) (x0n : Nat) (x0c : Bool) (x1 : Int) (x2a : Option (Nat × Nat)) (x2n : Nat) (x2c : Bool) (x8a : Option (Nat × Nat)) (x8n : Nat) (x8c : Bool) (x9a : Option (Nat × Nat)) (x9n : Nat) (x9c : Bool) (x10a : Option (Nat × Nat)) (x10n : Nat) (x10c : Bool) (x13 : Int) (h : AHeap) (nx : Nat) : F44_J3 call Y lf n0 x0a x0n x0c x1 x2a x2n x2c x8a x8n x8c x9a x9n x9c x10a x10n x10c x13 h nx =
    (x2a).bind fun p1 =>
    if 0 ≤ (x13 : Int) ∧ x13 < ((x2n : Nat) : Int) then
    ((ldA h p1.1 (p1.2 + Int.toNat x13 * 1)).bind fun v2 =>
    (asB v2).bind fun t3 =>
    if (!t3) = true then
    (let h4 := AHeap.put h (nx + 9) (some ⟨[(.int .i64 (wrapA .i64 (x13 - x1)))], 1, true⟩)
    (srcS h4 (some ((nx + 9), 0)) 1 1).bind fun q5 =>
    (appD h4 x10a x10n x10c 1 8 (nx + 10) q5).bind fun e6 =>
    let h7 := AHeap.puts h4 e6.sets
    F44_L2 call Y lf n0 x0a x0n x0c x1 x2a x2n x2c x8a x8n x8c x9a x9n x9c e6.a e6.n e6.c (wrapA .i64 (x13 + 1)) h7 (nx + 15))
    else
    (F44_L2 call Y lf n0 x0a x0n x0c x1 x2a x2n x2c x8a x8n x8c x9a x9n x9c x10a x10n x10c (wrapA .i64 (x13 + 1)) h (nx + 8)))
    else none := F44_J3_eq' go1 call Y lf n0 x0a x0n x0c x1 x2a x2n x2c x8a x8n x8c x9a x9n x9c x10a x10n x10c x13 h nx

theorem F44_J4_eq' (J : StepF (AV × AHeap × Nat) → StepF (AV × AHeap × Nat)) (call : YldF → CallF) (Y : YldF) (lf : Nat) (x0a : Option (Nat × Nat)) (x0n : Nat) (x0c : Bool) (x1 : Int) (x2a : Option (Nat × Nat)) (x2n : Nat) (x2c : Bool) (x8a : Option (Nat × Nat)) (x8n : Nat) (x8c : Bool) (x9a : Option (Nat × Nat)) (x9n : Nat) (x9c : Bool) (x10a : Option (Nat × Nat)) (x10n : Nat) (x10c : Bool) (h : AHeap) (nx : Nat) : F44_J4' go1 J call Y lf x0a x0n x0c x1 x2a x2n x2c x8a x8n x8c x9a x9n x9c x10a x10n x10c h nx =
    (call Y 49 [(.slice x8a x8n x8c), (.int .i64 x1), (.slice x9a x9n x9c), (.slice x10a x10n x10c)] h (nx + 5)).bind fun r1 =>
    (asTup 0 r1.1).bind fun d2 =>
    F44_L5' J J call Y lf lf x0a x0n x0c x1 x2a x2n x2c x8a x8n x8c x1 r1.2.1 (r1.2.2 + 2) := by kernel_rfl

theorem F44_J4_eq (call : YldF → CallF) (Y : YldF) (lf : Nat) (x0a : Option (Nat × Nat)) (x0n : Nat) (x0c : Bool) (x1 : Int) (x2a : Option (Nat × Nat)) (x2n : Nat) (x2c : Bool) (x8a : Option (Nat × Nat)) (x8n : Nat) (x8c : Bool) (x9a : Option (Nat × Nat)) (x9n : Nat) (x9c : Bool) (x10a : Option (Nat × Nat)) (x10n : Nat) (x10c : Bool) (h : AHeap) (nx : Nat) : F44_J4 call Y lf x0a x0n x0c x1 x2a x2n x2c x8a x8n x8c x9a x9n x9c x10a x10n x10c h nx =
    (call Y 49 [(.slice x8a x8n x8c), (.int .i64 x1), (.slice x9a x9n x9c), (.slice x10a x10n x10c)] h (nx + 5)).bind fun r1 =>
    (asTup 0 r1.1).bind fun d2 =>
    F44_L5 call Y lf lf x0a x0n x0c x1 x2a x2n x2c x8a x8n x8c x1 r1.2.1 (r1.2.2 + 2) := F44_J4_eq' go1 call Y lf x0a x0n x0c x1 x2a x2n x2c x8a x8n x8c x9a x9n x9c x10a x10n x10c h nx

theorem F44_L5_eq' (J : StepF (AV × AHeap × Nat) → StepF (AV × AHeap × Nat)) (call : YldF → CallF) (Y : YldF) (lf : Nat) (n0 : Nat) (x0a : Option (Nat × Nat)) (x0n : Nat) (x0c : Bool) (x1 : Int) (x2a : Option (Nat × Nat)) (x2n : Nat) (x2c : Bool) (x8a : Option (Nat × Nat)) (x8n : Nat) (x8c : Bool) (x14 : Int) (h : AHeap) (nx : Nat) : F44_L5' go1 J call Y lf (n0 + 1) x0a x0n x0c x1 x2a x2n x2c x8a x8n x8c x14 h nx =
    if (decide ((x14 : Int) < ((x0n : Nat) : Int))) = true then
    ((x2a).bind fun p1 =>
    if 0 ≤ (x14 : Int) ∧ x14 < ((x2n : Nat) : Int) then
    ((ldA h p1.1 (p1.2 + Int.toNat x14 * 1)).bind fun v2 =>
    (asB v2).bind fun t3 =>
    if t3 = true then
    ((cutA h x8a x8n x8c 1 none (some (.int .i64 x1)) none).bind fun s4 =>
    (call Y 37 [(.slice s4.1 s4.2.1 s4.2.2), (.int .i64 (wrapA .i64 (x14 - x1)))] h (nx + 19)).bind fun r5 =>
    (asSl r5.1).bind fun s6 =>
    (x8a).bind fun p7 =>
    if 0 ≤ (x14 : Int) ∧ x14 < ((x8n : Nat) : Int) then
    ((stA r5.2.1 p7.1 (p7.2 + Int.toNat x14 * 1) (.slice s6.1 s6.2.1 s6.2.2) 1).bind fun b8 =>
    let h9 := AHeap.put r5.2.1 p7.1 (some b8)
    F44_L5' J J call Y lf n0 x0a x0n x0c x1 x2a x2n x2c x8a x8n x8c (wrapA .i64 (x14 + 1)) h9 (r5.2.2 + 3))
    else none)
    else
    (F44_L5' J J call Y lf n0 x0a x0n x0c x1 x2a x2n x2c x8a x8n x8c (wrapA .i64 (x14 + 1)) h (nx + 11)))
    else none)
    else
    (some ((.slice x8a x8n x8c), h, (nx + 6))) := by kernel_rfl

theorem F44_L5_eq (call : YldF → CallF) (Y : YldF) (lf : Nat) (n0 : Nat) (x0a : Option (Nat × Nat)) (x0n : Nat) (x0c : Bool) (x1 : Int) (x2a : Option (Nat × Nat)) (x2n : Nat) (x2c : Bool) (x8a : Option (Nat × Nat)) (x8n : Nat) (x8c : Bool) (x14 : Int) (h : AHeap) (nx : Nat) : F44_L5 call Y lf (n0 + 1) x0a x0n x0c x1 x2a x2n x2c x8a x8n x8c x14 h nx =
    if (decide ((x14 : Int) < ((x0n : Nat) : Int))) = true then
    ((x2a).bind fun p1 =>
    if 0 ≤ (x14 : Int) ∧ x14 < ((x2n : Nat) : Int) then
    ((ldA h p1.1 (p1.2 + Int.toNat x14 * 1)).bind fun v2 =>
    (asB v2).bind fun t3 =>
    if t3 = true then
    ((cutA h x8a x8n x8c 1 none (some (.int .i64 x1)) none).bind fun s4 =>
    (call Y 37 [(.slice s4.1 s4.2.1 s4.2.2), (.int .i64 (wrapA .i64 (x14 - x1)))] h (nx + 19)).bind fun r5 =>
    (asSl r5.1).bind fun s6 =>
    (x8a).bind fun p7 =>
    if 0 ≤ (x14 : Int) ∧ x14 < ((x8n : Nat) : Int) then
    ((stA r5.2.1 p7.1 (p7.2 + Int.toNat x14 * 1) (.slice s6.1 s6.2.1 s6.2.2) 1).bind fun b8 =>
    let h9 := AHeap.put r5.2.1 p7.1 (some b8)
    F44_L5 call Y lf n0 x0a x0n x0c x1 x2a x2n x2c x8a x8n x8c (wrapA .i64 (x14 + 1)) h9 (r5.2.2 + 3))
    else none)
    else
    (F44_L5 call Y lf n0 x0a x0n x0c x1 x2a x2n x2c x8a x8n x8c (wrapA .i64 (x14 + 1)) h (nx + 11)))
    else none)
    else
    (some ((.slice x8a x8n x8c), h, (nx + 6))) := F44_L5_eq' go1 call Y lf n0 x0a x0n x0c x1 x2a x2n x2c x8a x8n x8c x14 h nx

theorem F44_L5_zero (call : YldF → CallF) (Y : YldF) (lf : Nat) (x0a : Option (Nat × Nat)) (x0n : Nat) (x0c : Bool) (x1 : Int) (x2a : Option (Nat × Nat)) (x2n : Nat) (x2c : Bool) (x8a : Option (Nat × Nat)) (x8n : Nat) (x8c : Bool) (x14 : Int) (h : AHeap) (nx : Nat) : F44_L5 call Y lf 0 x0a x0n x0c x1 x2a x2n x2c x8a x8n x8c x14 h nx = none := by kernel_rfl

theorem F44_eq' (J : StepF (AV × AHeap × Nat) → StepF (AV × AHeap × Nat)) (n : Nat) (Y : YldF) (x0a : Option (Nat × Nat)) (x0n : Nat) (x0c : Bool) (x1 : Int) (x2a : Option (Nat × Nat)) (x2n : Nat) (x2c : Bool) (h : AHeap) (nx : Nat) : rootJ J Try.prog keepT (callP Try.prog keepT n) Y n 44 [(.slice x0a x0n x0c), (.int .i64 x1), (.slice x2a x2n x2c)] h nx =
    ((callP Try.prog keepT n) Y 43 [(.slice x0a x0n x0c), (.slice x2a x2n x2c)] h (nx + 8)).bind fun r1 =>
    (asSl r1.1).bind fun s2 =>
    (s2.1).bind fun p3 =>
    if 0 ≤ (0 : Int) ∧ 0 < ((s2.2.1 : Nat) : Int) then
    ((ldA r1.2.1 p3.1 (p3.2 + Int.toNat 0 * 1)).bind fun v4 =>
    (asSl v4).bind fun s5 =>
    if (decide (0 ≤ (((x0n : Nat) : Int) : Int)) && decide ((((x0n : Nat) : Int) : Int) ≤ ((x0n : Nat) : Int)) && decide (((24 : Nat) : Int) * ((x0n : Nat) : Int) ≤ 281474976710656) && decide ((((x0n : Nat) : Int) : Int) ≤ 9223372036854775807) && 1 != 0) = true then
    (let h6 := AHeap.put r1.2.1 (r1.2.2 + 2) (some ⟨(madeA [(.slice none 0 false)] (Int.toNat ((x0n : Nat) : Int) * 1)), 1, true⟩)
    F44_L1' J J (callP Try.prog keepT n) Y n n x0a x0n x0c x1 x2a x2n x2c ((s5.2.1 : Nat) : Int) (some ((r1.2.2 + 2), 0)) (Int.toNat ((x0n : Nat) : Int)) (((x0n : Nat) : Int) == ((x0n : Nat) : Int)) none 0 false none 0 false x0a x0n x0c ((x0n : Nat) : Int) 0 h6 (r1.2.2 + 9))
    else none)
    else none := by kernel_rfl

/-- quickset/par.rebuilt -/
theorem F44_eq (n : Nat) (Y : YldF) (x0a : Option (Nat × Nat)) (x0n : Nat) (x0c : Bool) (x1 : Int) (x2a : Option (Nat × Nat)) (x2n : Nat) (x2c : Bool) (h : AHeap) (nx : Nat) : callP Try.prog keepT (n + 1) Y 44 [(.slice x0a x0n x0c), (.int .i64 x1), (.slice x2a x2n x2c)] h nx =
    ((callP Try.prog keepT n) Y 43 [(.slice x0a x0n x0c), (.slice x2a x2n x2c)] h (nx + 8)).bind fun r1 =>
    (asSl r1.1).bind fun s2 =>
    (s2.1).bind fun p3 =>
    if 0 ≤ (0 : Int) ∧ 0 < ((s2.2.1 : Nat) : Int) then
    ((ldA r1.2.1 p3.1 (p3.2 + Int.toNat 0 * 1)).bind fun v4 =>
    (asSl v4).bind fun s5 =>
    if (decide (0 ≤ (((x0n : Nat) : Int) : Int)) && decide ((((x0n : Nat) : Int) : Int) ≤ ((x0n : Nat) : Int)) && decide (((24 : Nat) : Int) * ((x0n : Nat) : Int) ≤ 281474976710656) && decide ((((x0n : Nat) : Int) : Int) ≤ 9223372036854775807) && 1 != 0) = true then
    (let h6 := AHeap.put r1.2.1 (r1.2.2 + 2) (some ⟨(madeA [(.slice none 0 false)] (Int.toNat ((x0n : Nat) : Int) * 1)), 1, true⟩)
    F44_L1 (callP Try.prog keepT n) Y n n x0a x0n x0c x1 x2a x2n x2c ((s5.2.1 : Nat) : Int) (some ((r1.2.2 + 2), 0)) (Int.toNat ((x0n : Nat) : Int)) (((x0n : Nat) : Int) == ((x0n : Nat) : Int)) none 0 false none 0 false x0a x0n x0c ((x0n : Nat) : Int) 0 h6 (r1.2.2 + 9))
    else none)
    else none := F44_eq' go1 n Y x0a x0n x0c x1 x2a x2n x2c h nx

noncomputable def c45 : Code := (Try.f45.body).getD .skip

noncomputable def r45 : List ResultVar := Try.f45.results.toList

noncomputable def F45_L1' (W J : StepF (AV × AHeap × Nat) → StepF (AV × AHeap × Nat)) (call : YldF → CallF) (Y : YldF) (lf : Nat) (n0 : Nat) (x0a : Option (Nat × Nat)) (x0n : Nat) (x0c : Bool) (x6 : Option (Nat × Nat)) (x11a : Option (Nat × Nat)) (x11n : Nat) (x11c : Bool) (x12 : Int) (x13 : Int) (h : AHeap) (nx : Nat) : Option (AV × AHeap × Nat) :=
  goK W J drawK (machOf Try.prog) call Y (keepT 45) lf c45 [1, 1, 0, 9] [n0] (retK (machOf Try.prog) ⟨c45, 28, r45, keepT 45⟩) ⟨28, mkL [(0, (.slice x0a x0n x0c)), (6, (.ptr x6)), (11, (.slice x11a x11n x11c)), (12, (.int .i64 x12)), (13, (.int .i64 x13))]⟩ h nx

noncomputable def F45_L1 (call : YldF → CallF) (Y : YldF) (lf : Nat) (n0 : Nat) (x0a : Option (Nat × Nat)) (x0n : Nat) (x0c : Bool) (x6 : Option (Nat × Nat)) (x11a : Option (Nat × Nat)) (x11n : Nat) (x11c : Bool) (x12 : Int) (x13 : Int) (h : AHeap) (nx : Nat) : Option (AV × AHeap × Nat) := F45_L1' go1 go1 call Y lf n0 x0a x0n x0c x6 x11a x11n x11c x12 x13 h nx

theorem F45_L1_eq' (J : StepF (AV × AHeap × Nat) → StepF (AV × AHeap × Nat)) (call : YldF → CallF) (Y : YldF) (lf : Nat) (n0 : Nat) (x0a : Option (Nat × Nat)) (x0n : Nat) (x0c : Bool) (x6 : Option (Nat × Nat)) (x11a : Option (Nat × Nat)) (x11n : Nat) (x11c : Bool) (x12 : Int) (x13 : Int) (h : AHeap) (nx : Nat) : F45_L1' go1 J call Y lf (n0 + 1) x0a x0n x0c x6 x11a x11n x11c x12 x13 h nx =
    if (decide ((x13 : Int) < x12)) = true then
    ((x11a).bind fun p1 =>
    if 0 ≤ (x13 : Int) ∧ x13 < ((x11n : Nat) : Int) then
    ((ldA h p1.1 (p1.2 + Int.toNat x13 * 1)).bind fun v2 =>
    (asI .u8 v2).bind fun n3 =>
    (x0a).bind fun p4 =>
    if 0 ≤ (x13 : Int) ∧ x13 < ((x0n : Nat) : Int) then
    ((ldA h p4.1 (p4.2 + Int.toNat x13 * 1)).bind fun v5 =>
    (asI .u8 v5).bind fun n6 =>
    (x6).bind fun p7 =>
    if 0 ≤ (n3 : Int) ∧ n3 < ((256 : Nat) : Int) then
    ((ldA h p7.1 (p7.2 + Int.toNat n3 * 1)).bind fun v8 =>
    (asI .u8 v8).bind fun n9 =>
    (x0a).bind fun p10 =>
    if 0 ≤ (x13 : Int) ∧ x13 < ((x0n : Nat) : Int) then
    ((stA h p10.1 (p10.2 + Int.toNat x13 * 1) (.int .u8 (bits .xor .u8 n6 n9)) 1).bind fun b11 =>
    let h12 := AHeap.put h p10.1 (some b11)
    F45_L1' J J call Y lf n0 x0a x0n x0c x6 x11a x11n x11c x12 (wrapA .i64 (x13 + 1)) h12 (nx + 18))
    else none)
    else none)
    else none)
    else none)
    else
    (some ((.tuple []), h, (nx + 1))) := by kernel_rfl

theorem F45_L1_eq (call : YldF → CallF) (Y : YldF) (lf : Nat) (n0 : Nat) (x0a : Option (Nat × Nat)) (x0n : Nat) (x0c : Bool) (x6 : Option (Nat × Nat)) (x11a : Option (Nat × Nat)) (x11n : Nat) (x11c : Bool) (x12 : Int) (x13 : Int) (h : AHeap) (nx : Nat) : F45_L1 call Y lf (n0 + 1) x0a x0n x0c x6 x11a x11n x11c x12 x13 h nx =
    if (decide ((x13 : Int) < x12)) = true then
    ((x11a).bind fun p1 =>
    if 0 ≤ (x13 : Int) ∧ x13 < ((x11n : Nat) : Int) then
    ((ldA h p1.1 (p1.2 + Int.toNat x13 * 1)).bind fun v2 =>
    (asI .u8 v2).bind fun n3 =>
    (x0a).bind fun p4 =>
    if 0 ≤ (x13 : Int) ∧ x13 < ((x0n : Nat) : Int) then
    ((ldA h p4.1 (p4.2 + Int.toNat x13 * 1)).bind fun v5 =>
    (asI .u8 v5).bind fun n6 =>
    (x6).bind fun p7 =>
    if 0 ≤ (n3 : Int) ∧ n3 < ((256 : Nat) : Int) then
    ((ldA h p7.1 (p7.2 + Int.toNat n3 * 1)).bind fun v8 =>
    (asI .u8 v8).bind fun n9 =>
    (x0a).bind fun p10 =>
    if 0 ≤ (x13 : Int) ∧ x13 < ((x0n : Nat) : Int) then
    ((stA h p10.1 (p10.2 + Int.toNat x13 * 1) (.int .u8 (bits .xor .u8 n6 n9)) 1).bind fun b11 =>
    let h12 := AHeap.put h p10.1 (some b11)
    F45_L1 call Y lf n0 x0a x0n x0c x6 x11a x11n x11c x12 (wrapA .i64 (x13 + 1)) h12 (nx + 18))
    else none)
    else none)
    else none)
    else none)
    else
    (some ((.tuple []), h, (nx + 1))) := F45_L1_eq' go1 call Y lf n0 x0a x0n x0c x6 x11a x11n x11c x12 x13 h nx

theorem F45_L1_zero (call : YldF → CallF) (Y : YldF) (lf : Nat) (x0a : Option (Nat × Nat)) (x0n : Nat) (x0c : Bool) (x6 : Option (Nat × Nat)) (x11a : Option (Nat × Nat)) (x11n : Nat) (x11c : Bool) (x12 : Int) (x13 : Int) (h : AHeap) (nx : Nat) : F45_L1 call Y lf 0 x0a x0n x0c x6 x11a x11n x11c x12 x13 h nx = none := by kernel_rfl

theorem F45_eq' (J : StepF (AV × AHeap × Nat) → StepF (AV × AHeap × Nat)) (n : Nat) (Y : YldF) (x0a : Option (Nat × Nat)) (x0n : Nat) (x0c : Bool) (x1a : Option (Nat × Nat)) (x1n : Nat) (x1c : Bool) (x2 : Int) (h : AHeap) (nx : Nat) : rootJ J Try.prog keepT (callP Try.prog keepT n) Y n 45 [(.slice x0a x0n x0c), (.slice x1a x1n x1c), (.int .i64 x2)] h nx =
    ((callP Try.prog keepT n) Y 50 [(.int .i64 x2)] h (nx + 4)).bind fun r1 =>
    (asRow r1.1).bind fun d2 =>
    let h3 := AHeap.put r1.2.1 (nx + 2) (some ⟨(List.replicate 256 (.int .u8 0)), 1, true⟩)
    (stA h3 (nx + 2) 0 (.agg d2) 256).bind fun b4 =>
    let h5 := AHeap.put h3 (nx + 2) (some b4)
    F45_L1' J J (callP Try.prog keepT n) Y n n x0a x0n x0c (some ((nx + 2), 0)) x1a x1n x1c ((x1n : Nat) : Int) 0 h5 (r1.2.2 + 3) := by kernel_rfl

/-- quickset/par.mix -/
theorem F45_eq (n : Nat) (Y : YldF) (x0a : Option (Nat × Nat)) (x0n : Nat) (x0c : Bool) (x1a : Option (Nat × Nat)) (x1n : Nat) (x1c : Bool) (x2 : Int) (h : AHeap) (nx : Nat) : callP Try.prog keepT (n + 1) Y 45 [(.slice x0a x0n x0c), (.slice x1a x1n x1c), (.int .i64 x2)] h nx =
    ((callP Try.prog keepT n) Y 50 [(.int .i64 x2)] h (nx + 4)).bind fun r1 =>
    (asRow r1.1).bind fun d2 =>
    let h3 := AHeap.put r1.2.1 (nx + 2) (some ⟨(List.replicate 256 (.int .u8 0)), 1, true⟩)
    (stA h3 (nx + 2) 0 (.agg d2) 256).bind fun b4 =>
    let h5 := AHeap.put h3 (nx + 2) (some b4)
    F45_L1 (callP Try.prog keepT n) Y n n x0a x0n x0c (some ((nx + 2), 0)) x1a x1n x1c ((x1n : Nat) : Int) 0 h5 (r1.2.2 + 3) := F45_eq' go1 n Y x0a x0n x0c x1a x1n x1c x2 h nx

noncomputable def c46 : Code := (Try.f46.body).getD .skip

noncomputable def r46 : List ResultVar := Try.f46.results.toList

theorem F46_eq' (J : StepF (AV × AHeap × Nat) → StepF (AV × AHeap × Nat)) (n : Nat) (Y : YldF) (x0 : Int) (x1 : Int) (h : AHeap) (nx : Nat) : rootJ J Try.prog keepT (callP Try.prog keepT n) Y n 46 [(.int .i64 x0), (.int .i64 x1)] h nx =
    ((callP Try.prog keepT n) Y 51 [(.int .i64 (wrapA .i64 (x1 * x0)))] h (nx + 10)).bind fun r1 =>
    (asTup 2 r1.1).bind fun d2 =>
    (asI .i64 (d2.getD 0 .bad)).bind fun n3 =>
    (asI .i64 (d2.getD 1 .bad)).bind fun n4 =>
    some ((.int .i64 n3), r1.2.1, (r1.2.2 + 2)) := by kernel_rfl

/-- quickset/par.factor -/
theorem F46_eq (n : Nat) (Y : YldF) (x0 : Int) (x1 : Int) (h : AHeap) (nx : Nat) : callP Try.prog keepT (n + 1) Y 46 [(.int .i64 x0), (.int .i64 x1)] h nx =
    ((callP Try.prog keepT n) Y 51 [(.int .i64 (wrapA .i64 (x1 * x0)))] h (nx + 10)).bind fun r1 =>
    (asTup 2 r1.1).bind fun d2 =>
    (asI .i64 (d2.getD 0 .bad)).bind fun n3 =>
    (asI .i64 (d2.getD 1 .bad)).bind fun n4 =>
    some ((.int .i64 n3), r1.2.1, (r1.2.2 + 2)) := F46_eq' go1 n Y x0 x1 h nx

noncomputable def c47 : Code := (Try.f47.body).getD .skip

noncomputable def r47 : List ResultVar := Try.f47.results.toList

theorem F47_eq' (J : StepF (AV × AHeap × Nat) → StepF (AV × AHeap × Nat)) (n : Nat) (Y : YldF) (x0a : Option (Nat × Nat)) (x0n : Nat) (x0c : Bool) (x1 : AV) (h : AHeap) (nx : Nat) : rootJ J Try.prog keepT (callP Try.prog keepT n) Y n 47 [(.slice x0a x0n x0c), x1] h nx =
    ((callP Try.prog keepT n) Y 52 [(.slice x0a x0n x0c), x1] h (nx + 6)).bind fun r1 =>
    (asI .i64 r1.1).bind fun n2 =>
    some ((.bool (decide ((n2 : Int) ≥ 0))), r1.2.1, r1.2.2) := by kernel_rfl

/-- slices.ContainsFunc[[][]byte,[]byte] -/
theorem F47_eq (n : Nat) (Y : YldF) (x0a : Option (Nat × Nat)) (x0n : Nat) (x0c : Bool) (x1 : AV) (h : AHeap) (nx : Nat) : callP Try.prog keepT (n + 1) Y 47 [(.slice x0a x0n x0c), x1] h nx =
    ((callP Try.prog keepT n) Y 52 [(.slice x0a x0n x0c), x1] h (nx + 6)).bind fun r1 =>
    (asI .i64 r1.1).bind fun n2 =>
    some ((.bool (decide ((n2 : Int) ≥ 0))), r1.2.1, r1.2.2) := F47_eq' go1 n Y x0a x0n x0c x1 h nx

noncomputable def c48 : Code := (Try.f48.body).getD .skip

noncomputable def r48 : List ResultVar := Try.f48.results.toList

theorem F48_eq' (J : StepF (AV × AHeap × Nat) → StepF (AV × AHeap × Nat)) (n : Nat) (Y : YldF) (x0a : Option (Nat × Nat)) (x0n : Nat) (x0c : Bool) (x1 : Option (Nat × Nat)) (h : AHeap) (nx : Nat) : rootJ J Try.prog keepT (callP Try.prog keepT n) Y n 48 [(.slice x0a x0n x0c), (.ptr x1)] h nx =
    (x1).bind fun p1 =>
    (ldA h p1.1 p1.2).bind fun v2 =>
    (asSl v2).bind fun s3 =>
    (s3.1).bind fun p4 =>
    if 0 ≤ (0 : Int) ∧ 0 < ((s3.2.1 : Nat) : Int) then
    ((ldA h p4.1 (p4.2 + Int.toNat 0 * 1)).bind fun v5 =>
    (asSl v5).bind fun s6 =>
    if ((((x0n : Nat) : Int) : Int) != ((s6.2.1 : Nat) : Int)) = true then
    (some ((.bool true), h, (nx + 14)))
    else
    (some ((.bool (decide ((((x0n : Nat) : Int) : Int) > 4096))), h, (nx + 14))))
    else none := by kernel_rfl

/-- quickset/par.even$1 -/
theorem F48_eq (n : Nat) (Y : YldF) (x0a : Option (Nat × Nat)) (x0n : Nat) (x0c : Bool) (x1 : Option (Nat × Nat)) (h : AHeap) (nx : Nat) : callP Try.prog keepT (n + 1) Y 48 [(.slice x0a x0n x0c), (.ptr x1)] h nx =
    (x1).bind fun p1 =>
    (ldA h p1.1 p1.2).bind fun v2 =>
    (asSl v2).bind fun s3 =>
    (s3.1).bind fun p4 =>
    if 0 ≤ (0 : Int) ∧ 0 < ((s3.2.1 : Nat) : Int) then
    ((ldA h p4.1 (p4.2 + Int.toNat 0 * 1)).bind fun v5 =>
    (asSl v5).bind fun s6 =>
    if ((((x0n : Nat) : Int) : Int) != ((s6.2.1 : Nat) : Int)) = true then
    (some ((.bool true), h, (nx + 14)))
    else
    (some ((.bool (decide ((((x0n : Nat) : Int) : Int) > 4096))), h, (nx + 14))))
    else none := F48_eq' go1 n Y x0a x0n x0c x1 h nx

noncomputable def c49 : Code := (Try.f49.body).getD .skip

noncomputable def r49 : List ResultVar := Try.f49.results.toList

noncomputable def F49_L1' (W J : StepF (AV × AHeap × Nat) → StepF (AV × AHeap × Nat)) (call : YldF → CallF) (Y : YldF) (lf : Nat) (n0 : Nat) (x0a : Option (Nat × Nat)) (x0n : Nat) (x0c : Bool) (x1 : Int) (x2a : Option (Nat × Nat)) (x2n : Nat) (x2c : Bool) (x8a : Option (Nat × Nat)) (x8n : Nat) (x8c : Bool) (x10a : Option (Nat × Nat)) (x10n : Nat) (x10c : Bool) (x24a : Option (Nat × Nat)) (x24n : Nat) (x24c : Bool) (x25 : Int) (x26 : Int) (h : AHeap) (nx : Nat) : Option (AV × AHeap × Nat) :=
  goK W J drawK (machOf Try.prog) call Y (keepT 49) lf c49 [1, 1, 1, 0, 1, 0, 9] [n0] (retK (machOf Try.prog) ⟨c49, 99, r49, keepT 49⟩) ⟨99, mkL [(0, (.slice x0a x0n x0c)), (1, (.int .i64 x1)), (2, (.slice x2a x2n x2c)), (8, (.slice x8a x8n x8c)), (10, (.slice x10a x10n x10c)), (24, (.slice x24a x24n x24c)), (25, (.int .i64 x25)), (26, (.int .i64 x26))]⟩ h nx

noncomputable def F49_L1 (call : YldF → CallF) (Y : YldF) (lf : Nat) (n0 : Nat) (x0a : Option (Nat × Nat)) (x0n : Nat) (x0c : Bool) (x1 : Int) (x2a : Option (Nat × Nat)) (x2n : Nat) (x2c : Bool) (x8a : Option (Nat × Nat)) (x8n : Nat) (x8c : Bool) (x10a : Option (Nat × Nat)) (x10n : Nat) (x10c : Bool) (x24a : Option (Nat × Nat)) (x24n : Nat) (x24c : Bool) (x25 : Int) (x26 : Int) (h : AHeap) (nx : Nat) : Option (AV × AHeap × Nat) := F49_L1' go1 go1 call Y lf n0 x0a x0n x0c x1 x2a x2n x2c x8a x8n x8c x10a x10n x10c x24a x24n x24c x25 x26 h nx

noncomputable def F49_L2' (W J : StepF (AV × AHeap × Nat) → StepF (AV × AHeap × Nat)) (call : YldF → CallF) (Y : YldF) (lf : Nat) (n0 : Nat) (n1 : Nat) (x0a : Option (Nat × Nat)) (x0n : Nat) (x0c : Bool) (x1 : Int) (x2a : Option (Nat × Nat)) (x2n : Nat) (x2c : Bool) (x8a : Option (Nat × Nat)) (x8n : Nat) (x8c : Bool) (x10a : Option (Nat × Nat)) (x10n : Nat) (x10c : Bool) (x12 : Int) (x13a : Option (Nat × Nat)) (x13n : Nat) (x13c : Bool) (x24a : Option (Nat × Nat)) (x24n : Nat) (x24c : Bool) (x25 : Int) (x26 : Int) (x30a : Option (Nat × Nat)) (x30n : Nat) (x30c : Bool) (x31 : Int) (x32 : Int) (h : AHeap) (nx : Nat) : Option (AV × AHeap × Nat) :=
  goK W J drawK (machOf Try.prog) call Y (keepT 49) lf c49 [1, 1, 1, 0, 1, 0, 0, 1, 1, 0, 0, 1, 1, 0, 1, 0, 9] [n0, n1] (retK (machOf Try.prog) ⟨c49, 99, r49, keepT 49⟩) ⟨99, mkL [(0, (.slice x0a x0n x0c)), (1, (.int .i64 x1)), (2, (.slice x2a x2n x2c)), (8, (.slice x8a x8n x8c)), (10, (.slice x10a x10n x10c)), (12, (.int .i64 x12)), (13, (.slice x13a x13n x13c)), (24, (.slice x24a x24n x24c)), (25, (.int .i64 x25)), (26, (.int .i64 x26)), (30, (.slice x30a x30n x30c)), (31, (.int .i64 x31)), (32, (.int .i64 x32))]⟩ h nx

noncomputable def F49_L2 (call : YldF → CallF) (Y : YldF) (lf : Nat) (n0 : Nat) (n1 : Nat) (x0a : Option (Nat × Nat)) (x0n : Nat) (x0c : Bool) (x1 : Int) (x2a : Option (Nat × Nat)) (x2n : Nat) (x2c : Bool) (x8a : Option (Nat × Nat)) (x8n : Nat) (x8c : Bool) (x10a : Option (Nat × Nat)) (x10n : Nat) (x10c : Bool) (x12 : Int) (x13a : Option (Nat × Nat)) (x13n : Nat) (x13c : Bool) (x24a : Option (Nat × Nat)) (x24n : Nat) (x24c : Bool) (x25 : Int) (x26 : Int) (x30a : Option (Nat × Nat)) (x30n : Nat) (x30c : Bool) (x31 : Int) (x32 : Int) (h : AHeap) (nx : Nat) : Option (AV × AHeap × Nat) := F49_L2' go1 go1 call Y lf n0 n1 x0a x0n x0c x1 x2a x2n x2c x8a x8n x8c x10a x10n x10c x12 x13a x13n x13c x24a x24n x24c x25 x26 x30a x30n x30c x31 x32 h nx

noncomputable def F49_L3' (W J : StepF (AV × AHeap × Nat) → StepF (AV × AHeap × Nat)) (call : YldF → CallF) (Y : YldF) (lf : Nat) (n0 : Nat) (x0a : Option (Nat × Nat)) (x0n : Nat) (x0c : Bool) (x9a : Option (Nat × Nat)) (x9n : Nat) (x9c : Bool) (x10a : Option (Nat × Nat)) (x10n : Nat) (x10c : Bool) (x70a : Option (Nat × Nat)) (x70n : Nat) (x70c : Bool) (x71 : Int) (x72 : Int) (h : AHeap) (nx : Nat) : Option (AV × AHeap × Nat) :=
  goK W J drawK (machOf Try.prog) call Y (keepT 49) lf c49 [1, 1, 1, 1, 1, 1, 0, 9] [n0] (retK (machOf Try.prog) ⟨c49, 99, r49, keepT 49⟩) ⟨99, mkL [(0, (.slice x0a x0n x0c)), (9, (.slice x9a x9n x9c)), (10, (.slice x10a x10n x10c)), (70, (.slice x70a x70n x70c)), (71, (.int .i64 x71)), (72, (.int .i64 x72))]⟩ h nx

noncomputable def F49_L3 (call : YldF → CallF) (Y : YldF) (lf : Nat) (n0 : Nat) (x0a : Option (Nat × Nat)) (x0n : Nat) (x0c : Bool) (x9a : Option (Nat × Nat)) (x9n : Nat) (x9c : Bool) (x10a : Option (Nat × Nat)) (x10n : Nat) (x10c : Bool) (x70a : Option (Nat × Nat)) (x70n : Nat) (x70c : Bool) (x71 : Int) (x72 : Int) (h : AHeap) (nx : Nat) : Option (AV × AHeap × Nat) := F49_L3' go1 go1 call Y lf n0 x0a x0n x0c x9a x9n x9c x10a x10n x10c x70a x70n x70c x71 x72 h nx

noncomputable def F49_L4' (W J : StepF (AV × AHeap × Nat) → StepF (AV × AHeap × Nat)) (call : YldF → CallF) (Y : YldF) (lf : Nat) (n0 : Nat) (n1 : Nat) (x0a : Option (Nat × Nat)) (x0n : Nat) (x0c : Bool) (x9a : Option (Nat × Nat)) (x9n : Nat) (x9c : Bool) (x10a : Option (Nat × Nat)) (x10n : Nat) (x10c : Bool) (x17 : Int) (x18 : Int) (x70a : Option (Nat × Nat)) (x70n : Nat) (x70c : Bool) (x71 : Int) (x72 : Int) (x77a : Option (Nat × Nat)) (x77n : Nat) (x77c : Bool) (x78 : Int) (x79 : Int) (h : AHeap) (nx : Nat) : Option (AV × AHeap × Nat) :=
  goK W J drawK (machOf Try.prog) call Y (keepT 49) lf c49 [1, 1, 1, 1, 1, 1, 0, 0, 1, 1, 0, 0, 1, 1, 0, 9] [n0, n1] (retK (machOf Try.prog) ⟨c49, 99, r49, keepT 49⟩) ⟨99, mkL [(0, (.slice x0a x0n x0c)), (9, (.slice x9a x9n x9c)), (10, (.slice x10a x10n x10c)), (17, (.int .i64 x17)), (18, (.int .i64 x18)), (70, (.slice x70a x70n x70c)), (71, (.int .i64 x71)), (72, (.int .i64 x72)), (77, (.slice x77a x77n x77c)), (78, (.int .i64 x78)), (79, (.int .i64 x79))]⟩ h nx

noncomputable def F49_L4 (call : YldF → CallF) (Y : YldF) (lf : Nat) (n0 : Nat) (n1 : Nat) (x0a : Option (Nat × Nat)) (x0n : Nat) (x0c : Bool) (x9a : Option (Nat × Nat)) (x9n : Nat) (x9c : Bool) (x10a : Option (Nat × Nat)) (x10n : Nat) (x10c : Bool) (x17 : Int) (x18 : Int) (x70a : Option (Nat × Nat)) (x70n : Nat) (x70c : Bool) (x71 : Int) (x72 : Int) (x77a : Option (Nat × Nat)) (x77n : Nat) (x77c : Bool) (x78 : Int) (x79 : Int) (h : AHeap) (nx : Nat) : Option (AV × AHeap × Nat) := F49_L4' go1 go1 call Y lf n0 n1 x0a x0n x0c x9a x9n x9c x10a x10n x10c x17 x18 x70a x70n x70c x71 x72 x77a x77n x77c x78 x79 h nx

theorem F49_L1_eq' (J : StepF (AV × AHeap × Nat) → StepF (AV × AHeap × Nat)) (call : YldF → CallF) (Y : YldF) (lf : Nat) (n0 : Nat) (x0a : Option (Nat × Nat)) (x0n : Nat) (x0c : Bool) (x1 : Int) (x2a : Option (Nat × Nat)) (x2n : Nat) (x2c : Bool) (x8a : Option (Nat × Nat)) (x8n : Nat) (x8c : Bool) (x10a : Option (Nat × Nat)) (x10n : Nat) (x10c : Bool) (x24a : Option (Nat × Nat)) (x24n : Nat) (x24c : Bool) (x25 : Int) (x26 : Int) (h : AHeap) (nx : Nat) : F49_L1' go1 J call Y lf (n0 + 1) x0a x0n x0c x1 x2a x2n x2c x8a x8n x8c x10a x10n x10c x24a x24n x24c x25 x26 h nx =
    if (decide ((x26 : Int) < x25)) = true then
    ((x24a).bind fun p1 =>
    if 0 ≤ (x26 : Int) ∧ x26 < ((x24n : Nat) : Int) then
    ((ldA h p1.1 (p1.2 + Int.toNat x26 * 1)).bind fun v2 =>
    (asI .i64 v2).bind fun n3 =>
    F49_L2' J J call Y lf n0 lf x0a x0n x0c x1 x2a x2n x2c x8a x8n x8c x10a x10n x10c n3 none 0 false x24a x24n x24c x25 x26 x2a x2n x2c ((x2n : Nat) : Int) 0 h (nx + 8))
    else none)
    else
    ((call Y 53 [(.slice x8a x8n x8c)] h (nx + 7)).bind fun r4 =>
    (asTup 2 r4.1).bind fun d5 =>
    (asSl (d5.getD 0 .bad)).bind fun s6 =>
    (asI .i64 (d5.getD 1 .bad)).bind fun n7 =>
    F49_L3' J J call Y lf lf x0a x0n x0c s6.1 s6.2.1 s6.2.2 x10a x10n x10c x2a x2n x2c ((x2n : Nat) : Int) 0 r4.2.1 (r4.2.2 + 3)) := by kernel_rfl

theorem F49_L1_eq (call : YldF → CallF) (Y : YldF) (lf : Nat) (n0 : Nat) (x0a : Option (Nat × Nat)) (x0n : Nat) (x0c : Bool) (x1 : Int) (x2a : Option (Nat × Nat)) (x2n : Nat) (x2c : Bool) (x8a : Option (Nat × Nat)) (x8n : Nat) (x8c : Bool) (x10a : Option (Nat × Nat)) (x10n : Nat) (x10c : Bool) (x24a : Option (Nat × Nat)) (x24n : Nat) (x24c : Bool) (x25 : Int) (x26 : Int) (h : AHeap) (nx : Nat) : F49_L1 call Y lf (n0 + 1) x0a x0n x0c x1 x2a x2n x2c x8a x8n x8c x10a x10n x10c x24a x24n x24c x25 x26 h nx =
    if (decide ((x26 : Int) < x25)) = true then
    ((x24a).bind fun p1 =>
    if 0 ≤ (x26 : Int) ∧ x26 < ((x24n : Nat) : Int) then
    ((ldA h p1.1 (p1.2 + Int.toNat x26 * 1)).bind fun v2 =>
    (asI .i64 v2).bind fun n3 =>
    F49_L2 call Y lf n0 lf x0a x0n x0c x1 x2a x2n x2c x8a x8n x8c x10a x10n x10c n3 none 0 false x24a x24n x24c x25 x26 x2a x2n x2c ((x2n : Nat) : Int) 0 h (nx + 8))
    else none)
    else
    ((call Y 53 [(.slice x8a x8n x8c)] h (nx + 7)).bind fun r4 =>
    (asTup 2 r4.1).bind fun d5 =>
    (asSl (d5.getD 0 .bad)).bind fun s6 =>
    (asI .i64 (d5.getD 1 .bad)).bind fun n7 =>
    F49_L3 call Y lf lf x0a x0n x0c s6.1 s6.2.1 s6.2.2 x10a x10n x10c x2a x2n x2c ((x2n : Nat) : Int) 0 r4.2.1 (r4.2.2 + 3)) := F49_L1_eq' go1 call Y lf n0 x0a x0n x0c x1 x2a x2n x2c x8a x8n x8c x10a x10n x10c x24a x24n x24c x25 x26 h nx

theorem F49_L1_zero (call : YldF → CallF) (Y : YldF) (lf : Nat) (x0a : Option (Nat × Nat)) (x0n : Nat) (x0c : Bool) (x1 : Int) (x2a : Option (Nat × Nat)) (x2n : Nat) (x2c : Bool) (x8a : Option (Nat × Nat)) (x8n : Nat) (x8c : Bool) (x10a : Option (Nat × Nat)) (x10n : Nat) (x10c : Bool) (x24a : Option (Nat × Nat)) (x24n : Nat) (x24c : Bool) (x25 : Int) (x26 : Int) (h : AHeap) (nx : Nat) : F49_L1 call Y lf 0 x0a x0n x0c x1 x2a x2n x2c x8a x8n x8c x10a x10n x10c x24a x24n x24c x25 x26 h nx = none := by kernel_rfl

theorem F49_L2_eq' (J : StepF (AV × AHeap × Nat) → StepF (AV × AHeap × Nat)) (call : YldF → CallF) (Y : YldF) (lf : Nat) (n0 : Nat) (n1 : Nat) (x0a : Option (Nat × Nat)) (x0n : Nat) (x0c : Bool) (x1 : Int) (x2a : Option (Nat × Nat)) (x2n : Nat) (x2c : Bool) (x8a : Option (Nat × Nat)) (x8n : Nat) (x8c : Bool) (x10a : Option (Nat × Nat)) (x10n : Nat) (x10c : Bool) (x12 : Int) (x13a : Option (Nat × Nat)) (x13n : Nat) (x13c : Bool) (x24a : Option (Nat × Nat)) (x24n : Nat) (x24c : Bool) (x25 : Int) (x26 : Int) (x30a : Option (Nat × Nat)) (x30n : Nat) (x30c : Bool) (x31 : Int) (x32 : Int) (h : AHeap) (nx : Nat) : F49_L2' go1 J call Y lf n0 (n1 + 1) x0a x0n x0c x1 x2a x2n x2c x8a x8n x8c x10a x10n x10c x12 x13a x13n x13c x24a x24n x24c x25 x26 x30a x30n x30c x31 x32 h nx =
    if (decide ((x32 : Int) < x31)) = true then
    ((x30a).bind fun p1 =>
    if 0 ≤ (x32 : Int) ∧ x32 < ((x30n : Nat) : Int) then
    ((ldA h p1.1 (p1.2 + Int.toNat x32 * 1)).bind fun v2 =>
    (asI .i64 v2).bind fun n3 =>
    (call Y 46 [(.int .i64 x12), (.int .i64 n3)] h (nx + 11)).bind fun r4 =>
    (asI .i64 r4.1).bind fun n5 =>
    let h6 := AHeap.put r4.2.1 (nx + 8) (some ⟨[(.int .i64 n5)], 1, true⟩)
    (srcS h6 (some ((nx + 8), 0)) 1 1).bind fun q7 =>
    (appD h6 x13a x13n x13c 1 8 (nx + 9) q7).bind fun e8 =>
    let h9 := AHeap.puts h6 e8.sets
    F49_L2' J J call Y lf n0 n1 x0a x0n x0c x1 x2a x2n x2c x8a x8n x8c x10a x10n x10c x12 e8.a e8.n e8.c x24a x24n x24c x25 x26 x30a x30n x30c x31 (wrapA .i64 (x32 + 1)) h9 (r4.2.2 + 2))
    else none)
    else
    (let h10 := AHeap.put h (nx + 3) (some ⟨[(.slice x13a x13n x13c)], 1, true⟩)
    (srcS h10 (some ((nx + 3), 0)) 1 1).bind fun q11 =>
    (appD h10 x8a x8n x8c 1 24 (nx + 4) q11).bind fun e12 =>
    let h13 := AHeap.puts h10 e12.sets
    (cutA h13 x0a x0n x0c 1 none (some (.int .i64 x1)) none).bind fun s14 =>
    (call Y 37 [(.slice s14.1 s14.2.1 s14.2.2), (.int .i64 x12)] h13 (nx + 12)).bind fun r15 =>
    (asSl r15.1).bind fun s16 =>
    (x0a).bind fun p17 =>
    if 0 ≤ ((wrapA .i64 (x1 + x12)) : Int) ∧ (wrapA .i64 (x1 + x12)) < ((x0n : Nat) : Int) then
    ((ldA r15.2.1 p17.1 (p17.2 + Int.toNat (wrapA .i64 (x1 + x12)) * 1)).bind fun v18 =>
    (asSl v18).bind fun s19 =>
    (call Y 45 [(.slice s16.1 s16.2.1 s16.2.2), (.slice s19.1 s19.2.1 s19.2.2), (.int .i64 1)] r15.2.1 (r15.2.2 + 8)).bind fun r20 =>
    (asTup 0 r20.1).bind fun d21 =>
    let h22 := AHeap.put r20.2.1 (r20.2.2 + 2) (some ⟨[(.slice s16.1 s16.2.1 s16.2.2)], 1, true⟩)
    (srcS h22 (some ((r20.2.2 + 2), 0)) 1 1).bind fun q23 =>
    (appD h22 x10a x10n x10c 1 24 (r20.2.2 + 3) q23).bind fun e24 =>
    let h25 := AHeap.puts h22 e24.sets
    F49_L1' J J call Y lf n0 x0a x0n x0c x1 x2a x2n x2c e12.a e12.n e12.c e24.a e24.n e24.c x24a x24n x24c x25 (wrapA .i64 (x26 + 1)) h25 (r20.2.2 + 7))
    else none) := by kernel_rfl

theorem F49_L2_eq (call : YldF → CallF) (Y : YldF) (lf : Nat) (n0 : Nat) (n1 : Nat) (x0a : Option (Nat × Nat)) (x0n : Nat) (x0c : Bool) (x1 : Int) (x2a : Option (Nat × Nat)) (x2n : Nat) (x2c : Bool) (x8a : Option (Nat × Nat)) (x8n : Nat) (x8c : Bool) (x10a : Option (Nat × Nat)) (x10n : Nat) (x10c : Bool) (x12 : Int) (x13a : Option (Nat × Nat)) (x13n : Nat) (x13c : Bool) (x24a : Option (Nat × Nat)) (x24n : Nat) (x24c : Bool) (x25 : Int) (x26 : Int) (x30a : Option (Nat × Nat)) (x30n : Nat) (x30c : Bool) (x31 : Int) (x32 : Int) (h : AHeap) (nx : Nat) : F49_L2 call Y lf n0 (n1 + 1) x0a x0n x0c x1 x2a x2n x2c x8a x8n x8c x10a x10n x10c x12 x13a x13n x13c x24a x24n x24c x25 x26 x30a x30n x30c x31 x32 h nx =
    if (decide ((x32 : Int) < x31)) = true then
    ((x30a).bind fun p1 =>
    if 0 ≤ (x32 : Int) ∧ x32 < ((x30n : Nat) : Int) then
    ((ldA h p1.1 (p1.2 + Int.toNat x32 * 1)).bind fun v2 =>
    (asI .i64 v2).bind fun n3 =>
    (call Y 46 [(.int .i64 x12), (.int .i64 n3)] h (nx + 11)).bind fun r4 =>
    (asI .i64 r4.1).bind fun n5 =>
    let h6 := AHeap.put r4.2.1 (nx + 8) (some ⟨[(.int .i64 n5)], 1, true⟩)
    (srcS h6 (some ((nx + 8), 0)) 1 1).bind fun q7 =>
    (appD h6 x13a x13n x13c 1 8 (nx + 9) q7).bind fun e8 =>
    let h9 := AHeap.puts h6 e8.sets
    F49_L2 call Y lf n0 n1 x0a x0n x0c x1 x2a x2n x2c x8a x8n x8c x10a x10n x10c x12 e8.a e8.n e8.c x24a x24n x24c x25 x26 x30a x30n x30c x31 (wrapA .i64 (x32 + 1)) h9 (r4.2.2 + 2))
    else none)
    else
    (let h10 := AHeap.put h (nx + 3) (some ⟨[(.slice x13a x13n x13c)], 1, true⟩)
    (srcS h10 (some ((nx + 3), 0)) 1 1).bind fun q11 =>
    (appD h10 x8a x8n x8c 1 24 (nx + 4) q11).bind fun e12 =>
    let h13 := AHeap.puts h10 e12.sets
    (cutA h13 x0a x0n x0c 1 none (some (.int .i64 x1)) none).bind fun s14 =>
    (call Y 37 [(.slice s14.1 s14.2.1 s14.2.2), (.int .i64 x12)] h13 (nx + 12)).bind fun r15 =>
    (asSl r15.1).bind fun s16 =>
    (x0a).bind fun p17 =>
    if 0 ≤ ((wrapA .i64 (x1 + x12)) : Int) ∧ (wrapA .i64 (x1 + x12)) < ((x0n : Nat) : Int) then
    ((ldA r15.2.1 p17.1 (p17.2 + Int.toNat (wrapA .i64 (x1 + x12)) * 1)).bind fun v18 =>
    (asSl v18).bind fun s19 =>
    (call Y 45 [(.slice s16.1 s16.2.1 s16.2.2), (.slice s19.1 s19.2.1 s19.2.2), (.int .i64 1)] r15.2.1 (r15.2.2 + 8)).bind fun r20 =>
    (asTup 0 r20.1).bind fun d21 =>
    let h22 := AHeap.put r20.2.1 (r20.2.2 + 2) (some ⟨[(.slice s16.1 s16.2.1 s16.2.2)], 1, true⟩)
    (srcS h22 (some ((r20.2.2 + 2), 0)) 1 1).bind fun q23 =>
    (appD h22 x10a x10n x10c 1 24 (r20.2.2 + 3) q23).bind fun e24 =>
    let h25 := AHeap.puts h22 e24.sets
    F49_L1 call Y lf n0 x0a x0n x0c x1 x2a x2n x2c e12.a e12.n e12.c e24.a e24.n e24.c x24a x24n x24c x25 (wrapA .i64 (x26 + 1)) h25 (r20.2.2 + 7))
    else none) := F49_L2_eq' go1 call Y lf n0 n1 x0a x0n x0c x1 x2a x2n x2c x8a x8n x8c x10a x10n x10c x12 x13a x13n x13c x24a x24n x24c x25 x26 x30a x30n x30c x31 x32 h nx

theorem F49_L2_zero (call : YldF → CallF) (Y : YldF) (lf : Nat) (n0 : Nat) (x0a : Option (Nat × Nat)) (x0n : Nat) (x0c : Bool) (x1 : Int) (x2a : Option (Nat × Nat)) (x2n : Nat) (x2c : Bool) (x8a : Option (Nat × Nat)) (x8n : Nat) (x8c : Bool) (x10a : Option (Nat × Nat)) (x10n : Nat) (x10c : Bool) (x12 : Int) (x13a : Option (Nat × Nat)) (x13n : Nat) (x13c : Bool) (x24a : Option (Nat × Nat)) (x24n : Nat) (x24c : Bool) (x25 : Int) (x26 : Int) (x30a : Option (Nat × Nat)) (x30n : Nat) (x30c : Bool) (x31 : Int) (x32 : Int) (h : AHeap) (nx : Nat) : F49_L2 call Y lf n0 0 x0a x0n x0c x1 x2a x2n x2c x8a x8n x8c x10a x10n x10c x12 x13a x13n x13c x24a x24n x24c x25 x26 x30a x30n x30c x31 x32 h nx = none := by kernel_rfl

theorem F49_L3_eq' (J : StepF (AV × AHeap × Nat) → StepF (AV × AHeap × Nat)) (call : YldF → CallF) (Y : YldF) (lf : Nat) (n0 : Nat) (x0a : Option (Nat × Nat)) (x0n : Nat) (x0c : Bool) (x9a : Option (Nat × Nat)) (x9n : Nat) (x9c : Bool) (x10a : Option (Nat × Nat)) (x10n : Nat) (x10c : Bool) (x70a : Option (Nat × Nat)) (x70n : Nat) (x70c : Bool) (x71 : Int) (x72 : Int) (h : AHeap) (nx : Nat) : F49_L3' go1 J call Y lf (n0 + 1) x0a x0n x0c x9a x9n x9c x10a x10n x10c x70a x70n x70c x71 x72 h nx =
    if (decide ((x72 : Int) < x71)) = true then
    ((x70a).bind fun p1 =>
    if 0 ≤ (x72 : Int) ∧ x72 < ((x70n : Nat) : Int) then
    ((ldA h p1.1 (p1.2 + Int.toNat x72 * 1)).bind fun v2 =>
    (asI .i64 v2).bind fun n3 =>
    F49_L4' J J call Y lf n0 lf x0a x0n x0c x9a x9n x9c x10a x10n x10c x72 n3 x70a x70n x70c x71 x72 x10a x10n x10c ((x10n : Nat) : Int) 0 h (nx + 9))
    else none)
    else
    (some ((.tuple []), h, (nx + 1))) := by kernel_rfl

theorem F49_L3_eq (call : YldF → CallF) (Y : YldF) (lf : Nat) (n0 : Nat) (x0a : Option (Nat × Nat)) (x0n : Nat) (x0c : Bool) (x9a : Option (Nat × Nat)) (x9n : Nat) (x9c : Bool) (x10a : Option (Nat × Nat)) (x10n : Nat) (x10c : Bool) (x70a : Option (Nat × Nat)) (x70n : Nat) (x70c : Bool) (x71 : Int) (x72 : Int) (h : AHeap) (nx : Nat) : F49_L3 call Y lf (n0 + 1) x0a x0n x0c x9a x9n x9c x10a x10n x10c x70a x70n x70c x71 x72 h nx =
    if (decide ((x72 : Int) < x71)) = true then
    ((x70a).bind fun p1 =>
    if 0 ≤ (x72 : Int) ∧ x72 < ((x70n : Nat) : Int) then
    ((ldA h p1.1 (p1.2 + Int.toNat x72 * 1)).bind fun v2 =>
    (asI .i64 v2).bind fun n3 =>
    F49_L4 call Y lf n0 lf x0a x0n x0c x9a x9n x9c x10a x10n x10c x72 n3 x70a x70n x70c x71 x72 x10a x10n x10c ((x10n : Nat) : Int) 0 h (nx + 9))
    else none)
    else
    (some ((.tuple []), h, (nx + 1))) := F49_L3_eq' go1 call Y lf n0 x0a x0n x0c x9a x9n x9c x10a x10n x10c x70a x70n x70c x71 x72 h nx

theorem F49_L3_zero (call : YldF → CallF) (Y : YldF) (lf : Nat) (x0a : Option (Nat × Nat)) (x0n : Nat) (x0c : Bool) (x9a : Option (Nat × Nat)) (x9n : Nat) (x9c : Bool) (x10a : Option (Nat × Nat)) (x10n : Nat) (x10c : Bool) (x70a : Option (Nat × Nat)) (x70n : Nat) (x70c : Bool) (x71 : Int) (x72 : Int) (h : AHeap) (nx : Nat) : F49_L3 call Y lf 0 x0a x0n x0c x9a x9n x9c x10a x10n x10c x70a x70n x70c x71 x72 h nx = none := by kernel_rfl

theorem F49_L4_eq' (J : StepF (AV × AHeap × Nat) → StepF (AV × AHeap × Nat)) (call : YldF → CallF) (Y : YldF) (lf : Nat) (n0 : Nat) (n1 : Nat) (x0a : Option (Nat × Nat)) (x0n : Nat) (x0c : Bool) (x9a : Option (Nat × Nat)) (x9n : Nat) (x9c : Bool) (x10a : Option (Nat × Nat)) (x10n : Nat) (x10c : Bool) (x17 : Int) (x18 : Int) (x70a : Option (Nat × Nat)) (x70n : Nat) (x70c : Bool) (x71 : Int) (x72 : Int) (x77a : Option (Nat × Nat)) (x77n : Nat) (x77c : Bool) (x78 : Int) (x79 : Int) (h : AHeap) (nx : Nat) : F49_L4' go1 J call Y lf n0 (n1 + 1) x0a x0n x0c x9a x9n x9c x10a x10n x10c x17 x18 x70a x70n x70c x71 x72 x77a x77n x77c x78 x79 h nx =
    if (decide ((x79 : Int) < x78)) = true then
    ((x77a).bind fun p1 =>
    if 0 ≤ (x79 : Int) ∧ x79 < ((x77n : Nat) : Int) then
    ((ldA h p1.1 (p1.2 + Int.toNat x79 * 1)).bind fun v2 =>
    (asSl v2).bind fun s3 =>
    (x0a).bind fun p4 =>
    if 0 ≤ (x18 : Int) ∧ x18 < ((x0n : Nat) : Int) then
    ((ldA h p4.1 (p4.2 + Int.toNat x18 * 1)).bind fun v5 =>
    (asSl v5).bind fun s6 =>
    (x9a).bind fun p7 =>
    if 0 ≤ (x17 : Int) ∧ x17 < ((x9n : Nat) : Int) then
    ((ldA h p7.1 (p7.2 + Int.toNat x17 * 1)).bind fun v8 =>
    (asSl v8).bind fun s9 =>
    (s9.1).bind fun p10 =>
    if 0 ≤ (x79 : Int) ∧ x79 < ((s9.2.1 : Nat) : Int) then
    ((ldA h p10.1 (p10.2 + Int.toNat x79 * 1)).bind fun v11 =>
    (asI .i64 v11).bind fun n12 =>
    (call Y 45 [(.slice s6.1 s6.2.1 s6.2.2), (.slice s3.1 s3.2.1 s3.2.2), (.int .i64 n12)] h (nx + 19)).bind fun r13 =>
    (asTup 0 r13.1).bind fun d14 =>
    F49_L4' J J call Y lf n0 n1 x0a x0n x0c x9a x9n x9c x10a x10n x10c x17 x18 x70a x70n x70c x71 x72 x77a x77n x77c x78 (wrapA .i64 (x79 + 1)) r13.2.1 (r13.2.2 + 2))
    else none)
    else none)
    else none)
    else none)
    else
    (F49_L3' J J call Y lf n0 x0a x0n x0c x9a x9n x9c x10a x10n x10c x70a x70n x70c x71 (wrapA .i64 (x72 + 1)) h (nx + 3)) := by kernel_rfl

theorem F49_L4_eq (call : YldF → CallF) (Y : YldF) (lf : Nat) (n0 : Nat) (n1 : Nat) (x0a : Option (Nat × Nat)) (x0n : Nat) (x0c : Bool) (x9a : Option (Nat × Nat)) (x9n : Nat) (x9c : Bool) (x10a : Option (Nat × Nat)) (x10n : Nat) (x10c : Bool) (x17 : Int) (x18 : Int) (x70a : Option (Nat × Nat)) (x70n : Nat) (x70c : Bool) (x71 : Int) (x72 : Int) (x77a : Option (Nat × Nat)) (x77n : Nat) (x77c : Bool) (x78 : Int) (x79 : Int) (h : AHeap) (nx : Nat) : F49_L4 call Y lf n0 (n1 + 1) x0a x0n x0c x9a x9n x9c x10a x10n x10c x17 x18 x70a x70n x70c x71 x72 x77a x77n x77c x78 x79 h nx =
    if (decide ((x79 : Int) < x78)) = true then
    ((x77a).bind fun p1 =>
    if 0 ≤ (x79 : Int) ∧ x79 < ((x77n : Nat) : Int) then
    ((ldA h p1.1 (p1.2 + Int.toNat x79 * 1)).bind fun v2 =>
    (asSl v2).bind fun s3 =>
    (x0a).bind fun p4 =>
    if 0 ≤ (x18 : Int) ∧ x18 < ((x0n : Nat) : Int) then
    ((ldA h p4.1 (p4.2 + Int.toNat x18 * 1)).bind fun v5 =>
    (asSl v5).bind fun s6 =>
    (x9a).bind fun p7 =>
    if 0 ≤ (x17 : Int) ∧ x17 < ((x9n : Nat) : Int) then
    ((ldA h p7.1 (p7.2 + Int.toNat x17 * 1)).bind fun v8 =>
    (asSl v8).bind fun s9 =>
    (s9.1).bind fun p10 =>
    if 0 ≤ (x79 : Int) ∧ x79 < ((s9.2.1 : Nat) : Int) then
    ((ldA h p10.1 (p10.2 + Int.toNat x79 * 1)).bind fun v11 =>
    (asI .i64 v11).bind fun n12 =>
    (call Y 45 [(.slice s6.1 s6.2.1 s6.2.2), (.slice s3.1 s3.2.1 s3.2.2), (.int .i64 n12)] h (nx + 19)).bind fun r13 =>
    (asTup 0 r13.1).bind fun d14 =>
    F49_L4 call Y lf n0 n1 x0a x0n x0c x9a x9n x9c x10a x10n x10c x17 x18 x70a x70n x70c x71 x72 x77a x77n x77c x78 (wrapA .i64 (x79 + 1)) r13.2.1 (r13.2.2 + 2))
    else none)
    else none)
    else none)
    else none)
    else
    (F49_L3 call Y lf n0 x0a x0n x0c x9a x9n x9c x10a x10n x10c x70a x70n x70c x71 (wrapA .i64 (x72 + 1)) h (nx + 3)) := F49_L4_eq' go1 call Y lf n0 n1 x0a x0n x0c x9a x9n x9c x10a x10n x10c x17 x18 x70a x70n x70c x71 x72 x77a x77n x77c x78 x79 h nx

theorem F49_L4_zero (call : YldF → CallF) (Y : YldF) (lf : Nat) (n0 : Nat) (x0a : Option (Nat × Nat)) (x0n : Nat) (x0c : Bool) (x9a : Option (Nat × Nat)) (x9n : Nat) (x9c : Bool) (x10a : Option (Nat × Nat)) (x10n : Nat) (x10c : Bool) (x17 : Int) (x18 : Int) (x70a : Option (Nat × Nat)) (x70n : Nat) (x70c : Bool) (x71 : Int) (x72 : Int) (x77a : Option (Nat × Nat)) (x77n : Nat) (x77c : Bool) (x78 : Int) (x79 : Int) (h : AHeap) (nx : Nat) : F49_L4 call Y lf n0 0 x0a x0n x0c x9a x9n x9c x10a x10n x10c x17 x18 x70a x70n x70c x71 x72 x77a x77n x77c x78 x79 h nx = none := by kernel_rfl

theorem F49_eq' (J : StepF (AV × AHeap × Nat) → StepF (AV × AHeap × Nat)) (n : Nat) (Y : YldF) (x0a : Option (Nat × Nat)) (x0n : Nat) (x0c : Bool) (x1 : Int) (x2a : Option (Nat × Nat)) (x2n : Nat) (x2c : Bool) (x3a : Option (Nat × Nat)) (x3n : Nat) (x3c : Bool) (h : AHeap) (nx : Nat) : rootJ J Try.prog keepT (callP Try.prog keepT n) Y n 49 [(.slice x0a x0n x0c), (.int .i64 x1), (.slice x2a x2n x2c), (.slice x3a x3n x3c)] h nx =
    if ((((x2n : Nat) : Int) : Int) == 0) = true then
    (some ((.tuple []), h, (nx + 3)))
    else
    (F49_L1' J J (callP Try.prog keepT n) Y n n x0a x0n x0c x1 x2a x2n x2c none 0 false none 0 false x3a x3n x3c ((x3n : Nat) : Int) 0 h (nx + 9)) := by kernel_rfl

/-- quickset/par.fill -/
theorem F49_eq (n : Nat) (Y : YldF) (x0a : Option (Nat × Nat)) (x0n : Nat) (x0c : Bool) (x1 : Int) (x2a : Option (Nat × Nat)) (x2n : Nat) (x2c : Bool) (x3a : Option (Nat × Nat)) (x3n : Nat) (x3c : Bool) (h : AHeap) (nx : Nat) : callP Try.prog keepT (n + 1) Y 49 [(.slice x0a x0n x0c), (.int .i64 x1), (.slice x2a x2n x2c), (.slice x3a x3n x3c)] h nx =
    if ((((x2n : Nat) : Int) : Int) == 0) = true then
    (some ((.tuple []), h, (nx + 3)))
    else
    (F49_L1 (callP Try.prog keepT n) Y n n x0a x0n x0c x1 x2a x2n x2c none 0 false none 0 false x3a x3n x3c ((x3n : Nat) : Int) 0 h (nx + 9)) := F49_eq' go1 n Y x0a x0n x0c x1 x2a x2n x2c x3a x3n x3c h nx

noncomputable def c50 : Code := (Try.f50.body).getD .skip

noncomputable def r50 : List ResultVar := Try.f50.results.toList

noncomputable def F50_L1' (W J : StepF (AV × AHeap × Nat) → StepF (AV × AHeap × Nat)) (call : YldF → CallF) (Y : YldF) (lf : Nat) (n0 : Nat) (x0 : Int) (x2 : Option (Nat × Nat)) (x6 : Int) (h : AHeap) (nx : Nat) : Option (AV × AHeap × Nat) :=
  goK W J drawK (machOf Try.prog) call Y (keepT 50) lf c50 [1, 0, 1, 0, 9] [n0] (retK (machOf Try.prog) ⟨c50, 21, r50, keepT 50⟩) ⟨21, mkL [(0, (.int .i64 x0)), (2, (.ptr x2)), (6, (.int .i64 x6))]⟩ h nx

noncomputable def F50_L1 (call : YldF → CallF) (Y : YldF) (lf : Nat) (n0 : Nat) (x0 : Int) (x2 : Option (Nat × Nat)) (x6 : Int) (h : AHeap) (nx : Nat) : Option (AV × AHeap × Nat) := F50_L1' go1 go1 call Y lf n0 x0 x2 x6 h nx

theorem F50_L1_eq' (J : StepF (AV × AHeap × Nat) → StepF (AV × AHeap × Nat)) (call : YldF → CallF) (Y : YldF) (lf : Nat) (n0 : Nat) (x0 : Int) (x2 : Option (Nat × Nat)) (x6 : Int) (h : AHeap) (nx : Nat) : F50_L1' go1 J call Y lf (n0 + 1) x0 x2 x6 h nx =
    if (decide ((x6 : Int) < 256)) = true then
    ((call Y 54 [(.int .i64 x0), (.int .i64 x6)] h (nx + 11)).bind fun r1 =>
    (asTup 2 r1.1).bind fun d2 =>
    (asI .i64 (d2.getD 0 .bad)).bind fun n3 =>
    (asI .i64 (d2.getD 1 .bad)).bind fun n4 =>
    (x2).bind fun p5 =>
    if 0 ≤ (x6 : Int) ∧ x6 < ((256 : Nat) : Int) then
    ((stA r1.2.1 p5.1 (p5.2 + Int.toNat x6 * 1) (.int .u8 (wrapA .u8 n3)) 1).bind fun b6 =>
    let h7 := AHeap.put r1.2.1 p5.1 (some b6)
    F50_L1' J J call Y lf n0 x0 x2 (wrapA .i64 (x6 + 1)) h7 (r1.2.2 + 7))
    else none)
    else
    ((x2).bind fun p8 =>
    (ldR h p8.1 p8.2 256).bind fun l9 =>
    (x2).bind fun p10 =>
    (stA h p10.1 p10.2 (.agg l9) 256).bind fun b11 =>
    let h12 := AHeap.put h p10.1 (some b11)
    (x2).bind fun p13 =>
    (ldR h12 p13.1 p13.2 256).bind fun l14 =>
    some ((.agg l14), h12, (nx + 3))) := by kernel_rfl

theorem F50_L1_eq (call : YldF → CallF) (Y : YldF) (lf : Nat) (n0 : Nat) (x0 : Int) (x2 : Option (Nat × Nat)) (x6 : Int) (h : AHeap) (nx : Nat) : F50_L1 call Y lf (n0 + 1) x0 x2 x6 h nx =
    if (decide ((x6 : Int) < 256)) = true then
    ((call Y 54 [(.int .i64 x0), (.int .i64 x6)] h (nx + 11)).bind fun r1 =>
    (asTup 2 r1.1).bind fun d2 =>
    (asI .i64 (d2.getD 0 .bad)).bind fun n3 =>
    (asI .i64 (d2.getD 1 .bad)).bind fun n4 =>
    (x2).bind fun p5 =>
    if 0 ≤ (x6 : Int) ∧ x6 < ((256 : Nat) : Int) then
    ((stA r1.2.1 p5.1 (p5.2 + Int.toNat x6 * 1) (.int .u8 (wrapA .u8 n3)) 1).bind fun b6 =>
    let h7 := AHeap.put r1.2.1 p5.1 (some b6)
    F50_L1 call Y lf n0 x0 x2 (wrapA .i64 (x6 + 1)) h7 (r1.2.2 + 7))
    else none)
    else
    ((x2).bind fun p8 =>
    (ldR h p8.1 p8.2 256).bind fun l9 =>
    (x2).bind fun p10 =>
    (stA h p10.1 p10.2 (.agg l9) 256).bind fun b11 =>
    let h12 := AHeap.put h p10.1 (some b11)
    (x2).bind fun p13 =>
    (ldR h12 p13.1 p13.2 256).bind fun l14 =>
    some ((.agg l14), h12, (nx + 3))) := F50_L1_eq' go1 call Y lf n0 x0 x2 x6 h nx

theorem F50_L1_zero (call : YldF → CallF) (Y : YldF) (lf : Nat) (x0 : Int) (x2 : Option (Nat × Nat)) (x6 : Int) (h : AHeap) (nx : Nat) : F50_L1 call Y lf 0 x0 x2 x6 h nx = none := by kernel_rfl

theorem F50_eq' (J : StepF (AV × AHeap × Nat) → StepF (AV × AHeap × Nat)) (n : Nat) (Y : YldF) (x0 : Int) (h : AHeap) (nx : Nat) : rootJ J Try.prog keepT (callP Try.prog keepT n) Y n 50 [(.int .i64 x0)] h nx =
    let h1 := AHeap.put h nx (some ⟨(List.replicate 256 (.int .u8 0)), 1, true⟩)
    F50_L1' J J (callP Try.prog keepT n) Y n n x0 (some (nx, 0)) 0 h1 (nx + 2) := by kernel_rfl

/-- quickset/par.table -/
theorem F50_eq (n : Nat) (Y : YldF) (x0 : Int) (h : AHeap) (nx : Nat) : callP Try.prog keepT (n + 1) Y 50 [(.int .i64 x0)] h nx =
    let h1 := AHeap.put h nx (some ⟨(List.replicate 256 (.int .u8 0)), 1, true⟩)
    F50_L1 (callP Try.prog keepT n) Y n n x0 (some (nx, 0)) 0 h1 (nx + 2) := F50_eq' go1 n Y x0 h nx

noncomputable def c51 : Code := (Try.f51.body).getD .skip

noncomputable def r51 : List ResultVar := Try.f51.results.toList

theorem F51_eq' (J : StepF (AV × AHeap × Nat) → StepF (AV × AHeap × Nat)) (n : Nat) (Y : YldF) (x0 : Int) (h : AHeap) (nx : Nat) : rootJ J Try.prog keepT (callP Try.prog keepT n) Y n 51 [(.int .i64 x0)] h nx =
    ((callP Try.prog keepT n) Y 55 [(.int .i64 2), (.int .i64 x0)] h (nx + 8)).bind fun r1 =>
    (asTup 2 r1.1).bind fun d2 =>
    (asI .i64 (d2.getD 0 .bad)).bind fun n3 =>
    (asI .i64 (d2.getD 1 .bad)).bind fun n4 =>
    some ((.tuple [(.int .i64 n3), (.int .i64 n4)]), r1.2.1, r1.2.2) := by kernel_rfl

/-- quickset/gf.Exp -/
theorem F51_eq (n : Nat) (Y : YldF) (x0 : Int) (h : AHeap) (nx : Nat) : callP Try.prog keepT (n + 1) Y 51 [(.int .i64 x0)] h nx =
    ((callP Try.prog keepT n) Y 55 [(.int .i64 2), (.int .i64 x0)] h (nx + 8)).bind fun r1 =>
    (asTup 2 r1.1).bind fun d2 =>
    (asI .i64 (d2.getD 0 .bad)).bind fun n3 =>
    (asI .i64 (d2.getD 1 .bad)).bind fun n4 =>
    some ((.tuple [(.int .i64 n3), (.int .i64 n4)]), r1.2.1, r1.2.2) := F51_eq' go1 n Y x0 h nx

noncomputable def c52 : Code := (Try.f52.body).getD .skip

noncomputable def r52 : List ResultVar := Try.f52.results.toList

noncomputable def F52_L1' (W J : StepF (AV × AHeap × Nat) → StepF (AV × AHeap × Nat)) (call : YldF → CallF) (Y : YldF) (lf : Nat) (n0 : Nat) (x0a : Option (Nat × Nat)) (x0n : Nat) (x0c : Bool) (x1 : AV) (x7 : Int) (x8 : Int) (h : AHeap) (nx : Nat) : Option (AV × AHeap × Nat) :=
  goK W J drawK (machOf Try.prog) call Y (keepT 52) lf c52 [1, 0, 1, 0, 9] [n0] (retK (machOf Try.prog) ⟨c52, 19, r52, keepT 52⟩) ⟨19, mkL [(0, (.slice x0a x0n x0c)), (1, x1), (7, (.int .i64 x7)), (8, (.int .i64 x8))]⟩ h nx

noncomputable def F52_L1 (call : YldF → CallF) (Y : YldF) (lf : Nat) (n0 : Nat) (x0a : Option (Nat × Nat)) (x0n : Nat) (x0c : Bool) (x1 : AV) (x7 : Int) (x8 : Int) (h : AHeap) (nx : Nat) : Option (AV × AHeap × Nat) := F52_L1' go1 go1 call Y lf n0 x0a x0n x0c x1 x7 x8 h nx

theorem F52_L1_eq' (J : StepF (AV × AHeap × Nat) → StepF (AV × AHeap × Nat)) (call : YldF → CallF) (Y : YldF) (lf : Nat) (n0 : Nat) (x0a : Option (Nat × Nat)) (x0n : Nat) (x0c : Bool) (x1 : AV) (x7 : Int) (x8 : Int) (h : AHeap) (nx : Nat) : F52_L1' go1 J call Y lf (n0 + 1) x0a x0n x0c x1 x7 x8 h nx =
    if (decide ((x8 : Int) < x7)) = true then
    ((x0a).bind fun p1 =>
    if 0 ≤ (x8 : Int) ∧ x8 < ((x0n : Nat) : Int) then
    ((ldA h p1.1 (p1.2 + Int.toNat x8 * 1)).bind fun v2 =>
    (asSl v2).bind fun s3 =>
    (asCal x1).bind fun q5 =>
    (callC (call Y) Y q5.1 (q5.2.1 ++ [(.slice s3.1 s3.2.1 s3.2.2)] ++ q5.2.2) h (nx + 9)).bind fun r4 =>
    (asB r4.1).bind fun t6 =>
    if t6 = true then
    (some ((.int .i64 x8), r4.2.1, (r4.2.2 + 2)))
    else
    (F52_L1' J J call Y lf n0 x0a x0n x0c (x1) x7 (wrapA .i64 (x8 + 1)) r4.2.1 (r4.2.2 + 2)))
    else none)
    else
    (some ((.int .i64 (-1)), h, (nx + 2))) := by kernel_rfl

theorem F52_L1_eq (call : YldF → CallF) (Y : YldF) (lf : Nat) (n0 : Nat) (x0a : Option (Nat × Nat)) (x0n : Nat) (x0c : Bool) (x1 : AV) (x7 : Int) (x8 : Int) (h : AHeap) (nx : Nat) : F52_L1 call Y lf (n0 + 1) x0a x0n x0c x1 x7 x8 h nx =
    if (decide ((x8 : Int) < x7)) = true then
    ((x0a).bind fun p1 =>
    if 0 ≤ (x8 : Int) ∧ x8 < ((x0n : Nat) : Int) then
    ((ldA h p1.1 (p1.2 + Int.toNat x8 * 1)).bind fun v2 =>
    (asSl v2).bind fun s3 =>
    (asCal x1).bind fun q5 =>
    (callC (call Y) Y q5.1 (q5.2.1 ++ [(.slice s3.1 s3.2.1 s3.2.2)] ++ q5.2.2) h (nx + 9)).bind fun r4 =>
    (asB r4.1).bind fun t6 =>
    if t6 = true then
    (some ((.int .i64 x8), r4.2.1, (r4.2.2 + 2)))
    else
    (F52_L1 call Y lf n0 x0a x0n x0c (x1) x7 (wrapA .i64 (x8 + 1)) r4.2.1 (r4.2.2 + 2)))
    else none)
    else
    (some ((.int .i64 (-1)), h, (nx + 2))) := F52_L1_eq' go1 call Y lf n0 x0a x0n x0c x1 x7 x8 h nx

theorem F52_L1_zero (call : YldF → CallF) (Y : YldF) (lf : Nat) (x0a : Option (Nat × Nat)) (x0n : Nat) (x0c : Bool) (x1 : AV) (x7 : Int) (x8 : Int) (h : AHeap) (nx : Nat) : F52_L1 call Y lf 0 x0a x0n x0c x1 x7 x8 h nx = none := by kernel_rfl

theorem F52_eq' (J : StepF (AV × AHeap × Nat) → StepF (AV × AHeap × Nat)) (n : Nat) (Y : YldF) (x0a : Option (Nat × Nat)) (x0n : Nat) (x0c : Bool) (x1 : AV) (h : AHeap) (nx : Nat) : rootJ J Try.prog keepT (callP Try.prog keepT n) Y n 52 [(.slice x0a x0n x0c), x1] h nx =
    F52_L1' J J (callP Try.prog keepT n) Y n n x0a x0n x0c (x1) ((x0n : Nat) : Int) 0 h (nx + 4) := by kernel_rfl

/-- slices.IndexFunc[[][]byte,[]byte] -/
theorem F52_eq (n : Nat) (Y : YldF) (x0a : Option (Nat × Nat)) (x0n : Nat) (x0c : Bool) (x1 : AV) (h : AHeap) (nx : Nat) : callP Try.prog keepT (n + 1) Y 52 [(.slice x0a x0n x0c), x1] h nx =
    F52_L1 (callP Try.prog keepT n) Y n n x0a x0n x0c (x1) ((x0n : Nat) : Int) 0 h (nx + 4) := F52_eq' go1 n Y x0a x0n x0c x1 h nx

noncomputable def c53 : Code := (Try.f53.body).getD .skip

noncomputable def r53 : List ResultVar := Try.f53.results.toList

noncomputable def F53_L1' (W J : StepF (AV × AHeap × Nat) → StepF (AV × AHeap × Nat)) (call : YldF → CallF) (Y : YldF) (lf : Nat) (n0 : Nat) (x4 : Int) (x6a : Option (Nat × Nat)) (x6n : Nat) (x6c : Bool) (x28a : Option (Nat × Nat)) (x28n : Nat) (x28c : Bool) (x29 : Int) (x30 : Int) (h : AHeap) (nx : Nat) : Option (AV × AHeap × Nat) :=
  goK W J drawK (machOf Try.prog) call Y (keepT 53) lf c53 [1, 1, 1, 1, 1, 1, 1, 0, 1, 0, 9] [n0] (retK (machOf Try.prog) ⟨c53, 43, r53, keepT 53⟩) ⟨43, mkL [(4, (.int .i64 x4)), (6, (.slice x6a x6n x6c)), (28, (.slice x28a x28n x28c)), (29, (.int .i64 x29)), (30, (.int .i64 x30))]⟩ h nx

noncomputable def F53_L1 (call : YldF → CallF) (Y : YldF) (lf : Nat) (n0 : Nat) (x4 : Int) (x6a : Option (Nat × Nat)) (x6n : Nat) (x6c : Bool) (x28a : Option (Nat × Nat)) (x28n : Nat) (x28c : Bool) (x29 : Int) (x30 : Int) (h : AHeap) (nx : Nat) : Option (AV × AHeap × Nat) := F53_L1' go1 go1 call Y lf n0 x4 x6a x6n x6c x28a x28n x28c x29 x30 h nx

theorem F53_L1_eq' (J : StepF (AV × AHeap × Nat) → StepF (AV × AHeap × Nat)) (call : YldF → CallF) (Y : YldF) (lf : Nat) (n0 : Nat) (x4 : Int) (x6a : Option (Nat × Nat)) (x6n : Nat) (x6c : Bool) (x28a : Option (Nat × Nat)) (x28n : Nat) (x28c : Bool) (x29 : Int) (x30 : Int) (h : AHeap) (nx : Nat) : F53_L1' go1 J call Y lf (n0 + 1) x4 x6a x6n x6c x28a x28n x28c x29 x30 h nx =
    if (decide ((x30 : Int) < x29)) = true then
    ((x28a).bind fun p1 =>
    if 0 ≤ (x30 : Int) ∧ x30 < ((x28n : Nat) : Int) then
    ((ldA h p1.1 (p1.2 + Int.toNat x30 * 1)).bind fun v2 =>
    (asSl v2).bind fun s3 =>
    (cutA h s3.1 s3.2.1 s3.2.2 1 (some (.int .i64 x4)) none none).bind fun s4 =>
    (call Y 21 [(.slice s4.1 s4.2.1 s4.2.2)] h (nx + 12)).bind fun r5 =>
    (asSl r5.1).bind fun s6 =>
    let h7 := AHeap.put r5.2.1 (nx + 9) (some ⟨[(.slice s6.1 s6.2.1 s6.2.2)], 1, true⟩)
    (srcS h7 (some ((nx + 9), 0)) 1 1).bind fun q8 =>
    (appD h7 x6a x6n x6c 1 24 (nx + 10) q8).bind fun e9 =>
    let h10 := AHeap.puts h7 e9.sets
    F53_L1' J J call Y lf n0 x4 e9.a e9.n e9.c x28a x28n x28c x29 (wrapA .i64 (x30 + 1)) h10 (r5.2.2 + 2))
    else none)
    else
    (some ((.tuple [(.slice x6a x6n x6c), (.int .i64 0)]), h, (nx + 4))) := by kernel_rfl

theorem F53_L1_eq (call : YldF → CallF) (Y : YldF) (lf : Nat) (n0 : Nat) (x4 : Int) (x6a : Option (Nat × Nat)) (x6n : Nat) (x6c : Bool) (x28a : Option (Nat × Nat)) (x28n : Nat) (x28c : Bool) (x29 : Int) (x30 : Int) (h : AHeap) (nx : Nat) : F53_L1 call Y lf (n0 + 1) x4 x6a x6n x6c x28a x28n x28c x29 x30 h nx =
    if (decide ((x30 : Int) < x29)) = true then
    ((x28a).bind fun p1 =>
    if 0 ≤ (x30 : Int) ∧ x30 < ((x28n : Nat) : Int) then
    ((ldA h p1.1 (p1.2 + Int.toNat x30 * 1)).bind fun v2 =>
    (asSl v2).bind fun s3 =>
    (cutA h s3.1 s3.2.1 s3.2.2 1 (some (.int .i64 x4)) none none).bind fun s4 =>
    (call Y 21 [(.slice s4.1 s4.2.1 s4.2.2)] h (nx + 12)).bind fun r5 =>
    (asSl r5.1).bind fun s6 =>
    let h7 := AHeap.put r5.2.1 (nx + 9) (some ⟨[(.slice s6.1 s6.2.1 s6.2.2)], 1, true⟩)
    (srcS h7 (some ((nx + 9), 0)) 1 1).bind fun q8 =>
    (appD h7 x6a x6n x6c 1 24 (nx + 10) q8).bind fun e9 =>
    let h10 := AHeap.puts h7 e9.sets
    F53_L1 call Y lf n0 x4 e9.a e9.n e9.c x28a x28n x28c x29 (wrapA .i64 (x30 + 1)) h10 (r5.2.2 + 2))
    else none)
    else
    (some ((.tuple [(.slice x6a x6n x6c), (.int .i64 0)]), h, (nx + 4))) := F53_L1_eq' go1 call Y lf n0 x4 x6a x6n x6c x28a x28n x28c x29 x30 h nx

theorem F53_L1_zero (call : YldF → CallF) (Y : YldF) (lf : Nat) (x4 : Int) (x6a : Option (Nat × Nat)) (x6n : Nat) (x6c : Bool) (x28a : Option (Nat × Nat)) (x28n : Nat) (x28c : Bool) (x29 : Int) (x30 : Int) (h : AHeap) (nx : Nat) : F53_L1 call Y lf 0 x4 x6a x6n x6c x28a x28n x28c x29 x30 h nx = none := by kernel_rfl

theorem F53_eq' (J : StepF (AV × AHeap × Nat) → StepF (AV × AHeap × Nat)) (n : Nat) (Y : YldF) (x0a : Option (Nat × Nat)) (x0n : Nat) (x0c : Bool) (h : AHeap) (nx : Nat) : rootJ J Try.prog keepT (callP Try.prog keepT n) Y n 53 [(.slice x0a x0n x0c)] h nx =
    ((callP Try.prog keepT n) Y 56 [(.slice x0a x0n x0c)] h (nx + 5)).bind fun r1 =>
    (asB r1.1).bind fun t2 =>
    if (!t2) = true then
    (some ((.tuple [(.slice none 0 false), (.int .i64 4)]), r1.2.1, (r1.2.2 + 2)))
    else
    ((x0a).bind fun p3 =>
    if 0 ≤ (0 : Int) ∧ 0 < ((x0n : Nat) : Int) then
    ((ldA r1.2.1 p3.1 (p3.2 + Int.toNat 0 * 1)).bind fun v4 =>
    (asSl v4).bind fun s5 =>
    if ((((s5.2.1 : Nat) : Int) : Int) != ((x0n : Nat) : Int)) = true then
    (some ((.tuple [(.slice none 0 false), (.int .i64 1)]), r1.2.1, (r1.2.2 + 11)))
    else
    (((callP Try.prog keepT n) Y 57 [(.slice x0a x0n x0c), (.int .i64 ((x0n : Nat) : Int))] r1.2.1 (r1.2.2 + 13)).bind fun r6 =>
    (asSl r6.1).bind fun s7 =>
    ((callP Try.prog keepT n) Y 58 [(.slice s7.1 s7.2.1 s7.2.2), (.int .i64 ((x0n : Nat) : Int))] r6.2.1 (r6.2.2 + 5)).bind fun r8 =>
    (asI .i64 r8.1).bind fun n9 =>
    if (decide ((n9 : Int) < ((x0n : Nat) : Int))) = true then
    (some ((.tuple [(.slice none 0 false), (.int .i64 10)]), r8.2.1, (r8.2.2 + 2)))
    else
    (F53_L1' J J (callP Try.prog keepT n) Y n n ((x0n : Nat) : Int) none 0 false s7.1 s7.2.1 s7.2.2 ((s7.2.1 : Nat) : Int) 0 r8.2.1 (r8.2.2 + 4))))
    else none) := by kernel_rfl

/-- quickset/mat.Invert -/
theorem F53_eq (n : Nat) (Y : YldF) (x0a : Option (Nat × Nat)) (x0n : Nat) (x0c : Bool) (h : AHeap) (nx : Nat) : callP Try.prog keepT (n + 1) Y 53 [(.slice x0a x0n x0c)] h nx =
    ((callP Try.prog keepT n) Y 56 [(.slice x0a x0n x0c)] h (nx + 5)).bind fun r1 =>
    (asB r1.1).bind fun t2 =>
    if (!t2) = true then
    (some ((.tuple [(.slice none 0 false), (.int .i64 4)]), r1.2.1, (r1.2.2 + 2)))
    else
    ((x0a).bind fun p3 =>
    if 0 ≤ (0 : Int) ∧ 0 < ((x0n : Nat) : Int) then
    ((ldA r1.2.1 p3.1 (p3.2 + Int.toNat 0 * 1)).bind fun v4 =>
    (asSl v4).bind fun s5 =>
    if ((((s5.2.1 : Nat) : Int) : Int) != ((x0n : Nat) : Int)) = true then
    (some ((.tuple [(.slice none 0 false), (.int .i64 1)]), r1.2.1, (r1.2.2 + 11)))
    else
    (((callP Try.prog keepT n) Y 57 [(.slice x0a x0n x0c), (.int .i64 ((x0n : Nat) : Int))] r1.2.1 (r1.2.2 + 13)).bind fun r6 =>
    (asSl r6.1).bind fun s7 =>
    ((callP Try.prog keepT n) Y 58 [(.slice s7.1 s7.2.1 s7.2.2), (.int .i64 ((x0n : Nat) : Int))] r6.2.1 (r6.2.2 + 5)).bind fun r8 =>
    (asI .i64 r8.1).bind fun n9 =>
    if (decide ((n9 : Int) < ((x0n : Nat) : Int))) = true then
    (some ((.tuple [(.slice none 0 false), (.int .i64 10)]), r8.2.1, (r8.2.2 + 2)))
    else
    (F53_L1 (callP Try.prog keepT n) Y n n ((x0n : Nat) : Int) none 0 false s7.1 s7.2.1 s7.2.2 ((s7.2.1 : Nat) : Int) 0 r8.2.1 (r8.2.2 + 4))))
    else none) := F53_eq' go1 n Y x0a x0n x0c h nx

noncomputable def c54 : Code := (Try.f54.body).getD .skip

noncomputable def r54 : List ResultVar := Try.f54.results.toList

theorem F54_eq' (J : StepF (AV × AHeap × Nat) → StepF (AV × AHeap × Nat)) (n : Nat) (Y : YldF) (x0 : Int) (x1 : Int) (h : AHeap) (nx : Nat) : rootJ J Try.prog keepT (callP Try.prog keepT n) Y n 54 [(.int .i64 x0), (.int .i64 x1)] h nx =
    let h1 := AHeap.put h (nx + 4) (some ⟨[(.int .i64 x0), (.int .i64 x1)], 1, true⟩)
    ((callP Try.prog keepT n) Y 59 [(.slice (some ((nx + 4), 0)) 2 true)] h1 (nx + 6)).bind fun r2 =>
    (asB r2.1).bind fun t3 =>
    if t3 = true then
    (some ((.tuple [(.int .i64 0), (.int .i64 2)]), r2.2.1, (r2.2.2 + 2)))
    else
    (((callP Try.prog keepT n) Y 60 [(.int .i64 x0), (.int .i64 x1)] r2.2.1 (r2.2.2 + 5)).bind fun r4 =>
    (asI .i64 r4.1).bind fun n5 =>
    some ((.tuple [(.int .i64 n5), (.int .i64 0)]), r4.2.1, r4.2.2)) := by kernel_rfl

/-- quickset/gf.Mul -/
theorem F54_eq (n : Nat) (Y : YldF) (x0 : Int) (x1 : Int) (h : AHeap) (nx : Nat) : callP Try.prog keepT (n + 1) Y 54 [(.int .i64 x0), (.int .i64 x1)] h nx =
    let h1 := AHeap.put h (nx + 4) (some ⟨[(.int .i64 x0), (.int .i64 x1)], 1, true⟩)
    ((callP Try.prog keepT n) Y 59 [(.slice (some ((nx + 4), 0)) 2 true)] h1 (nx + 6)).bind fun r2 =>
    (asB r2.1).bind fun t3 =>
    if t3 = true then
    (some ((.tuple [(.int .i64 0), (.int .i64 2)]), r2.2.1, (r2.2.2 + 2)))
    else
    (((callP Try.prog keepT n) Y 60 [(.int .i64 x0), (.int .i64 x1)] r2.2.1 (r2.2.2 + 5)).bind fun r4 =>
    (asI .i64 r4.1).bind fun n5 =>
    some ((.tuple [(.int .i64 n5), (.int .i64 0)]), r4.2.1, r4.2.2)) := F54_eq' go1 n Y x0 x1 h nx

noncomputable def c55 : Code := (Try.f55.body).getD .skip

noncomputable def r55 : List ResultVar := Try.f55.results.toList

noncomputable def F55_J1' (W J : StepF (AV × AHeap × Nat) → StepF (AV × AHeap × Nat)) (call : YldF → CallF) (Y : YldF) (lf : Nat) (x0 : Int) (x1 : Int) (h : AHeap) (nx : Nat) : Option (AV × AHeap × Nat) :=
  goK W J drawK (machOf Try.prog) call Y (keepT 55) lf c55 [1, 1] [] (retK (machOf Try.prog) ⟨c55, 16, r55, keepT 55⟩) ⟨16, mkL [(0, (.int .i64 x0)), (1, (.int .i64 x1))]⟩ h nx

noncomputable def F55_J1 (call : YldF → CallF) (Y : YldF) (lf : Nat) (x0 : Int) (x1 : Int) (h : AHeap) (nx : Nat) : Option (AV × AHeap × Nat) := F55_J1' go1 go1 call Y lf x0 x1 h nx

theorem F55_J1_eq' (J : StepF (AV × AHeap × Nat) → StepF (AV × AHeap × Nat)) (call : YldF → CallF) (Y : YldF) (lf : Nat) (x0 : Int) (x1 : Int) (h : AHeap) (nx : Nat) : F55_J1' go1 J call Y lf x0 x1 h nx =
    (call Y 61 [(.int .i64 x0), (.int .i64 x1)] h (nx + 5)).bind fun r1 =>
    (asI .i64 r1.1).bind fun n2 =>
    some ((.tuple [(.int .i64 n2), (.int .i64 0)]), r1.2.1, r1.2.2) := by kernel_rfl

theorem F55_J1_eq (call : YldF → CallF) (Y : YldF) (lf : Nat) (x0 : Int) (x1 : Int) (h : AHeap) (nx : Nat) : F55_J1 call Y lf x0 x1 h nx =
    (call Y 61 [(.int .i64 x0), (.int .i64 x1)] h (nx + 5)).bind fun r1 =>
    (asI .i64 r1.1).bind fun n2 =>
    some ((.tuple [(.int .i64 n2), (.int .i64 0)]), r1.2.1, r1.2.2) := F55_J1_eq' go1 call Y lf x0 x1 h nx

theorem F55_eq' (J : StepF (AV × AHeap × Nat) → StepF (AV × AHeap × Nat)) (n : Nat) (Y : YldF) (x0 : Int) (x1 : Int) (h : AHeap) (nx : Nat) : rootJ J Try.prog keepT (callP Try.prog keepT n) Y n 55 [(.int .i64 x0), (.int .i64 x1)] h nx =
    let h1 := AHeap.put h (nx + 3) (some ⟨[(.int .i64 x0)], 1, true⟩)
    ((callP Try.prog keepT n) Y 59 [(.slice (some ((nx + 3), 0)) 1 true)] h1 (nx + 9)).bind fun r2 =>
    (asB r2.1).bind fun t3 =>
    if t3 = true then
    (some ((.tuple [(.int .i64 0), (.int .i64 2)]), r2.2.1, (r2.2.2 + 2)))
    else
    (if (decide ((x1 : Int) < 0)) = true then
    (some ((.tuple [(.int .i64 0), (.int .i64 2)]), r2.2.1, (r2.2.2 + 2)))
    else
    (F55_J1' J J (callP Try.prog keepT n) Y n x0 x1 r2.2.1 r2.2.2)) := by kernel_rfl

/-- quickset/gf.Pow -/
theorem F55_eq (n : Nat) (Y : YldF) (x0 : Int) (x1 : Int) (h : AHeap) (nx : Nat) : callP Try.prog keepT (n + 1) Y 55 [(.int .i64 x0), (.int .i64 x1)] h nx =
    let h1 := AHeap.put h (nx + 3) (some ⟨[(.int .i64 x0)], 1, true⟩)
    ((callP Try.prog keepT n) Y 59 [(.slice (some ((nx + 3), 0)) 1 true)] h1 (nx + 9)).bind fun r2 =>
    (asB r2.1).bind fun t3 =>
    if t3 = true then
    (some ((.tuple [(.int .i64 0), (.int .i64 2)]), r2.2.1, (r2.2.2 + 2)))
    else
    (if (decide ((x1 : Int) < 0)) = true then
    (some ((.tuple [(.int .i64 0), (.int .i64 2)]), r2.2.1, (r2.2.2 + 2)))
    else
    (F55_J1 (callP Try.prog keepT n) Y n x0 x1 r2.2.1 r2.2.2)) := F55_eq' go1 n Y x0 x1 h nx

noncomputable def c56 : Code := (Try.f56.body).getD .skip

noncomputable def r56 : List ResultVar := Try.f56.results.toList

noncomputable def F56_J1' (W J : StepF (AV × AHeap × Nat) → StepF (AV × AHeap × Nat)) (call : YldF → CallF) (Y : YldF) (lf : Nat) (x0a : Option (Nat × Nat)) (x0n : Nat) (x0c : Bool) (h : AHeap) (nx : Nat) : Option (AV × AHeap × Nat) :=
  goK W J drawK (machOf Try.prog) call Y (keepT 56) lf c56 [1, 1] [] (retK (machOf Try.prog) ⟨c56, 42, r56, keepT 56⟩) ⟨42, mkL [(0, (.slice x0a x0n x0c))]⟩ h nx

noncomputable def F56_J1 (call : YldF → CallF) (Y : YldF) (lf : Nat) (x0a : Option (Nat × Nat)) (x0n : Nat) (x0c : Bool) (h : AHeap) (nx : Nat) : Option (AV × AHeap × Nat) := F56_J1' go1 go1 call Y lf x0a x0n x0c h nx

noncomputable def F56_L2' (W J : StepF (AV × AHeap × Nat) → StepF (AV × AHeap × Nat)) (call : YldF → CallF) (Y : YldF) (lf : Nat) (n0 : Nat) (x0a : Option (Nat × Nat)) (x0n : Nat) (x0c : Bool) (x13a : Option (Nat × Nat)) (x13n : Nat) (x13c : Bool) (x14 : Int) (x15 : Int) (h : AHeap) (nx : Nat) : Option (AV × AHeap × Nat) :=
  goK W J drawK (machOf Try.prog) call Y (keepT 56) lf c56 [1, 1, 0, 1, 0, 9] [n0] (retK (machOf Try.prog) ⟨c56, 42, r56, keepT 56⟩) ⟨42, mkL [(0, (.slice x0a x0n x0c)), (13, (.slice x13a x13n x13c)), (14, (.int .i64 x14)), (15, (.int .i64 x15))]⟩ h nx

noncomputable def F56_L2 (call : YldF → CallF) (Y : YldF) (lf : Nat) (n0 : Nat) (x0a : Option (Nat × Nat)) (x0n : Nat) (x0c : Bool) (x13a : Option (Nat × Nat)) (x13n : Nat) (x13c : Bool) (x14 : Int) (x15 : Int) (h : AHeap) (nx : Nat) : Option (AV × AHeap × Nat) := F56_L2' go1 go1 call Y lf n0 x0a x0n x0c x13a x13n x13c x14 x15 h nx

theorem F56_J1_eq' (J : StepF (AV × AHeap × Nat) → StepF (AV × AHeap × Nat)) (call : YldF → CallF) (Y : YldF) (lf : Nat) (x0a : Option (Nat × Nat)) (x0n : Nat) (x0c : Bool) (h : AHeap) (nx : Nat) : F56_J1' go1 J call Y lf x0a x0n x0c h nx =
    F56_L2' J J call Y lf lf x0a x0n x0c x0a x0n x0c ((x0n : Nat) : Int) 0 h (nx + 3) := by kernel_rfl

theorem F56_J1_eq (call : YldF → CallF) (Y : YldF) (lf : Nat) (x0a : Option (Nat × Nat)) (x0n : Nat) (x0c : Bool) (h : AHeap) (nx : Nat) : F56_J1 call Y lf x0a x0n x0c h nx =
    F56_L2 call Y lf lf x0a x0n x0c x0a x0n x0c ((x0n : Nat) : Int) 0 h (nx + 3) := F56_J1_eq' go1 call Y lf x0a x0n x0c h nx

theorem F56_L2_eq' (J : StepF (AV × AHeap × Nat) → StepF (AV × AHeap × Nat)) (call : YldF → CallF) (Y : YldF) (lf : Nat) (n0 : Nat) (x0a : Option (Nat × Nat)) (x0n : Nat) (x0c : Bool) (x13a : Option (Nat × Nat)) (x13n : Nat) (x13c : Bool) (x14 : Int) (x15 : Int) (h : AHeap) (nx : Nat) : F56_L2' go1 J call Y lf (n0 + 1) x0a x0n x0c x13a x13n x13c x14 x15 h nx =
    if (decide ((x15 : Int) < x14)) = true then
    ((x13a).bind fun p1 =>
    if 0 ≤ (x15 : Int) ∧ x15 < ((x13n : Nat) : Int) then
    ((ldA h p1.1 (p1.2 + Int.toNat x15 * 1)).bind fun v2 =>
    (asSl v2).bind fun s3 =>
    (x0a).bind fun p4 =>
    if 0 ≤ (0 : Int) ∧ 0 < ((x0n : Nat) : Int) then
    ((ldA h p4.1 (p4.2 + Int.toNat 0 * 1)).bind fun v5 =>
    (asSl v5).bind fun s6 =>
    if ((((s3.2.1 : Nat) : Int) : Int) != ((s6.2.1 : Nat) : Int)) = true then
    (some ((.bool false), h, (nx + 27)))
    else
    (if (decide ((((s3.2.1 : Nat) : Int) : Int) < 1)) = true then
    (some ((.bool false), h, (nx + 27)))
    else
    (if (decide ((((s3.2.1 : Nat) : Int) : Int) > 8)) = true then
    (some ((.bool false), h, (nx + 27)))
    else
    ((call Y 62 [(.slice s3.1 s3.2.1 s3.2.2)] h (nx + 26)).bind fun r7 =>
    (asB r7.1).bind fun t8 =>
    if (!t8) = true then
    (some ((.bool false), r7.2.1, (r7.2.2 + 1)))
    else
    (F56_L2' J J call Y lf n0 x0a x0n x0c x13a x13n x13c x14 (wrapA .i64 (x15 + 1)) r7.2.1 (r7.2.2 + 2))))))
    else none)
    else none)
    else
    (some ((.bool true), h, (nx + 2))) := by kernel_rfl

theorem F56_L2_eq (call : YldF → CallF) (Y : YldF) (lf : Nat) (n0 : Nat) (x0a : Option (Nat × Nat)) (x0n : Nat) (x0c : Bool) (x13a : Option (Nat × Nat)) (x13n : Nat) (x13c : Bool) (x14 : Int) (x15 : Int) (h : AHeap) (nx : Nat) : F56_L2 call Y lf (n0 + 1) x0a x0n x0c x13a x13n x13c x14 x15 h nx =
    if (decide ((x15 : Int) < x14)) = true then
    ((x13a).bind fun p1 =>
    if 0 ≤ (x15 : Int) ∧ x15 < ((x13n : Nat) : Int) then
    ((ldA h p1.1 (p1.2 + Int.toNat x15 * 1)).bind fun v2 =>
    (asSl v2).bind fun s3 =>
    (x0a).bind fun p4 =>
    if 0 ≤ (0 : Int) ∧ 0 < ((x0n : Nat) : Int) then
    ((ldA h p4.1 (p4.2 + Int.toNat 0 * 1)).bind fun v5 =>
    (asSl v5).bind fun s6 =>
    if ((((s3.2.1 : Nat) : Int) : Int) != ((s6.2.1 : Nat) : Int)) = true then
    (some ((.bool false), h, (nx + 27)))
    else
    (if (decide ((((s3.2.1 : Nat) : Int) : Int) < 1)) = true then
    (some ((.bool false), h, (nx + 27)))
    else
    (if (decide ((((s3.2.1 : Nat) : Int) : Int) > 8)) = true then
    (some ((.bool false), h, (nx + 27)))
    else
    ((call Y 62 [(.slice s3.1 s3.2.1 s3.2.2)] h (nx + 26)).bind fun r7 =>
    (asB r7.1).bind fun t8 =>
    if (!t8) = true then
    (some ((.bool false), r7.2.1, (r7.2.2 + 1)))
    else
    (F56_L2 call Y lf n0 x0a x0n x0c x13a x13n x13c x14 (wrapA .i64 (x15 + 1)) r7.2.1 (r7.2.2 + 2))))))
    else none)
    else none)
    else
    (some ((.bool true), h, (nx + 2))) := F56_L2_eq' go1 call Y lf n0 x0a x0n x0c x13a x13n x13c x14 x15 h nx

theorem F56_L2_zero (call : YldF → CallF) (Y : YldF) (lf : Nat) (x0a : Option (Nat × Nat)) (x0n : Nat) (x0c : Bool) (x13a : Option (Nat × Nat)) (x13n : Nat) (x13c : Bool) (x14 : Int) (x15 : Int) (h : AHeap) (nx : Nat) : F56_L2 call Y lf 0 x0a x0n x0c x13a x13n x13c x14 x15 h nx = none := by kernel_rfl

theorem F56_eq' (J : StepF (AV × AHeap × Nat) → StepF (AV × AHeap × Nat)) (n : Nat) (Y : YldF) (x0a : Option (Nat × Nat)) (x0n : Nat) (x0c : Bool) (h : AHeap) (nx : Nat) : rootJ J Try.prog keepT (callP Try.prog keepT n) Y n 56 [(.slice x0a x0n x0c)] h nx =
    if (decide ((((x0n : Nat) : Int) : Int) < 1)) = true then
    (some ((.bool false), h, (nx + 10)))
    else
    (if (decide ((((x0n : Nat) : Int) : Int) > 8)) = true then
    (some ((.bool false), h, (nx + 10)))
    else
    (F56_J1' J J (callP Try.prog keepT n) Y n x0a x0n x0c h (nx + 9))) := by kernel_rfl

/-- quickset/mat.May -/
theorem F56_eq (n : Nat) (Y : YldF) (x0a : Option (Nat × Nat)) (x0n : Nat) (x0c : Bool) (h : AHeap) (nx : Nat) : callP Try.prog keepT (n + 1) Y 56 [(.slice x0a x0n x0c)] h nx =
    if (decide ((((x0n : Nat) : Int) : Int) < 1)) = true then
    (some ((.bool false), h, (nx + 10)))
    else
    (if (decide ((((x0n : Nat) : Int) : Int) > 8)) = true then
    (some ((.bool false), h, (nx + 10)))
    else
    (F56_J1 (callP Try.prog keepT n) Y n x0a x0n x0c h (nx + 9))) := F56_eq' go1 n Y x0a x0n x0c h nx

noncomputable def c57 : Code := (Try.f57.body).getD .skip

noncomputable def r57 : List ResultVar := Try.f57.results.toList

noncomputable def F57_L1' (W J : StepF (AV × AHeap × Nat) → StepF (AV × AHeap × Nat)) (call : YldF → CallF) (Y : YldF) (lf : Nat) (n0 : Nat) (x1 : Int) (x5a : Option (Nat × Nat)) (x5n : Nat) (x5c : Bool) (x9a : Option (Nat × Nat)) (x9n : Nat) (x9c : Bool) (x10 : Int) (x11 : Int) (h : AHeap) (nx : Nat) : Option (AV × AHeap × Nat) :=
  goK W J drawK (machOf Try.prog) call Y (keepT 57) lf c57 [1, 1, 0, 1, 0, 9] [n0] (retK (machOf Try.prog) ⟨c57, 38, r57, keepT 57⟩) ⟨38, mkL [(1, (.int .i64 x1)), (5, (.slice x5a x5n x5c)), (9, (.slice x9a x9n x9c)), (10, (.int .i64 x10)), (11, (.int .i64 x11))]⟩ h nx

noncomputable def F57_L1 (call : YldF → CallF) (Y : YldF) (lf : Nat) (n0 : Nat) (x1 : Int) (x5a : Option (Nat × Nat)) (x5n : Nat) (x5c : Bool) (x9a : Option (Nat × Nat)) (x9n : Nat) (x9c : Bool) (x10 : Int) (x11 : Int) (h : AHeap) (nx : Nat) : Option (AV × AHeap × Nat) := F57_L1' go1 go1 call Y lf n0 x1 x5a x5n x5c x9a x9n x9c x10 x11 h nx

noncomputable def F57_J2' (W J : StepF (AV × AHeap × Nat) → StepF (AV × AHeap × Nat)) (call : YldF → CallF) (Y : YldF) (lf : Nat) (n0 : Nat) (x1 : Int) (x5a : Option (Nat × Nat)) (x5n : Nat) (x5c : Bool) (x8a : Option (Nat × Nat)) (x8n : Nat) (x8c : Bool) (x9a : Option (Nat × Nat)) (x9n : Nat) (x9c : Bool) (x10 : Int) (x11 : Int) (h : AHeap) (nx : Nat) : Option (AV × AHeap × Nat) :=
  goK W J drawK (machOf Try.prog) call Y (keepT 57) lf c57 [1, 1, 0, 1, 0, 0, 1, 1, 0, 0, 1, 1, 1, 1] [n0] (retK (machOf Try.prog) ⟨c57, 38, r57, keepT 57⟩) ⟨38, mkL [(1, (.int .i64 x1)), (5, (.slice x5a x5n x5c)), (8, (.slice x8a x8n x8c)), (9, (.slice x9a x9n x9c)), (10, (.int .i64 x10)), (11, (.int .i64 x11))]⟩ h nx

noncomputable def F57_J2 (call : YldF → CallF) (Y : YldF) (lf : Nat) (n0 : Nat) (x1 : Int) (x5a : Option (Nat × Nat)) (x5n : Nat) (x5c : Bool) (x8a : Option (Nat × Nat)) (x8n : Nat) (x8c : Bool) (x9a : Option (Nat × Nat)) (x9n : Nat) (x9c : Bool) (x10 : Int) (x11 : Int) (h : AHeap) (nx : Nat) : Option (AV × AHeap × Nat) := F57_J2' go1 go1 call Y lf n0 x1 x5a x5n x5c x8a x8n x8c x9a x9n x9c x10 x11 h nx

theorem F57_L1_eq' (J : StepF (AV × AHeap × Nat) → StepF (AV × AHeap × Nat)) (call : YldF → CallF) (Y : YldF) (lf : Nat) (n0 : Nat) (x1 : Int) (x5a : Option (Nat × Nat)) (x5n : Nat) (x5c : Bool) (x9a : Option (Nat × Nat)) (x9n : Nat) (x9c : Bool) (x10 : Int) (x11 : Int) (h : AHeap) (nx : Nat) : F57_L1' go1 J call Y lf (n0 + 1) x1 x5a x5n x5c x9a x9n x9c x10 x11 h nx =
    if (decide ((x11 : Int) < x10)) = true then
    ((x9a).bind fun p1 =>
    if 0 ≤ (x11 : Int) ∧ x11 < ((x9n : Nat) : Int) then
    ((ldA h p1.1 (p1.2 + Int.toNat x11 * 1)).bind fun v2 =>
    (asSl v2).bind fun s3 =>
    if (decide (0 ≤ ((wrapA .i64 (((s3.2.1 : Nat) : Int) + x1)) : Int)) && decide (((wrapA .i64 (((s3.2.1 : Nat) : Int) + x1)) : Int) ≤ (wrapA .i64 (((s3.2.1 : Nat) : Int) + x1))) && decide (((8 : Nat) : Int) * (wrapA .i64 (((s3.2.1 : Nat) : Int) + x1)) ≤ 281474976710656) && decide (((wrapA .i64 (((s3.2.1 : Nat) : Int) + x1)) : Int) ≤ 9223372036854775807) && 1 != 0) = true then
    (let h4 := AHeap.put h (nx + 10) (some ⟨(madeA [(.int .i64 0)] (Int.toNat (wrapA .i64 (((s3.2.1 : Nat) : Int) + x1)) * 1)), 1, true⟩)
    (copD h4 (some ((nx + 10), 0)) (Int.toNat (wrapA .i64 (((s3.2.1 : Nat) : Int) + x1))) s3.1 s3.2.1 1).bind fun q5 =>
    let h6 := AHeap.puts h4 q5.2.1
    if (decide ((x1 : Int) > 0)) = true then
    (if 0 ≤ ((wrapA .i64 (((s3.2.1 : Nat) : Int) + x11)) : Int) ∧ (wrapA .i64 (((s3.2.1 : Nat) : Int) + x11)) < (((Int.toNat (wrapA .i64 (((s3.2.1 : Nat) : Int) + x1))) : Nat) : Int) then
    ((stA h6 (nx + 10) (0 + Int.toNat (wrapA .i64 (((s3.2.1 : Nat) : Int) + x11)) * 1) (.int .i64 1) 1).bind fun b7 =>
    let h8 := AHeap.put h6 (nx + 10) (some b7)
    F57_J2' J J call Y lf n0 x1 x5a x5n x5c (some ((nx + 10), 0)) (Int.toNat (wrapA .i64 (((s3.2.1 : Nat) : Int) + x1))) ((wrapA .i64 (((s3.2.1 : Nat) : Int) + x1)) == (wrapA .i64 (((s3.2.1 : Nat) : Int) + x1))) x9a x9n x9c x10 x11 h8 (nx + 24))
    else none)
    else
    (F57_J2' J J call Y lf n0 x1 x5a x5n x5c (some ((nx + 10), 0)) (Int.toNat (wrapA .i64 (((s3.2.1 : Nat) : Int) + x1))) ((wrapA .i64 (((s3.2.1 : Nat) : Int) + x1)) == (wrapA .i64 (((s3.2.1 : Nat) : Int) + x1))) x9a x9n x9c x10 x11 h6 (nx + 17)))
    else none)
    else none)
    else
    (some ((.slice x5a x5n x5c), h, (nx + 3))) := by kernel_rfl

theorem F57_L1_eq (call : YldF → CallF) (Y : YldF) (lf : Nat) (n0 : Nat) (x1 : Int) (x5a : Option (Nat × Nat)) (x5n : Nat) (x5c : Bool) (x9a : Option (Nat × Nat)) (x9n : Nat) (x9c : Bool) (x10 : Int) (x11 : Int) (h : AHeap) (nx : Nat) : F57_L1 call Y lf (n0 + 1) x1 x5a x5n x5c x9a x9n x9c x10 x11 h nx =
    if (decide ((x11 : Int) < x10)) = true then
    ((x9a).bind fun p1 =>
    if 0 ≤ (x11 : Int) ∧ x11 < ((x9n : Nat) : Int) then
    ((ldA h p1.1 (p1.2 + Int.toNat x11 * 1)).bind fun v2 =>
    (asSl v2).bind fun s3 =>
    if (decide (0 ≤ ((wrapA .i64 (((s3.2.1 : Nat) : Int) + x1)) : Int)) && decide (((wrapA .i64 (((s3.2.1 : Nat) : Int) + x1)) : Int) ≤ (wrapA .i64 (((s3.2.1 : Nat) : Int) + x1))) && decide (((8 : Nat) : Int) * (wrapA .i64 (((s3.2.1 : Nat) : Int) + x1)) ≤ 281474976710656) && decide (((wrapA .i64 (((s3.2.1 : Nat) : Int) + x1)) : Int) ≤ 9223372036854775807) && 1 != 0) = true then
    (let h4 := AHeap.put h (nx + 10) (some ⟨(madeA [(.int .i64 0)] (Int.toNat (wrapA .i64 (((s3.2.1 : Nat) : Int) + x1)) * 1)), 1, true⟩)
    (copD h4 (some ((nx + 10), 0)) (Int.toNat (wrapA .i64 (((s3.2.1 : Nat) : Int) + x1))) s3.1 s3.2.1 1).bind fun q5 =>
    let h6 := AHeap.puts h4 q5.2.1
    if (decide ((x1 : Int) > 0)) = true then
    (if 0 ≤ ((wrapA .i64 (((s3.2.1 : Nat) : Int) + x11)) : Int) ∧ (wrapA .i64 (((s3.2.1 : Nat) : Int) + x11)) < (((Int.toNat (wrapA .i64 (((s3.2.1 : Nat) : Int) + x1))) : Nat) : Int) then
    ((stA h6 (nx + 10) (0 + Int.toNat (wrapA .i64 (((s3.2.1 : Nat) : Int) + x11)) * 1) (.int .i64 1) 1).bind fun b7 =>
    let h8 := AHeap.put h6 (nx + 10) (some b7)
    F57_J2 call Y lf n0 x1 x5a x5n x5c (some ((nx + 10), 0)) (Int.toNat (wrapA .i64 (((s3.2.1 : Nat) : Int) + x1))) ((wrapA .i64 (((s3.2.1 : Nat) : Int) + x1)) == (wrapA .i64 (((s3.2.1 : Nat) : Int) + x1))) x9a x9n x9c x10 x11 h8 (nx + 24))
    else none)
    else
    (F57_J2 call Y lf n0 x1 x5a x5n x5c (some ((nx + 10), 0)) (Int.toNat (wrapA .i64 (((s3.2.1 : Nat) : Int) + x1))) ((wrapA .i64 (((s3.2.1 : Nat) : Int) + x1)) == (wrapA .i64 (((s3.2.1 : Nat) : Int) + x1))) x9a x9n x9c x10 x11 h6 (nx + 17)))
    else none)
    else none)
    else
    (some ((.slice x5a x5n x5c), h, (nx + 3))) := F57_L1_eq' go1 call Y lf n0 x1 x5a x5n x5c x9a x9n x9c x10 x11 h nx

theorem F57_L1_zero (call : YldF → CallF) (Y : YldF) (lf : Nat) (x1 : Int) (x5a : Option (Nat × Nat)) (x5n : Nat) (x5c : Bool) (x9a : Option (Nat × Nat)) (x9n : Nat) (x9c : Bool) (x10 : Int) (x11 : Int) (h : AHeap) (nx : Nat) : F57_L1 call Y lf 0 x1 x5a x5n x5c x9a x9n x9c x10 x11 h nx = none := by kernel_rfl

theorem F57_J2_eq' (J : StepF (AV × AHeap × Nat) → StepF (AV × AHeap × Nat)) (call : YldF → CallF) (Y : YldF) (lf : Nat) (n0 : Nat) (x1 : Int) (x5a : Option (Nat × Nat)) (x5n : Nat) (x5c : Bool) (x8a : Option (Nat × Nat)) (x8n : Nat) (x8c : Bool) (x9a : Option (Nat × Nat)) (x9n : Nat) (x9c : Bool) (x10 : Int) (x11 : Int) (h : AHeap) (nx : Nat) : F57_J2' go1 J call Y lf n0 x1 x5a x5n x5c x8a x8n x8c x9a x9n x9c x10 x11 h nx =
    let h1 := AHeap.put h (nx + 2) (some ⟨[(.slice x8a x8n x8c)], 1, true⟩)
    (srcS h1 (some ((nx + 2), 0)) 1 1).bind fun q2 =>
    (appD h1 x5a x5n x5c 1 24 (nx + 3) q2).bind fun e3 =>
    let h4 := AHeap.puts h1 e3.sets
    F57_L1' J J call Y lf n0 x1 e3.a e3.n e3.c x9a x9n x9c x10 (wrapA .i64 (x11 + 1)) h4 (nx + 7) := by kernel_rfl

theorem F57_J2_eq (call : YldF → CallF) (Y : YldF) (lf : Nat) (n0 : Nat) (x1 : Int) (x5a : Option (Nat × Nat)) (x5n : Nat) (x5c : Bool) (x8a : Option (Nat × Nat)) (x8n : Nat) (x8c : Bool) (x9a : Option (Nat × Nat)) (x9n : Nat) (x9c : Bool) (x10 : Int) (x11 : Int) (h : AHeap) (nx : Nat) : F57_J2 call Y lf n0 x1 x5a x5n x5c x8a x8n x8c x9a x9n x9c x10 x11 h nx =
    let h1 := AHeap.put h (nx + 2) (some ⟨[(.slice x8a x8n x8c)], 1, true⟩)
    (srcS h1 (some ((nx + 2), 0)) 1 1).bind fun q2 =>
    (appD h1 x5a x5n x5c 1 24 (nx + 3) q2).bind fun e3 =>
    let h4 := AHeap.puts h1 e3.sets
    F57_L1 call Y lf n0 x1 e3.a e3.n e3.c x9a x9n x9c x10 (wrapA .i64 (x11 + 1)) h4 (nx + 7) := F57_J2_eq' go1 call Y lf n0 x1 x5a x5n x5c x8a x8n x8c x9a x9n x9c x10 x11 h nx

theorem F57_eq' (J : StepF (AV × AHeap × Nat) → StepF (AV × AHeap × Nat)) (n : Nat) (Y : YldF) (x0a : Option (Nat × Nat)) (x0n : Nat) (x0c : Bool) (x1 : Int) (h : AHeap) (nx : Nat) : rootJ J Try.prog keepT (callP Try.prog keepT n) Y n 57 [(.slice x0a x0n x0c), (.int .i64 x1)] h nx =
    F57_L1' J J (callP Try.prog keepT n) Y n n x1 none 0 false x0a x0n x0c ((x0n : Nat) : Int) 0 h (nx + 5) := by kernel_rfl

/-- quickset/mat.beside -/
theorem F57_eq (n : Nat) (Y : YldF) (x0a : Option (Nat × Nat)) (x0n : Nat) (x0c : Bool) (x1 : Int) (h : AHeap) (nx : Nat) : callP Try.prog keepT (n + 1) Y 57 [(.slice x0a x0n x0c), (.int .i64 x1)] h nx =
    F57_L1 (callP Try.prog keepT n) Y n n x1 none 0 false x0a x0n x0c ((x0n : Nat) : Int) 0 h (nx + 5) := F57_eq' go1 n Y x0a x0n x0c x1 h nx

noncomputable def c58 : Code := (Try.f58.body).getD .skip

noncomputable def r58 : List ResultVar := Try.f58.results.toList

noncomputable def F58_L1' (W J : StepF (AV × AHeap × Nat) → StepF (AV × AHeap × Nat)) (call : YldF → CallF) (Y : YldF) (lf : Nat) (n0 : Nat) (x0a : Option (Nat × Nat)) (x0n : Nat) (x0c : Bool) (x1 : Int) (x5 : Int) (x6 : Option (Nat × Nat)) (h : AHeap) (nx : Nat) : Option (AV × AHeap × Nat) :=
  goK W J drawK (machOf Try.prog) call Y (keepT 58) lf c58 [1, 1, 0, 1, 0, 9] [n0] (retK (machOf Try.prog) ⟨c58, 123, r58, keepT 58⟩) ⟨123, mkL [(0, (.slice x0a x0n x0c)), (1, (.int .i64 x1)), (5, (.int .i64 x5)), (6, (.ptr x6))]⟩ h nx

noncomputable def F58_L1 (call : YldF → CallF) (Y : YldF) (lf : Nat) (n0 : Nat) (x0a : Option (Nat × Nat)) (x0n : Nat) (x0c : Bool) (x1 : Int) (x5 : Int) (x6 : Option (Nat × Nat)) (h : AHeap) (nx : Nat) : Option (AV × AHeap × Nat) := F58_L1' go1 go1 call Y lf n0 x0a x0n x0c x1 x5 x6 h nx

noncomputable def F58_J2' (W J : StepF (AV × AHeap × Nat) → StepF (AV × AHeap × Nat)) (call : YldF → CallF) (Y : YldF) (lf : Nat) (n0 : Nat) (x0a : Option (Nat × Nat)) (x0n : Nat) (x0c : Bool) (x1 : Int) (x5 : Int) (x6 : Option (Nat × Nat)) (h : AHeap) (nx : Nat) : Option (AV × AHeap × Nat) :=
  goK W J drawK (machOf Try.prog) call Y (keepT 58) lf c58 [1, 1, 0, 1, 0, 0, 1] [n0] (retK (machOf Try.prog) ⟨c58, 123, r58, keepT 58⟩) ⟨123, mkL [(0, (.slice x0a x0n x0c)), (1, (.int .i64 x1)), (5, (.int .i64 x5)), (6, (.ptr x6))]⟩ h nx

noncomputable def F58_J2 (call : YldF → CallF) (Y : YldF) (lf : Nat) (n0 : Nat) (x0a : Option (Nat × Nat)) (x0n : Nat) (x0c : Bool) (x1 : Int) (x5 : Int) (x6 : Option (Nat × Nat)) (h : AHeap) (nx : Nat) : Option (AV × AHeap × Nat) := F58_J2' go1 go1 call Y lf n0 x0a x0n x0c x1 x5 x6 h nx

noncomputable def F58_J3' (W J : StepF (AV × AHeap × Nat) → StepF (AV × AHeap × Nat)) (call : YldF → CallF) (Y : YldF) (lf : Nat) (n0 : Nat) (x0a : Option (Nat × Nat)) (x0n : Nat) (x0c : Bool) (x1 : Int) (x5 : Int) (x6 : Option (Nat × Nat)) (h : AHeap) (nx : Nat) : Option (AV × AHeap × Nat) :=
  goK W J drawK (machOf Try.prog) call Y (keepT 58) lf c58 [1, 1, 0, 1, 0, 0, 1, 1] [n0] (retK (machOf Try.prog) ⟨c58, 123, r58, keepT 58⟩) ⟨123, mkL [(0, (.slice x0a x0n x0c)), (1, (.int .i64 x1)), (5, (.int .i64 x5)), (6, (.ptr x6))]⟩ h nx

noncomputable def F58_J3 (call : YldF → CallF) (Y : YldF) (lf : Nat) (n0 : Nat) (x0a : Option (Nat × Nat)) (x0n : Nat) (x0c : Bool) (x1 : Int) (x5 : Int) (x6 : Option (Nat × Nat)) (h : AHeap) (nx : Nat) : Option (AV × AHeap × Nat) := F58_J3' go1 go1 call Y lf n0 x0a x0n x0c x1 x5 x6 h nx

noncomputable def F58_L4' (W J : StepF (AV × AHeap × Nat) → StepF (AV × AHeap × Nat)) (call : YldF → CallF) (Y : YldF) (lf : Nat) (n0 : Nat) (n1 : Nat) (x0a : Option (Nat × Nat)) (x0n : Nat) (x0c : Bool) (x1 : Int) (x5 : Int) (x6 : Option (Nat × Nat)) (x8a : Option (Nat × Nat)) (x8n : Nat) (x8c : Bool) (x9 : Int) (x65 : Int) (x66 : Int) (h : AHeap) (nx : Nat) : Option (AV × AHeap × Nat) :=
  goK W J drawK (machOf Try.prog) call Y (keepT 58) lf c58 [1, 1, 0, 1, 0, 0, 1, 0, 0, 1, 1, 1, 1, 1, 0, 1, 0, 9] [n0, n1] (retK (machOf Try.prog) ⟨c58, 123, r58, keepT 58⟩) ⟨123, mkL [(0, (.slice x0a x0n x0c)), (1, (.int .i64 x1)), (5, (.int .i64 x5)), (6, (.ptr x6)), (8, (.slice x8a x8n x8c)), (9, (.int .i64 x9)), (65, (.int .i64 x65)), (66, (.int .i64 x66))]⟩ h nx

noncomputable def F58_L4 (call : YldF → CallF) (Y : YldF) (lf : Nat) (n0 : Nat) (n1 : Nat) (x0a : Option (Nat × Nat)) (x0n : Nat) (x0c : Bool) (x1 : Int) (x5 : Int) (x6 : Option (Nat × Nat)) (x8a : Option (Nat × Nat)) (x8n : Nat) (x8c : Bool) (x9 : Int) (x65 : Int) (x66 : Int) (h : AHeap) (nx : Nat) : Option (AV × AHeap × Nat) := F58_L4' go1 go1 call Y lf n0 n1 x0a x0n x0c x1 x5 x6 x8a x8n x8c x9 x65 x66 h nx

noncomputable def F58_L5' (W J : StepF (AV × AHeap × Nat) → StepF (AV × AHeap × Nat)) (call : YldF → CallF) (Y : YldF) (lf : Nat) (n0 : Nat) (n1 : Nat) (x0a : Option (Nat × Nat)) (x0n : Nat) (x0c : Bool) (x1 : Int) (x5 : Int) (x6 : Option (Nat × Nat)) (x8a : Option (Nat × Nat)) (x8n : Nat) (x8c : Bool) (x79a : Option (Nat × Nat)) (x79n : Nat) (x79c : Bool) (x80 : Int) (x81 : Int) (h : AHeap) (nx : Nat) : Option (AV × AHeap × Nat) :=
  goK W J drawK (machOf Try.prog) call Y (keepT 58) lf c58 [1, 1, 0, 1, 0, 0, 1, 0, 0, 1, 1, 1, 1, 1, 1, 0, 1, 0, 9] [n0, n1] (retK (machOf Try.prog) ⟨c58, 123, r58, keepT 58⟩) ⟨123, mkL [(0, (.slice x0a x0n x0c)), (1, (.int .i64 x1)), (5, (.int .i64 x5)), (6, (.ptr x6)), (8, (.slice x8a x8n x8c)), (79, (.slice x79a x79n x79c)), (80, (.int .i64 x80)), (81, (.int .i64 x81))]⟩ h nx

noncomputable def F58_L5 (call : YldF → CallF) (Y : YldF) (lf : Nat) (n0 : Nat) (n1 : Nat) (x0a : Option (Nat × Nat)) (x0n : Nat) (x0c : Bool) (x1 : Int) (x5 : Int) (x6 : Option (Nat × Nat)) (x8a : Option (Nat × Nat)) (x8n : Nat) (x8c : Bool) (x79a : Option (Nat × Nat)) (x79n : Nat) (x79c : Bool) (x80 : Int) (x81 : Int) (h : AHeap) (nx : Nat) : Option (AV × AHeap × Nat) := F58_L5' go1 go1 call Y lf n0 n1 x0a x0n x0c x1 x5 x6 x8a x8n x8c x79a x79n x79c x80 x81 h nx

noncomputable def F58_J6' (W J : StepF (AV × AHeap × Nat) → StepF (AV × AHeap × Nat)) (call : YldF → CallF) (Y : YldF) (lf : Nat) (n0 : Nat) (n1 : Nat) (x0a : Option (Nat × Nat)) (x0n : Nat) (x0c : Bool) (x1 : Int) (x5 : Int) (x6 : Option (Nat × Nat)) (x8a : Option (Nat × Nat)) (x8n : Nat) (x8c : Bool) (x13a : Option (Nat × Nat)) (x13n : Nat) (x13c : Bool) (x79a : Option (Nat × Nat)) (x79n : Nat) (x79c : Bool) (x80 : Int) (x81 : Int) (h : AHeap) (nx : Nat) : Option (AV × AHeap × Nat) :=
  goK W J drawK (machOf Try.prog) call Y (keepT 58) lf c58 [1, 1, 0, 1, 0, 0, 1, 0, 0, 1, 1, 1, 1, 1, 1, 0, 1, 0, 0, 1, 1, 0, 0, 1, 1] [n0, n1] (retK (machOf Try.prog) ⟨c58, 123, r58, keepT 58⟩) ⟨123, mkL [(0, (.slice x0a x0n x0c)), (1, (.int .i64 x1)), (5, (.int .i64 x5)), (6, (.ptr x6)), (8, (.slice x8a x8n x8c)), (13, (.slice x13a x13n x13c)), (79, (.slice x79a x79n x79c)), (80, (.int .i64 x80)), (81, (.int .i64 x81))]⟩ h nx

noncomputable def F58_J6 (call : YldF → CallF) (Y : YldF) (lf : Nat) (n0 : Nat) (n1 : Nat) (x0a : Option (Nat × Nat)) (x0n : Nat) (x0c : Bool) (x1 : Int) (x5 : Int) (x6 : Option (Nat × Nat)) (x8a : Option (Nat × Nat)) (x8n : Nat) (x8c : Bool) (x13a : Option (Nat × Nat)) (x13n : Nat) (x13c : Bool) (x79a : Option (Nat × Nat)) (x79n : Nat) (x79c : Bool) (x80 : Int) (x81 : Int) (h : AHeap) (nx : Nat) : Option (AV × AHeap × Nat) := F58_J6' go1 go1 call Y lf n0 n1 x0a x0n x0c x1 x5 x6 x8a x8n x8c x13a x13n x13c x79a x79n x79c x80 x81 h nx

noncomputable def F58_L7' (W J : StepF (AV × AHeap × Nat) → StepF (AV × AHeap × Nat)) (call : YldF → CallF) (Y : YldF) (lf : Nat) (n0 : Nat) (n1 : Nat) (n2 : Nat) (x0a : Option (Nat × Nat)) (x0n : Nat) (x0c : Bool) (x1 : Int) (x5 : Int) (x6 : Option (Nat × Nat)) (x8a : Option (Nat × Nat)) (x8n : Nat) (x8c : Bool) (x13a : Option (Nat × Nat)) (x13n : Nat) (x13c : Bool) (x14 : Int) (x79a : Option (Nat × Nat)) (x79n : Nat) (x79c : Bool) (x80 : Int) (x81 : Int) (x101 : Int) (x102 : Int) (h : AHeap) (nx : Nat) : Option (AV × AHeap × Nat) :=
  goK W J drawK (machOf Try.prog) call Y (keepT 58) lf c58 [1, 1, 0, 1, 0, 0, 1, 0, 0, 1, 1, 1, 1, 1, 1, 0, 1, 0, 0, 1, 1, 0, 0, 1, 1, 1, 1, 0, 9] [n0, n1, n2] (retK (machOf Try.prog) ⟨c58, 123, r58, keepT 58⟩) ⟨123, mkL [(0, (.slice x0a x0n x0c)), (1, (.int .i64 x1)), (5, (.int .i64 x5)), (6, (.ptr x6)), (8, (.slice x8a x8n x8c)), (13, (.slice x13a x13n x13c)), (14, (.int .i64 x14)), (79, (.slice x79a x79n x79c)), (80, (.int .i64 x80)), (81, (.int .i64 x81)), (101, (.int .i64 x101)), (102, (.int .i64 x102))]⟩ h nx

noncomputable def F58_L7 (call : YldF → CallF) (Y : YldF) (lf : Nat) (n0 : Nat) (n1 : Nat) (n2 : Nat) (x0a : Option (Nat × Nat)) (x0n : Nat) (x0c : Bool) (x1 : Int) (x5 : Int) (x6 : Option (Nat × Nat)) (x8a : Option (Nat × Nat)) (x8n : Nat) (x8c : Bool) (x13a : Option (Nat × Nat)) (x13n : Nat) (x13c : Bool) (x14 : Int) (x79a : Option (Nat × Nat)) (x79n : Nat) (x79c : Bool) (x80 : Int) (x81 : Int) (x101 : Int) (x102 : Int) (h : AHeap) (nx : Nat) : Option (AV × AHeap × Nat) := F58_L7' go1 go1 call Y lf n0 n1 n2 x0a x0n x0c x1 x5 x6 x8a x8n x8c x13a x13n x13c x14 x79a x79n x79c x80 x81 x101 x102 h nx

theorem F58_L1_eq' (J : StepF (AV × AHeap × Nat) → StepF (AV × AHeap × Nat)) (call : YldF → CallF) (Y : YldF) (lf : Nat) (n0 : Nat) (x0a : Option (Nat × Nat)) (x0n : Nat) (x0c : Bool) (x1 : Int) (x5 : Int) (x6 : Option (Nat × Nat)) (h : AHeap) (nx : Nat) : F58_L1' go1 J call Y lf (n0 + 1) x0a x0n x0c x1 x5 x6 h nx =
    (x6).bind fun p1 =>
    (ldA h p1.1 p1.2).bind fun v2 =>
    (asI .i64 v2).bind fun n3 =>
    if (decide ((n3 : Int) < x1)) = true then
    (if (decide ((x5 : Int) < ((x0n : Nat) : Int))) = true then
    (F58_J2' J J call Y lf n0 x0a x0n x0c x1 x5 x6 h (nx + 9))
    else
    (some ((.int .i64 x5), h, (nx + 11))))
    else
    (some ((.int .i64 x5), h, (nx + 11))) := by kernel_rfl

theorem F58_L1_eq (call : YldF → CallF) (Y : YldF) (lf : Nat) (n0 : Nat) (x0a : Option (Nat × Nat)) (x0n : Nat) (x0c : Bool) (x1 : Int) (x5 : Int) (x6 : Option (Nat × Nat)) (h : AHeap) (nx : Nat) : F58_L1 call Y lf (n0 + 1) x0a x0n x0c x1 x5 x6 h nx =
    (x6).bind fun p1 =>
    (ldA h p1.1 p1.2).bind fun v2 =>
    (asI .i64 v2).bind fun n3 =>
    if (decide ((n3 : Int) < x1)) = true then
    (if (decide ((x5 : Int) < ((x0n : Nat) : Int))) = true then
    (F58_J2 call Y lf n0 x0a x0n x0c x1 x5 x6 h (nx + 9))
    else
    (some ((.int .i64 x5), h, (nx + 11))))
    else
    (some ((.int .i64 x5), h, (nx + 11))) := F58_L1_eq' go1 call Y lf n0 x0a x0n x0c x1 x5 x6 h nx

theorem F58_L1_zero (call : YldF → CallF) (Y : YldF) (lf : Nat) (x0a : Option (Nat × Nat)) (x0n : Nat) (x0c : Bool) (x1 : Int) (x5 : Int) (x6 : Option (Nat × Nat)) (h : AHeap) (nx : Nat) : F58_L1 call Y lf 0 x0a x0n x0c x1 x5 x6 h nx = none := by kernel_rfl

theorem F58_J2_eq' (J : StepF (AV × AHeap × Nat) → StepF (AV × AHeap × Nat)) (call : YldF → CallF) (Y : YldF) (lf : Nat) (n0 : Nat) (x0a : Option (Nat × Nat)) (x0n : Nat) (x0c : Bool) (x1 : Int) (x5 : Int) (x6 : Option (Nat × Nat)) (h : AHeap) (nx : Nat) : F58_J2' go1 J call Y lf n0 x0a x0n x0c x1 x5 x6 h nx =
    (cutA h x0a x0n x0c 1 (some (.int .i64 x5)) none none).bind fun s1 =>
    (call Y 63 [(.slice s1.1 s1.2.1 s1.2.2), (.fn 64 [] [(.ptr x6)])] h (nx + 6)).bind fun r2 =>
    (asI .i64 r2.1).bind fun n3 =>
    if (decide ((n3 : Int) < 0)) = true then
    (F58_J3' J J call Y lf n0 x0a x0n x0c x1 x5 x6 r2.2.1 (r2.2.2 + 2))
    else
    ((x0a).bind fun p4 =>
    if 0 ≤ ((wrapA .i64 (x5 + n3)) : Int) ∧ (wrapA .i64 (x5 + n3)) < ((x0n : Nat) : Int) then
    ((ldA r2.2.1 p4.1 (p4.2 + Int.toNat (wrapA .i64 (x5 + n3)) * 1)).bind fun v5 =>
    (asSl v5).bind fun s6 =>
    (x0a).bind fun p7 =>
    if 0 ≤ (x5 : Int) ∧ x5 < ((x0n : Nat) : Int) then
    ((ldA r2.2.1 p7.1 (p7.2 + Int.toNat x5 * 1)).bind fun v8 =>
    (asSl v8).bind fun s9 =>
    (x0a).bind fun p10 =>
    if 0 ≤ (x5 : Int) ∧ x5 < ((x0n : Nat) : Int) then
    ((stA r2.2.1 p10.1 (p10.2 + Int.toNat x5 * 1) (.slice s6.1 s6.2.1 s6.2.2) 1).bind fun b11 =>
    let h12 := AHeap.put r2.2.1 p10.1 (some b11)
    (x0a).bind fun p13 =>
    if 0 ≤ ((wrapA .i64 (x5 + n3)) : Int) ∧ (wrapA .i64 (x5 + n3)) < ((x0n : Nat) : Int) then
    ((stA h12 p13.1 (p13.2 + Int.toNat (wrapA .i64 (x5 + n3)) * 1) (.slice s9.1 s9.2.1 s9.2.2) 1).bind fun b14 =>
    let h15 := AHeap.put h12 p13.1 (some b14)
    (x0a).bind fun p16 =>
    if 0 ≤ (x5 : Int) ∧ x5 < ((x0n : Nat) : Int) then
    ((ldA h15 p16.1 (p16.2 + Int.toNat x5 * 1)).bind fun v17 =>
    (asSl v17).bind fun s18 =>
    (x6).bind fun p19 =>
    (ldA h15 p19.1 p19.2).bind fun v20 =>
    (asI .i64 v20).bind fun n21 =>
    (s18.1).bind fun p22 =>
    if 0 ≤ (n21 : Int) ∧ n21 < ((s18.2.1 : Nat) : Int) then
    ((ldA h15 p22.1 (p22.2 + Int.toNat n21 * 1)).bind fun v23 =>
    (asI .i64 v23).bind fun n24 =>
    (call Y 65 [(.int .i64 n24)] h15 (r2.2.2 + 37)).bind fun r25 =>
    (asTup 2 r25.1).bind fun d26 =>
    (asI .i64 (d26.getD 0 .bad)).bind fun n27 =>
    (asI .i64 (d26.getD 1 .bad)).bind fun n28 =>
    F58_L4' J J call Y lf n0 lf x0a x0n x0c x1 x5 x6 s18.1 s18.2.1 s18.2.2 n27 ((s18.2.1 : Nat) : Int) 0 r25.2.1 (r25.2.2 + 3))
    else none)
    else none)
    else none)
    else none)
    else none)
    else none) := by kernel_rfl

theorem F58_J2_eq (call : YldF → CallF) (Y : YldF) (lf : Nat) (n0 : Nat) (x0a : Option (Nat × Nat)) (x0n : Nat) (x0c : Bool) (x1 : Int) (x5 : Int) (x6 : Option (Nat × Nat)) (h : AHeap) (nx : Nat) : F58_J2 call Y lf n0 x0a x0n x0c x1 x5 x6 h nx =
    (cutA h x0a x0n x0c 1 (some (.int .i64 x5)) none none).bind fun s1 =>
    (call Y 63 [(.slice s1.1 s1.2.1 s1.2.2), (.fn 64 [] [(.ptr x6)])] h (nx + 6)).bind fun r2 =>
    (asI .i64 r2.1).bind fun n3 =>
    if (decide ((n3 : Int) < 0)) = true then
    (F58_J3 call Y lf n0 x0a x0n x0c x1 x5 x6 r2.2.1 (r2.2.2 + 2))
    else
    ((x0a).bind fun p4 =>
    if 0 ≤ ((wrapA .i64 (x5 + n3)) : Int) ∧ (wrapA .i64 (x5 + n3)) < ((x0n : Nat) : Int) then
    ((ldA r2.2.1 p4.1 (p4.2 + Int.toNat (wrapA .i64 (x5 + n3)) * 1)).bind fun v5 =>
    (asSl v5).bind fun s6 =>
    (x0a).bind fun p7 =>
    if 0 ≤ (x5 : Int) ∧ x5 < ((x0n : Nat) : Int) then
    ((ldA r2.2.1 p7.1 (p7.2 + Int.toNat x5 * 1)).bind fun v8 =>
    (asSl v8).bind fun s9 =>
    (x0a).bind fun p10 =>
    if 0 ≤ (x5 : Int) ∧ x5 < ((x0n : Nat) : Int) then
    ((stA r2.2.1 p10.1 (p10.2 + Int.toNat x5 * 1) (.slice s6.1 s6.2.1 s6.2.2) 1).bind fun b11 =>
    let h12 := AHeap.put r2.2.1 p10.1 (some b11)
    (x0a).bind fun p13 =>
    if 0 ≤ ((wrapA .i64 (x5 + n3)) : Int) ∧ (wrapA .i64 (x5 + n3)) < ((x0n : Nat) : Int) then
    ((stA h12 p13.1 (p13.2 + Int.toNat (wrapA .i64 (x5 + n3)) * 1) (.slice s9.1 s9.2.1 s9.2.2) 1).bind fun b14 =>
    let h15 := AHeap.put h12 p13.1 (some b14)
    (x0a).bind fun p16 =>
    if 0 ≤ (x5 : Int) ∧ x5 < ((x0n : Nat) : Int) then
    ((ldA h15 p16.1 (p16.2 + Int.toNat x5 * 1)).bind fun v17 =>
    (asSl v17).bind fun s18 =>
    (x6).bind fun p19 =>
    (ldA h15 p19.1 p19.2).bind fun v20 =>
    (asI .i64 v20).bind fun n21 =>
    (s18.1).bind fun p22 =>
    if 0 ≤ (n21 : Int) ∧ n21 < ((s18.2.1 : Nat) : Int) then
    ((ldA h15 p22.1 (p22.2 + Int.toNat n21 * 1)).bind fun v23 =>
    (asI .i64 v23).bind fun n24 =>
    (call Y 65 [(.int .i64 n24)] h15 (r2.2.2 + 37)).bind fun r25 =>
    (asTup 2 r25.1).bind fun d26 =>
    (asI .i64 (d26.getD 0 .bad)).bind fun n27 =>
    (asI .i64 (d26.getD 1 .bad)).bind fun n28 =>
    F58_L4 call Y lf n0 lf x0a x0n x0c x1 x5 x6 s18.1 s18.2.1 s18.2.2 n27 ((s18.2.1 : Nat) : Int) 0 r25.2.1 (r25.2.2 + 3))
    else none)
    else none)
    else none)
    else none)
    else none)
    else none) := F58_J2_eq' go1 call Y lf n0 x0a x0n x0c x1 x5 x6 h nx

theorem F58_J3_eq' (J : StepF (AV × AHeap × Nat) → StepF (AV × AHeap × Nat)) (call : YldF → CallF) (Y : YldF) (lf : Nat) (n0 : Nat) (x0a : Option (Nat × Nat)) (x0n : Nat) (x0c : Bool) (x1 : Int) (x5 : Int) (x6 : Option (Nat × Nat)) (h : AHeap) (nx : Nat) : F58_J3' go1 J call Y lf n0 x0a x0n x0c x1 x5 x6 h nx =
    (x6).bind fun p1 =>
    (ldA h p1.1 p1.2).bind fun v2 =>
    (asI .i64 v2).bind fun n3 =>
    let h4 := AHeap.put h (nx + 1) (some ⟨[(.int .i64 0)], 1, true⟩)
    (stA h4 (nx + 1) 0 (.int .i64 n3) 1).bind fun b5 =>
    let h6 := AHeap.put h4 (nx + 1) (some b5)
    (ldA h6 (nx + 1) 0).bind fun v7 =>
    (asI .i64 v7).bind fun n8 =>
    (stA h6 (nx + 1) 0 (.int .i64 (wrapA .i64 (n8 + 1))) 1).bind fun b9 =>
    let h10 := AHeap.put h6 (nx + 1) (some b9)
    F58_L1' J J call Y lf n0 x0a x0n x0c x1 x5 (some ((nx + 1), 0)) h10 (nx + 6) := by kernel_rfl

theorem F58_J3_eq (call : YldF → CallF) (Y : YldF) (lf : Nat) (n0 : Nat) (x0a : Option (Nat × Nat)) (x0n : Nat) (x0c : Bool) (x1 : Int) (x5 : Int) (x6 : Option (Nat × Nat)) (h : AHeap) (nx : Nat) : F58_J3 call Y lf n0 x0a x0n x0c x1 x5 x6 h nx =
    (x6).bind fun p1 =>
    (ldA h p1.1 p1.2).bind fun v2 =>
    (asI .i64 v2).bind fun n3 =>
    let h4 := AHeap.put h (nx + 1) (some ⟨[(.int .i64 0)], 1, true⟩)
    (stA h4 (nx + 1) 0 (.int .i64 n3) 1).bind fun b5 =>
    let h6 := AHeap.put h4 (nx + 1) (some b5)
    (ldA h6 (nx + 1) 0).bind fun v7 =>
    (asI .i64 v7).bind fun n8 =>
    (stA h6 (nx + 1) 0 (.int .i64 (wrapA .i64 (n8 + 1))) 1).bind fun b9 =>
    let h10 := AHeap.put h6 (nx + 1) (some b9)
    F58_L1 call Y lf n0 x0a x0n x0c x1 x5 (some ((nx + 1), 0)) h10 (nx + 6) := F58_J3_eq' go1 call Y lf n0 x0a x0n x0c x1 x5 x6 h nx

theorem F58_L4_eq' (J : StepF (AV × AHeap × Nat) → StepF (AV × AHeap × Nat)) (call : YldF → CallF) (Y : YldF) (lf : Nat) (n0 : Nat) (n1 : Nat) (x0a : Option (Nat × Nat)) (x0n : Nat) (x0c : Bool) (x1 : Int) (x5 : Int) (x6 : Option (Nat × Nat)) (x8a : Option (Nat × Nat)) (x8n : Nat) (x8c : Bool) (x9 : Int) (x65 : Int) (x66 : Int) (h : AHeap) (nx : Nat) : F58_L4' go1 J call Y lf n0 (n1 + 1) x0a x0n x0c x1 x5 x6 x8a x8n x8c x9 x65 x66 h nx =
    if (decide ((x66 : Int) < x65)) = true then
    ((x8a).bind fun p1 =>
    if 0 ≤ (x66 : Int) ∧ x66 < ((x8n : Nat) : Int) then
    ((ldA h p1.1 (p1.2 + Int.toNat x66 * 1)).bind fun v2 =>
    (asI .i64 v2).bind fun n3 =>
    (call Y 66 [(.int .i64 n3), (.int .i64 x9)] h (nx + 13)).bind fun r4 =>
    (asI .i64 r4.1).bind fun n5 =>
    (x8a).bind fun p6 =>
    if 0 ≤ (x66 : Int) ∧ x66 < ((x8n : Nat) : Int) then
    ((stA r4.2.1 p6.1 (p6.2 + Int.toNat x66 * 1) (.int .i64 n5) 1).bind fun b7 =>
    let h8 := AHeap.put r4.2.1 p6.1 (some b7)
    F58_L4' J J call Y lf n0 n1 x0a x0n x0c x1 x5 x6 x8a x8n x8c x9 x65 (wrapA .i64 (x66 + 1)) h8 (r4.2.2 + 2))
    else none)
    else none)
    else
    (F58_L5' J J call Y lf n0 lf x0a x0n x0c x1 x5 x6 x8a x8n x8c x0a x0n x0c ((x0n : Nat) : Int) 0 h (nx + 4)) := by kernel_rfl

theorem F58_L4_eq (call : YldF → CallF) (Y : YldF) (lf : Nat) (n0 : Nat) (n1 : Nat) (x0a : Option (Nat × Nat)) (x0n : Nat) (x0c : Bool) (x1 : Int) (x5 : Int) (x6 : Option (Nat × Nat)) (x8a : Option (Nat × Nat)) (x8n : Nat) (x8c : Bool) (x9 : Int) (x65 : Int) (x66 : Int) (h : AHeap) (nx : Nat) : F58_L4 call Y lf n0 (n1 + 1) x0a x0n x0c x1 x5 x6 x8a x8n x8c x9 x65 x66 h nx =
    if (decide ((x66 : Int) < x65)) = true then
    ((x8a).bind fun p1 =>
    if 0 ≤ (x66 : Int) ∧ x66 < ((x8n : Nat) : Int) then
    ((ldA h p1.1 (p1.2 + Int.toNat x66 * 1)).bind fun v2 =>
    (asI .i64 v2).bind fun n3 =>
    (call Y 66 [(.int .i64 n3), (.int .i64 x9)] h (nx + 13)).bind fun r4 =>
    (asI .i64 r4.1).bind fun n5 =>
    (x8a).bind fun p6 =>
    if 0 ≤ (x66 : Int) ∧ x66 < ((x8n : Nat) : Int) then
    ((stA r4.2.1 p6.1 (p6.2 + Int.toNat x66 * 1) (.int .i64 n5) 1).bind fun b7 =>
    let h8 := AHeap.put r4.2.1 p6.1 (some b7)
    F58_L4 call Y lf n0 n1 x0a x0n x0c x1 x5 x6 x8a x8n x8c x9 x65 (wrapA .i64 (x66 + 1)) h8 (r4.2.2 + 2))
    else none)
    else none)
    else
    (F58_L5 call Y lf n0 lf x0a x0n x0c x1 x5 x6 x8a x8n x8c x0a x0n x0c ((x0n : Nat) : Int) 0 h (nx + 4)) := F58_L4_eq' go1 call Y lf n0 n1 x0a x0n x0c x1 x5 x6 x8a x8n x8c x9 x65 x66 h nx

theorem F58_L4_zero (call : YldF → CallF) (Y : YldF) (lf : Nat) (n0 : Nat) (x0a : Option (Nat × Nat)) (x0n : Nat) (x0c : Bool) (x1 : Int) (x5 : Int) (x6 : Option (Nat × Nat)) (x8a : Option (Nat × Nat)) (x8n : Nat) (x8c : Bool) (x9 : Int) (x65 : Int) (x66 : Int) (h : AHeap) (nx : Nat) : F58_L4 call Y lf n0 0 x0a x0n x0c x1 x5 x6 x8a x8n x8c x9 x65 x66 h nx = none := by kernel_rfl

theorem F58_L5_eq' (J : StepF (AV × AHeap × Nat) → StepF (AV × AHeap × Nat)) (call : YldF → CallF) (Y : YldF) (lf : Nat) (n0 : Nat) (n1 : Nat) (x0a : Option (Nat × Nat)) (x0n : Nat) (x0c : Bool) (x1 : Int) (x5 : Int) (x6 : Option (Nat × Nat)) (x8a : Option (Nat × Nat)) (x8n : Nat) (x8c : Bool) (x79a : Option (Nat × Nat)) (x79n : Nat) (x79c : Bool) (x80 : Int) (x81 : Int) (h : AHeap) (nx : Nat) : F58_L5' go1 J call Y lf n0 (n1 + 1) x0a x0n x0c x1 x5 x6 x8a x8n x8c x79a x79n x79c x80 x81 h nx =
    if (decide ((x81 : Int) < x80)) = true then
    ((x79a).bind fun p1 =>
    if 0 ≤ (x81 : Int) ∧ x81 < ((x79n : Nat) : Int) then
    ((ldA h p1.1 (p1.2 + Int.toNat x81 * 1)).bind fun v2 =>
    (asSl v2).bind fun s3 =>
    if ((x81 : Int) == x5) = true then
    (F58_L5' J J call Y lf n0 n1 x0a x0n x0c x1 x5 x6 x8a x8n x8c x79a x79n x79c x80 (wrapA .i64 (x81 + 1)) h (nx + 18))
    else
    ((x6).bind fun p4 =>
    (ldA h p4.1 p4.2).bind fun v5 =>
    (asI .i64 v5).bind fun n6 =>
    (s3.1).bind fun p7 =>
    if 0 ≤ (n6 : Int) ∧ n6 < ((s3.2.1 : Nat) : Int) then
    ((ldA h p7.1 (p7.2 + Int.toNat n6 * 1)).bind fun v8 =>
    (asI .i64 v8).bind fun n9 =>
    if ((n9 : Int) == 0) = true then
    (F58_L5' J J call Y lf n0 n1 x0a x0n x0c x1 x5 x6 x8a x8n x8c x79a x79n x79c x80 (wrapA .i64 (x81 + 1)) h (nx + 18))
    else
    (F58_J6' J J call Y lf n0 n1 x0a x0n x0c x1 x5 x6 x8a x8n x8c s3.1 s3.2.1 s3.2.2 x79a x79n x79c x80 x81 h (nx + 16)))
    else none))
    else none)
    else
    (F58_J3' J J call Y lf n0 x0a x0n x0c x1 (wrapA .i64 (x5 + 1)) x6 h (nx + 4)) := by kernel_rfl

theorem F58_L5_eq (call : YldF → CallF) (Y : YldF) (lf : Nat) (n0 : Nat) (n1 : Nat) (x0a : Option (Nat × Nat)) (x0n : Nat) (x0c : Bool) (x1 : Int) (x5 : Int) (x6 : Option (Nat × Nat)) (x8a : Option (Nat × Nat)) (x8n : Nat) (x8c : Bool) (x79a : Option (Nat × Nat)) (x79n : Nat) (x79c : Bool) (x80 : Int) (x81 : Int) (h : AHeap) (nx : Nat) : F58_L5 call Y lf n0 (n1 + 1) x0a x0n x0c x1 x5 x6 x8a x8n x8c x79a x79n x79c x80 x81 h nx =
    if (decide ((x81 : Int) < x80)) = true then
    ((x79a).bind fun p1 =>
    if 0 ≤ (x81 : Int) ∧ x81 < ((x79n : Nat) : Int) then
    ((ldA h p1.1 (p1.2 + Int.toNat x81 * 1)).bind fun v2 =>
    (asSl v2).bind fun s3 =>
    if ((x81 : Int) == x5) = true then
    (F58_L5 call Y lf n0 n1 x0a x0n x0c x1 x5 x6 x8a x8n x8c x79a x79n x79c x80 (wrapA .i64 (x81 + 1)) h (nx + 18))
    else
    ((x6).bind fun p4 =>
    (ldA h p4.1 p4.2).bind fun v5 =>
    (asI .i64 v5).bind fun n6 =>
    (s3.1).bind fun p7 =>
    if 0 ≤ (n6 : Int) ∧ n6 < ((s3.2.1 : Nat) : Int) then
    ((ldA h p7.1 (p7.2 + Int.toNat n6 * 1)).bind fun v8 =>
    (asI .i64 v8).bind fun n9 =>
    if ((n9 : Int) == 0) = true then
    (F58_L5 call Y lf n0 n1 x0a x0n x0c x1 x5 x6 x8a x8n x8c x79a x79n x79c x80 (wrapA .i64 (x81 + 1)) h (nx + 18))
    else
    (F58_J6 call Y lf n0 n1 x0a x0n x0c x1 x5 x6 x8a x8n x8c s3.1 s3.2.1 s3.2.2 x79a x79n x79c x80 x81 h (nx + 16)))
    else none))
    else none)
    else
    (F58_J3 call Y lf n0 x0a x0n x0c x1 (wrapA .i64 (x5 + 1)) x6 h (nx + 4)) := F58_L5_eq' go1 call Y lf n0 n1 x0a x0n x0c x1 x5 x6 x8a x8n x8c x79a x79n x79c x80 x81 h nx

theorem F58_L5_zero (call : YldF → CallF) (Y : YldF) (lf : Nat) (n0 : Nat) (x0a : Option (Nat × Nat)) (x0n : Nat) (x0c : Bool) (x1 : Int) (x5 : Int) (x6 : Option (Nat × Nat)) (x8a : Option (Nat × Nat)) (x8n : Nat) (x8c : Bool) (x79a : Option (Nat × Nat)) (x79n : Nat) (x79c : Bool) (x80 : Int) (x81 : Int) (h : AHeap) (nx : Nat) : F58_L5 call Y lf n0 0 x0a x0n x0c x1 x5 x6 x8a x8n x8c x79a x79n x79c x80 x81 h nx = none := by kernel_rfl

theorem F58_J6_eq' (J : StepF (AV × AHeap × Nat) → StepF (AV × AHeap × Nat)) (call : YldF → CallF) (Y : YldF) (lf : Nat) (n0 : Nat) (n1 : Nat) (x0a : Option (Nat × Nat)) (x0n : Nat) (x0c : Bool) (x1 : Int) (x5 : Int) (x6 : Option (Nat × Nat)) (x8a : Option (Nat × Nat)) (x8n : Nat) (x8c : Bool) (x13a : Option (Nat × Nat)) (x13n : Nat) (x13c : Bool) (x79a : Option (Nat × Nat)) (x79n : Nat) (x79c : Bool) (x80 : Int) (x81 : Int) (h : AHeap) (nx : Nat) : F58_J6' go1 J call Y lf n0 n1 x0a x0n x0c x1 x5 x6 x8a x8n x8c x13a x13n x13c x79a x79n x79c x80 x81 h nx =
    (x6).bind fun p1 =>
    (ldA h p1.1 p1.2).bind fun v2 =>
    (asI .i64 v2).bind fun n3 =>
    (x13a).bind fun p4 =>
    if 0 ≤ (n3 : Int) ∧ n3 < ((x13n : Nat) : Int) then
    ((ldA h p4.1 (p4.2 + Int.toNat n3 * 1)).bind fun v5 =>
    (asI .i64 v5).bind fun n6 =>
    F58_L7' J J call Y lf n0 n1 lf x0a x0n x0c x1 x5 x6 x8a x8n x8c x13a x13n x13c n6 x79a x79n x79c x80 x81 ((x13n : Nat) : Int) 0 h (nx + 8))
    else none := by kernel_rfl

theorem F58_J6_eq (call : YldF → CallF) (Y : YldF) (lf : Nat) (n0 : Nat) (n1 : Nat) (x0a : Option (Nat × Nat)) (x0n : Nat) (x0c : Bool) (x1 : Int) (x5 : Int) (x6 : Option (Nat × Nat)) (x8a : Option (Nat × Nat)) (x8n : Nat) (x8c : Bool) (x13a : Option (Nat × Nat)) (x13n : Nat) (x13c : Bool) (x79a : Option (Nat × Nat)) (x79n : Nat) (x79c : Bool) (x80 : Int) (x81 : Int) (h : AHeap) (nx : Nat) : F58_J6 call Y lf n0 n1 x0a x0n x0c x1 x5 x6 x8a x8n x8c x13a x13n x13c x79a x79n x79c x80 x81 h nx =
    (x6).bind fun p1 =>
    (ldA h p1.1 p1.2).bind fun v2 =>
    (asI .i64 v2).bind fun n3 =>
    (x13a).bind fun p4 =>
    if 0 ≤ (n3 : Int) ∧ n3 < ((x13n : Nat) : Int) then
    ((ldA h p4.1 (p4.2 + Int.toNat n3 * 1)).bind fun v5 =>
    (asI .i64 v5).bind fun n6 =>
    F58_L7 call Y lf n0 n1 lf x0a x0n x0c x1 x5 x6 x8a x8n x8c x13a x13n x13c n6 x79a x79n x79c x80 x81 ((x13n : Nat) : Int) 0 h (nx + 8))
    else none := F58_J6_eq' go1 call Y lf n0 n1 x0a x0n x0c x1 x5 x6 x8a x8n x8c x13a x13n x13c x79a x79n x79c x80 x81 h nx

theorem F58_L7_eq' (J : StepF (AV × AHeap × Nat) → StepF (AV × AHeap × Nat)) (call : YldF → CallF) (Y : YldF) (lf : Nat) (n0 : Nat) (n1 : Nat) (n2 : Nat) (x0a : Option (Nat × Nat)) (x0n : Nat) (x0c : Bool) (x1 : Int) (x5 : Int) (x6 : Option (Nat × Nat)) (x8a : Option (Nat × Nat)) (x8n : Nat) (x8c : Bool) (x13a : Option (Nat × Nat)) (x13n : Nat) (x13c : Bool) (x14 : Int) (x79a : Option (Nat × Nat)) (x79n : Nat) (x79c : Bool) (x80 : Int) (x81 : Int) (x101 : Int) (x102 : Int) (h : AHeap) (nx : Nat) : F58_L7' go1 J call Y lf n0 n1 (n2 + 1) x0a x0n x0c x1 x5 x6 x8a x8n x8c x13a x13n x13c x14 x79a x79n x79c x80 x81 x101 x102 h nx =
    if (decide ((x102 : Int) < x101)) = true then
    ((x13a).bind fun p1 =>
    if 0 ≤ (x102 : Int) ∧ x102 < ((x13n : Nat) : Int) then
    ((ldA h p1.1 (p1.2 + Int.toNat x102 * 1)).bind fun v2 =>
    (asI .i64 v2).bind fun n3 =>
    (x8a).bind fun p4 =>
    if 0 ≤ (x102 : Int) ∧ x102 < ((x8n : Nat) : Int) then
    ((ldA h p4.1 (p4.2 + Int.toNat x102 * 1)).bind fun v5 =>
    (asI .i64 v5).bind fun n6 =>
    (call Y 66 [(.int .i64 x14), (.int .i64 n6)] h (nx + 16)).bind fun r7 =>
    (asI .i64 r7.1).bind fun n8 =>
    (x13a).bind fun p9 =>
    if 0 ≤ (x102 : Int) ∧ x102 < ((x13n : Nat) : Int) then
    ((stA r7.2.1 p9.1 (p9.2 + Int.toNat x102 * 1) (.int .i64 (bits .xor .i64 n3 n8)) 1).bind fun b10 =>
    let h11 := AHeap.put r7.2.1 p9.1 (some b10)
    ifKept [(h, r7.2.1, [p1.1])]
    (F58_L7' J J call Y lf n0 n1 n2 x0a x0n x0c x1 x5 x6 x8a x8n x8c x13a x13n x13c x14 x79a x79n x79c x80 x81 x101 (wrapA .i64 (x102 + 1)) h11 (r7.2.2 + 2)))
    else none)
    else none)
    else none)
    else
    (F58_L5' J J call Y lf n0 n1 x0a x0n x0c x1 x5 x6 x8a x8n x8c x79a x79n x79c x80 (wrapA .i64 (x81 + 1)) h (nx + 3)) := by kernel_rfl

theorem F58_L7_eq (call : YldF → CallF) (Y : YldF) (lf : Nat) (n0 : Nat) (n1 : Nat) (n2 : Nat) (x0a : Option (Nat × Nat)) (x0n : Nat) (x0c : Bool) (x1 : Int) (x5 : Int) (x6 : Option (Nat × Nat)) (x8a : Option (Nat × Nat)) (x8n : Nat) (x8c : Bool) (x13a : Option (Nat × Nat)) (x13n : Nat) (x13c : Bool) (x14 : Int) (x79a : Option (Nat × Nat)) (x79n : Nat) (x79c : Bool) (x80 : Int) (x81 : Int) (x101 : Int) (x102 : Int) (h : AHeap) (nx : Nat) : F58_L7 call Y lf n0 n1 (n2 + 1) x0a x0n x0c x1 x5 x6 x8a x8n x8c x13a x13n x13c x14 x79a x79n x79c x80 x81 x101 x102 h nx =
    if (decide ((x102 : Int) < x101)) = true then
    ((x13a).bind fun p1 =>
    if 0 ≤ (x102 : Int) ∧ x102 < ((x13n : Nat) : Int) then
    ((ldA h p1.1 (p1.2 + Int.toNat x102 * 1)).bind fun v2 =>
    (asI .i64 v2).bind fun n3 =>
    (x8a).bind fun p4 =>
    if 0 ≤ (x102 : Int) ∧ x102 < ((x8n : Nat) : Int) then
    ((ldA h p4.1 (p4.2 + Int.toNat x102 * 1)).bind fun v5 =>
    (asI .i64 v5).bind fun n6 =>
    (call Y 66 [(.int .i64 x14), (.int .i64 n6)] h (nx + 16)).bind fun r7 =>
    (asI .i64 r7.1).bind fun n8 =>
    (x13a).bind fun p9 =>
    if 0 ≤ (x102 : Int) ∧ x102 < ((x13n : Nat) : Int) then
    ((stA r7.2.1 p9.1 (p9.2 + Int.toNat x102 * 1) (.int .i64 (bits .xor .i64 n3 n8)) 1).bind fun b10 =>
    let h11 := AHeap.put r7.2.1 p9.1 (some b10)
    ifKept [(h, r7.2.1, [p1.1])]
    (F58_L7 call Y lf n0 n1 n2 x0a x0n x0c x1 x5 x6 x8a x8n x8c x13a x13n x13c x14 x79a x79n x79c x80 x81 x101 (wrapA .i64 (x102 + 1)) h11 (r7.2.2 + 2)))
    else none)
    else none)
    else none)
    else
    (F58_L5 call Y lf n0 n1 x0a x0n x0c x1 x5 x6 x8a x8n x8c x79a x79n x79c x80 (wrapA .i64 (x81 + 1)) h (nx + 3)) := F58_L7_eq' go1 call Y lf n0 n1 n2 x0a x0n x0c x1 x5 x6 x8a x8n x8c x13a x13n x13c x14 x79a x79n x79c x80 x81 x101 x102 h nx

theorem F58_L7_zero (call : YldF → CallF) (Y : YldF) (lf : Nat) (n0 : Nat) (n1 : Nat) (x0a : Option (Nat × Nat)) (x0n : Nat) (x0c : Bool) (x1 : Int) (x5 : Int) (x6 : Option (Nat × Nat)) (x8a : Option (Nat × Nat)) (x8n : Nat) (x8c : Bool) (x13a : Option (Nat × Nat)) (x13n : Nat) (x13c : Bool) (x14 : Int) (x79a : Option (Nat × Nat)) (x79n : Nat) (x79c : Bool) (x80 : Int) (x81 : Int) (x101 : Int) (x102 : Int) (h : AHeap) (nx : Nat) : F58_L7 call Y lf n0 n1 0 x0a x0n x0c x1 x5 x6 x8a x8n x8c x13a x13n x13c x14 x79a x79n x79c x80 x81 x101 x102 h nx = none := by kernel_rfl

theorem F58_eq' (J : StepF (AV × AHeap × Nat) → StepF (AV × AHeap × Nat)) (n : Nat) (Y : YldF) (x0a : Option (Nat × Nat)) (x0n : Nat) (x0c : Bool) (x1 : Int) (h : AHeap) (nx : Nat) : rootJ J Try.prog keepT (callP Try.prog keepT n) Y n 58 [(.slice x0a x0n x0c), (.int .i64 x1)] h nx =
    let h1 := AHeap.put h (nx + 2) (some ⟨[(.int .i64 0)], 1, true⟩)
    (stA h1 (nx + 2) 0 (.int .i64 0) 1).bind fun b2 =>
    let h3 := AHeap.put h1 (nx + 2) (some b2)
    F58_L1' J J (callP Try.prog keepT n) Y n n x0a x0n x0c x1 0 (some ((nx + 2), 0)) h3 (nx + 4) := by kernel_rfl

/-- (quickset/mat.matrix).reduce -/
theorem F58_eq (n : Nat) (Y : YldF) (x0a : Option (Nat × Nat)) (x0n : Nat) (x0c : Bool) (x1 : Int) (h : AHeap) (nx : Nat) : callP Try.prog keepT (n + 1) Y 58 [(.slice x0a x0n x0c), (.int .i64 x1)] h nx =
    let h1 := AHeap.put h (nx + 2) (some ⟨[(.int .i64 0)], 1, true⟩)
    (stA h1 (nx + 2) 0 (.int .i64 0) 1).bind fun b2 =>
    let h3 := AHeap.put h1 (nx + 2) (some b2)
    F58_L1 (callP Try.prog keepT n) Y n n x0a x0n x0c x1 0 (some ((nx + 2), 0)) h3 (nx + 4) := F58_eq' go1 n Y x0a x0n x0c x1 h nx

noncomputable def c59 : Code := (Try.f59.body).getD .skip

noncomputable def r59 : List ResultVar := Try.f59.results.toList

noncomputable def F59_L1' (W J : StepF (AV × AHeap × Nat) → StepF (AV × AHeap × Nat)) (call : YldF → CallF) (Y : YldF) (lf : Nat) (n0 : Nat) (x5a : Option (Nat × Nat)) (x5n : Nat) (x5c : Bool) (x6 : Int) (x7 : Int) (h : AHeap) (nx : Nat) : Option (AV × AHeap × Nat) :=
  goK W J drawK (machOf Try.prog) call Y (keepT 59) lf c59 [1, 0, 1, 0, 9] [n0] (retK (machOf Try.prog) ⟨c59, 15, r59, keepT 59⟩) ⟨15, mkL [(5, (.slice x5a x5n x5c)), (6, (.int .i64 x6)), (7, (.int .i64 x7))]⟩ h nx

noncomputable def F59_L1 (call : YldF → CallF) (Y : YldF) (lf : Nat) (n0 : Nat) (x5a : Option (Nat × Nat)) (x5n : Nat) (x5c : Bool) (x6 : Int) (x7 : Int) (h : AHeap) (nx : Nat) : Option (AV × AHeap × Nat) := F59_L1' go1 go1 call Y lf n0 x5a x5n x5c x6 x7 h nx

theorem F59_L1_eq' (J : StepF (AV × AHeap × Nat) → StepF (AV × AHeap × Nat)) (call : YldF → CallF) (Y : YldF) (lf : Nat) (n0 : Nat) (x5a : Option (Nat × Nat)) (x5n : Nat) (x5c : Bool) (x6 : Int) (x7 : Int) (h : AHeap) (nx : Nat) : F59_L1' go1 J call Y lf (n0 + 1) x5a x5n x5c x6 x7 h nx =
    if (decide ((x7 : Int) < x6)) = true then
    ((x5a).bind fun p1 =>
    if 0 ≤ (x7 : Int) ∧ x7 < ((x5n : Nat) : Int) then
    ((ldA h p1.1 (p1.2 + Int.toNat x7 * 1)).bind fun v2 =>
    (asI .i64 v2).bind fun n3 =>
    if (((bits .andNot .i64 n3 255) : Int) != 0) = true then
    (some ((.bool true), h, (nx + 8)))
    else
    (F59_L1' J J call Y lf n0 x5a x5n x5c x6 (wrapA .i64 (x7 + 1)) h (nx + 9)))
    else none)
    else
    (some ((.bool false), h, (nx + 2))) := by kernel_rfl

theorem F59_L1_eq (call : YldF → CallF) (Y : YldF) (lf : Nat) (n0 : Nat) (x5a : Option (Nat × Nat)) (x5n : Nat) (x5c : Bool) (x6 : Int) (x7 : Int) (h : AHeap) (nx : Nat) : F59_L1 call Y lf (n0 + 1) x5a x5n x5c x6 x7 h nx =
    if (decide ((x7 : Int) < x6)) = true then
    ((x5a).bind fun p1 =>
    if 0 ≤ (x7 : Int) ∧ x7 < ((x5n : Nat) : Int) then
    ((ldA h p1.1 (p1.2 + Int.toNat x7 * 1)).bind fun v2 =>
    (asI .i64 v2).bind fun n3 =>
    if (((bits .andNot .i64 n3 255) : Int) != 0) = true then
    (some ((.bool true), h, (nx + 8)))
    else
    (F59_L1 call Y lf n0 x5a x5n x5c x6 (wrapA .i64 (x7 + 1)) h (nx + 9)))
    else none)
    else
    (some ((.bool false), h, (nx + 2))) := F59_L1_eq' go1 call Y lf n0 x5a x5n x5c x6 x7 h nx

theorem F59_L1_zero (call : YldF → CallF) (Y : YldF) (lf : Nat) (x5a : Option (Nat × Nat)) (x5n : Nat) (x5c : Bool) (x6 : Int) (x7 : Int) (h : AHeap) (nx : Nat) : F59_L1 call Y lf 0 x5a x5n x5c x6 x7 h nx = none := by kernel_rfl

theorem F59_eq' (J : StepF (AV × AHeap × Nat) → StepF (AV × AHeap × Nat)) (n : Nat) (Y : YldF) (x0a : Option (Nat × Nat)) (x0n : Nat) (x0c : Bool) (h : AHeap) (nx : Nat) : rootJ J Try.prog keepT (callP Try.prog keepT n) Y n 59 [(.slice x0a x0n x0c)] h nx =
    F59_L1' J J (callP Try.prog keepT n) Y n n x0a x0n x0c ((x0n : Nat) : Int) 0 h (nx + 4) := by kernel_rfl

/-- quickset/gf.bad -/
theorem F59_eq (n : Nat) (Y : YldF) (x0a : Option (Nat × Nat)) (x0n : Nat) (x0c : Bool) (h : AHeap) (nx : Nat) : callP Try.prog keepT (n + 1) Y 59 [(.slice x0a x0n x0c)] h nx =
    F59_L1 (callP Try.prog keepT n) Y n n x0a x0n x0c ((x0n : Nat) : Int) 0 h (nx + 4) := F59_eq' go1 n Y x0a x0n x0c h nx

noncomputable def c60 : Code := (Try.f60.body).getD .skip

noncomputable def r60 : List ResultVar := Try.f60.results.toList

noncomputable def F60_L1' (W J : StepF (AV × AHeap × Nat) → StepF (AV × AHeap × Nat)) (call : YldF → CallF) (Y : YldF) (lf : Nat) (n0 : Nat) (x0 : Int) (x1 : Int) (x5 : Int) (h : AHeap) (nx : Nat) : Option (AV × AHeap × Nat) :=
  goK W J drawK (machOf Try.prog) call Y (keepT 60) lf c60 [1, 1, 0, 0, 9] [n0] (retK (machOf Try.prog) ⟨c60, 23, r60, keepT 60⟩) ⟨23, mkL [(0, (.int .i64 x0)), (1, (.int .i64 x1)), (5, (.int .i64 x5))]⟩ h nx

noncomputable def F60_L1 (call : YldF → CallF) (Y : YldF) (lf : Nat) (n0 : Nat) (x0 : Int) (x1 : Int) (x5 : Int) (h : AHeap) (nx : Nat) : Option (AV × AHeap × Nat) := F60_L1' go1 go1 call Y lf n0 x0 x1 x5 h nx

noncomputable def F60_J2' (W J : StepF (AV × AHeap × Nat) → StepF (AV × AHeap × Nat)) (call : YldF → CallF) (Y : YldF) (lf : Nat) (n0 : Nat) (x0 : Int) (x1 : Int) (x5 : Int) (h : AHeap) (nx : Nat) : Option (AV × AHeap × Nat) :=
  goK W J drawK (machOf Try.prog) call Y (keepT 60) lf c60 [1, 1, 0, 0, 0, 1, 0, 0, 1] [n0] (retK (machOf Try.prog) ⟨c60, 23, r60, keepT 60⟩) ⟨23, mkL [(0, (.int .i64 x0)), (1, (.int .i64 x1)), (5, (.int .i64 x5))]⟩ h nx

noncomputable def F60_J2 (call : YldF → CallF) (Y : YldF) (lf : Nat) (n0 : Nat) (x0 : Int) (x1 : Int) (x5 : Int) (h : AHeap) (nx : Nat) : Option (AV × AHeap × Nat) := F60_J2' go1 go1 call Y lf n0 x0 x1 x5 h nx

theorem F60_L1_eq' (J : StepF (AV × AHeap × Nat) → StepF (AV × AHeap × Nat)) (call : YldF → CallF) (Y : YldF) (lf : Nat) (n0 : Nat) (x0 : Int) (x1 : Int) (x5 : Int) (h : AHeap) (nx : Nat) : F60_L1' go1 J call Y lf (n0 + 1) x0 x1 x5 h nx =
    if (decide ((x1 : Int) > 0)) = true then
    (if (((bits .and .i64 x1 1) : Int) == 1) = true then
    (F60_J2' J J call Y lf n0 x0 x1 (bits .xor .i64 x5 x0) h (nx + 9))
    else
    (F60_J2' J J call Y lf n0 x0 x1 x5 h (nx + 5)))
    else
    (some ((.int .i64 x5), h, (nx + 4))) := by kernel_rfl

theorem F60_L1_eq (call : YldF → CallF) (Y : YldF) (lf : Nat) (n0 : Nat) (x0 : Int) (x1 : Int) (x5 : Int) (h : AHeap) (nx : Nat) : F60_L1 call Y lf (n0 + 1) x0 x1 x5 h nx =
    if (decide ((x1 : Int) > 0)) = true then
    (if (((bits .and .i64 x1 1) : Int) == 1) = true then
    (F60_J2 call Y lf n0 x0 x1 (bits .xor .i64 x5 x0) h (nx + 9))
    else
    (F60_J2 call Y lf n0 x0 x1 x5 h (nx + 5)))
    else
    (some ((.int .i64 x5), h, (nx + 4))) := F60_L1_eq' go1 call Y lf n0 x0 x1 x5 h nx

theorem F60_L1_zero (call : YldF → CallF) (Y : YldF) (lf : Nat) (x0 : Int) (x1 : Int) (x5 : Int) (h : AHeap) (nx : Nat) : F60_L1 call Y lf 0 x0 x1 x5 h nx = none := by kernel_rfl

theorem F60_J2_eq' (J : StepF (AV × AHeap × Nat) → StepF (AV × AHeap × Nat)) (call : YldF → CallF) (Y : YldF) (lf : Nat) (n0 : Nat) (x0 : Int) (x1 : Int) (x5 : Int) (h : AHeap) (nx : Nat) : F60_J2' go1 J call Y lf n0 x0 x1 x5 h nx =
    if (decide (((wrapA .i64 (x0 * (2:Int) ^ min (Int.toNat 1) (IntKind.bits .i64))) : Int) > 255)) = true then
    (F60_L1' J J call Y lf n0 (bits .xor .i64 (wrapA .i64 (x0 * (2:Int) ^ min (Int.toNat 1) (IntKind.bits .i64))) 285) (Int.fdiv x1 ((2:Int) ^ min (Int.toNat 1) (IntKind.bits .i64))) x5 h (nx + 11))
    else
    (F60_L1' J J call Y lf n0 (wrapA .i64 (x0 * (2:Int) ^ min (Int.toNat 1) (IntKind.bits .i64))) (Int.fdiv x1 ((2:Int) ^ min (Int.toNat 1) (IntKind.bits .i64))) x5 h (nx + 8)) := by kernel_rfl

theorem F60_J2_eq (call : YldF → CallF) (Y : YldF) (lf : Nat) (n0 : Nat) (x0 : Int) (x1 : Int) (x5 : Int) (h : AHeap) (nx : Nat) : F60_J2 call Y lf n0 x0 x1 x5 h nx =
    if (decide (((wrapA .i64 (x0 * (2:Int) ^ min (Int.toNat 1) (IntKind.bits .i64))) : Int) > 255)) = true then
    (F60_L1 call Y lf n0 (bits .xor .i64 (wrapA .i64 (x0 * (2:Int) ^ min (Int.toNat 1) (IntKind.bits .i64))) 285) (Int.fdiv x1 ((2:Int) ^ min (Int.toNat 1) (IntKind.bits .i64))) x5 h (nx + 11))
    else
    (F60_L1 call Y lf n0 (wrapA .i64 (x0 * (2:Int) ^ min (Int.toNat 1) (IntKind.bits .i64))) (Int.fdiv x1 ((2:Int) ^ min (Int.toNat 1) (IntKind.bits .i64))) x5 h (nx + 8)) := F60_J2_eq' go1 call Y lf n0 x0 x1 x5 h nx

theorem F60_eq' (J : StepF (AV × AHeap × Nat) → StepF (AV × AHeap × Nat)) (n : Nat) (Y : YldF) (x0 : Int) (x1 : Int) (h : AHeap) (nx : Nat) : rootJ J Try.prog keepT (callP Try.prog keepT n) Y n 60 [(.int .i64 x0), (.int .i64 x1)] h nx =
    F60_L1' J J (callP Try.prog keepT n) Y n n x0 x1 0 h (nx + 2) := by kernel_rfl

/-- quickset/gf.times -/
theorem F60_eq (n : Nat) (Y : YldF) (x0 : Int) (x1 : Int) (h : AHeap) (nx : Nat) : callP Try.prog keepT (n + 1) Y 60 [(.int .i64 x0), (.int .i64 x1)] h nx =
    F60_L1 (callP Try.prog keepT n) Y n n x0 x1 0 h (nx + 2) := F60_eq' go1 n Y x0 x1 h nx

noncomputable def c61 : Code := (Try.f61.body).getD .skip

noncomputable def r61 : List ResultVar := Try.f61.results.toList

noncomputable def F61_L1' (W J : StepF (AV × AHeap × Nat) → StepF (AV × AHeap × Nat)) (call : YldF → CallF) (Y : YldF) (lf : Nat) (n0 : Nat) (x0 : Int) (x1 : Int) (x5 : Int) (h : AHeap) (nx : Nat) : Option (AV × AHeap × Nat) :=
  goK W J drawK (machOf Try.prog) call Y (keepT 61) lf c61 [1, 1, 0, 0, 9] [n0] (retK (machOf Try.prog) ⟨c61, 20, r61, keepT 61⟩) ⟨20, mkL [(0, (.int .i64 x0)), (1, (.int .i64 x1)), (5, (.int .i64 x5))]⟩ h nx

noncomputable def F61_L1 (call : YldF → CallF) (Y : YldF) (lf : Nat) (n0 : Nat) (x0 : Int) (x1 : Int) (x5 : Int) (h : AHeap) (nx : Nat) : Option (AV × AHeap × Nat) := F61_L1' go1 go1 call Y lf n0 x0 x1 x5 h nx

noncomputable def F61_J2' (W J : StepF (AV × AHeap × Nat) → StepF (AV × AHeap × Nat)) (call : YldF → CallF) (Y : YldF) (lf : Nat) (n0 : Nat) (x0 : Int) (x1 : Int) (x5 : Int) (h : AHeap) (nx : Nat) : Option (AV × AHeap × Nat) :=
  goK W J drawK (machOf Try.prog) call Y (keepT 61) lf c61 [1, 1, 0, 0, 0, 1, 0, 0, 1] [n0] (retK (machOf Try.prog) ⟨c61, 20, r61, keepT 61⟩) ⟨20, mkL [(0, (.int .i64 x0)), (1, (.int .i64 x1)), (5, (.int .i64 x5))]⟩ h nx

noncomputable def F61_J2 (call : YldF → CallF) (Y : YldF) (lf : Nat) (n0 : Nat) (x0 : Int) (x1 : Int) (x5 : Int) (h : AHeap) (nx : Nat) : Option (AV × AHeap × Nat) := F61_J2' go1 go1 call Y lf n0 x0 x1 x5 h nx

theorem F61_L1_eq' (J : StepF (AV × AHeap × Nat) → StepF (AV × AHeap × Nat)) (call : YldF → CallF) (Y : YldF) (lf : Nat) (n0 : Nat) (x0 : Int) (x1 : Int) (x5 : Int) (h : AHeap) (nx : Nat) : F61_L1' go1 J call Y lf (n0 + 1) x0 x1 x5 h nx =
    if (decide ((x1 : Int) > 0)) = true then
    (if (((bits .and .i64 x1 1) : Int) == 1) = true then
    ((call Y 60 [(.int .i64 x5), (.int .i64 x0)] h (nx + 9)).bind fun r1 =>
    (asI .i64 r1.1).bind fun n2 =>
    F61_J2' J J call Y lf n0 x0 x1 n2 r1.2.1 r1.2.2)
    else
    (F61_J2' J J call Y lf n0 x0 x1 x5 h (nx + 5)))
    else
    (some ((.int .i64 x5), h, (nx + 4))) := by kernel_rfl

theorem F61_L1_eq (call : YldF → CallF) (Y : YldF) (lf : Nat) (n0 : Nat) (x0 : Int) (x1 : Int) (x5 : Int) (h : AHeap) (nx : Nat) : F61_L1 call Y lf (n0 + 1) x0 x1 x5 h nx =
    if (decide ((x1 : Int) > 0)) = true then
    (if (((bits .and .i64 x1 1) : Int) == 1) = true then
    ((call Y 60 [(.int .i64 x5), (.int .i64 x0)] h (nx + 9)).bind fun r1 =>
    (asI .i64 r1.1).bind fun n2 =>
    F61_J2 call Y lf n0 x0 x1 n2 r1.2.1 r1.2.2)
    else
    (F61_J2 call Y lf n0 x0 x1 x5 h (nx + 5)))
    else
    (some ((.int .i64 x5), h, (nx + 4))) := F61_L1_eq' go1 call Y lf n0 x0 x1 x5 h nx

theorem F61_L1_zero (call : YldF → CallF) (Y : YldF) (lf : Nat) (x0 : Int) (x1 : Int) (x5 : Int) (h : AHeap) (nx : Nat) : F61_L1 call Y lf 0 x0 x1 x5 h nx = none := by kernel_rfl

theorem F61_J2_eq' (J : StepF (AV × AHeap × Nat) → StepF (AV × AHeap × Nat)) (call : YldF → CallF) (Y : YldF) (lf : Nat) (n0 : Nat) (x0 : Int) (x1 : Int) (x5 : Int) (h : AHeap) (nx : Nat) : F61_J2' go1 J call Y lf n0 x0 x1 x5 h nx =
    (call Y 60 [(.int .i64 x0), (.int .i64 x0)] h (nx + 4)).bind fun r1 =>
    (asI .i64 r1.1).bind fun n2 =>
    F61_L1' J J call Y lf n0 n2 (Int.fdiv x1 ((2:Int) ^ min (Int.toNat 1) (IntKind.bits .i64))) x5 r1.2.1 (r1.2.2 + 3) := by kernel_rfl

theorem F61_J2_eq (call : YldF → CallF) (Y : YldF) (lf : Nat) (n0 : Nat) (x0 : Int) (x1 : Int) (x5 : Int) (h : AHeap) (nx : Nat) : F61_J2 call Y lf n0 x0 x1 x5 h nx =
    (call Y 60 [(.int .i64 x0), (.int .i64 x0)] h (nx + 4)).bind fun r1 =>
    (asI .i64 r1.1).bind fun n2 =>
    F61_L1 call Y lf n0 n2 (Int.fdiv x1 ((2:Int) ^ min (Int.toNat 1) (IntKind.bits .i64))) x5 r1.2.1 (r1.2.2 + 3) := F61_J2_eq' go1 call Y lf n0 x0 x1 x5 h nx

theorem F61_eq' (J : StepF (AV × AHeap × Nat) → StepF (AV × AHeap × Nat)) (n : Nat) (Y : YldF) (x0 : Int) (x1 : Int) (h : AHeap) (nx : Nat) : rootJ J Try.prog keepT (callP Try.prog keepT n) Y n 61 [(.int .i64 x0), (.int .i64 x1)] h nx =
    F61_L1' J J (callP Try.prog keepT n) Y n n x0 x1 1 h (nx + 2) := by kernel_rfl

/-- quickset/gf.power -/
theorem F61_eq (n : Nat) (Y : YldF) (x0 : Int) (x1 : Int) (h : AHeap) (nx : Nat) : callP Try.prog keepT (n + 1) Y 61 [(.int .i64 x0), (.int .i64 x1)] h nx =
    F61_L1 (callP Try.prog keepT n) Y n n x0 x1 1 h (nx + 2) := F61_eq' go1 n Y x0 x1 h nx

noncomputable def c62 : Code := (Try.f62.body).getD .skip

noncomputable def r62 : List ResultVar := Try.f62.results.toList

theorem F62_eq' (J : StepF (AV × AHeap × Nat) → StepF (AV × AHeap × Nat)) (n : Nat) (Y : YldF) (x0a : Option (Nat × Nat)) (x0n : Nat) (x0c : Bool) (h : AHeap) (nx : Nat) : rootJ J Try.prog keepT (callP Try.prog keepT n) Y n 62 [(.slice x0a x0n x0c)] h nx =
    ((callP Try.prog keepT n) Y 67 [(.slice x0a x0n x0c), (.fn 68 [] [])] h (nx + 5)).bind fun r1 =>
    (asB r1.1).bind fun t2 =>
    some ((.bool (!t2)), r1.2.1, r1.2.2) := by kernel_rfl

/-- quickset/mat.all -/
theorem F62_eq (n : Nat) (Y : YldF) (x0a : Option (Nat × Nat)) (x0n : Nat) (x0c : Bool) (h : AHeap) (nx : Nat) : callP Try.prog keepT (n + 1) Y 62 [(.slice x0a x0n x0c)] h nx =
    ((callP Try.prog keepT n) Y 67 [(.slice x0a x0n x0c), (.fn 68 [] [])] h (nx + 5)).bind fun r1 =>
    (asB r1.1).bind fun t2 =>
    some ((.bool (!t2)), r1.2.1, r1.2.2) := F62_eq' go1 n Y x0a x0n x0c h nx

noncomputable def c63 : Code := (Try.f63.body).getD .skip

noncomputable def r63 : List ResultVar := Try.f63.results.toList

noncomputable def F63_L1' (W J : StepF (AV × AHeap × Nat) → StepF (AV × AHeap × Nat)) (call : YldF → CallF) (Y : YldF) (lf : Nat) (n0 : Nat) (x0a : Option (Nat × Nat)) (x0n : Nat) (x0c : Bool) (x1 : AV) (x7 : Int) (x8 : Int) (h : AHeap) (nx : Nat) : Option (AV × AHeap × Nat) :=
  goK W J drawK (machOf Try.prog) call Y (keepT 63) lf c63 [1, 0, 1, 0, 9] [n0] (retK (machOf Try.prog) ⟨c63, 19, r63, keepT 63⟩) ⟨19, mkL [(0, (.slice x0a x0n x0c)), (1, x1), (7, (.int .i64 x7)), (8, (.int .i64 x8))]⟩ h nx

noncomputable def F63_L1 (call : YldF → CallF) (Y : YldF) (lf : Nat) (n0 : Nat) (x0a : Option (Nat × Nat)) (x0n : Nat) (x0c : Bool) (x1 : AV) (x7 : Int) (x8 : Int) (h : AHeap) (nx : Nat) : Option (AV × AHeap × Nat) := F63_L1' go1 go1 call Y lf n0 x0a x0n x0c x1 x7 x8 h nx

theorem F63_L1_eq' (J : StepF (AV × AHeap × Nat) → StepF (AV × AHeap × Nat)) (call : YldF → CallF) (Y : YldF) (lf : Nat) (n0 : Nat) (x0a : Option (Nat × Nat)) (x0n : Nat) (x0c : Bool) (x1 : AV) (x7 : Int) (x8 : Int) (h : AHeap) (nx : Nat) : F63_L1' go1 J call Y lf (n0 + 1) x0a x0n x0c x1 x7 x8 h nx =
    if (decide ((x8 : Int) < x7)) = true then
    ((x0a).bind fun p1 =>
    if 0 ≤ (x8 : Int) ∧ x8 < ((x0n : Nat) : Int) then
    ((ldA h p1.1 (p1.2 + Int.toNat x8 * 1)).bind fun v2 =>
    (asSl v2).bind fun s3 =>
    (asCal x1).bind fun q5 =>
    (callC (call Y) Y q5.1 (q5.2.1 ++ [(.slice s3.1 s3.2.1 s3.2.2)] ++ q5.2.2) h (nx + 9)).bind fun r4 =>
    (asB r4.1).bind fun t6 =>
    if t6 = true then
    (some ((.int .i64 x8), r4.2.1, (r4.2.2 + 2)))
    else
    (F63_L1' J J call Y lf n0 x0a x0n x0c (x1) x7 (wrapA .i64 (x8 + 1)) r4.2.1 (r4.2.2 + 2)))
    else none)
    else
    (some ((.int .i64 (-1)), h, (nx + 2))) := by kernel_rfl

theorem F63_L1_eq (call : YldF → CallF) (Y : YldF) (lf : Nat) (n0 : Nat) (x0a : Option (Nat × Nat)) (x0n : Nat) (x0c : Bool) (x1 : AV) (x7 : Int) (x8 : Int) (h : AHeap) (nx : Nat) : F63_L1 call Y lf (n0 + 1) x0a x0n x0c x1 x7 x8 h nx =
    if (decide ((x8 : Int) < x7)) = true then
    ((x0a).bind fun p1 =>
    if 0 ≤ (x8 : Int) ∧ x8 < ((x0n : Nat) : Int) then
    ((ldA h p1.1 (p1.2 + Int.toNat x8 * 1)).bind fun v2 =>
    (asSl v2).bind fun s3 =>
    (asCal x1).bind fun q5 =>
    (callC (call Y) Y q5.1 (q5.2.1 ++ [(.slice s3.1 s3.2.1 s3.2.2)] ++ q5.2.2) h (nx + 9)).bind fun r4 =>
    (asB r4.1).bind fun t6 =>
    if t6 = true then
    (some ((.int .i64 x8), r4.2.1, (r4.2.2 + 2)))
    else
    (F63_L1 call Y lf n0 x0a x0n x0c (x1) x7 (wrapA .i64 (x8 + 1)) r4.2.1 (r4.2.2 + 2)))
    else none)
    else
    (some ((.int .i64 (-1)), h, (nx + 2))) := F63_L1_eq' go1 call Y lf n0 x0a x0n x0c x1 x7 x8 h nx

theorem F63_L1_zero (call : YldF → CallF) (Y : YldF) (lf : Nat) (x0a : Option (Nat × Nat)) (x0n : Nat) (x0c : Bool) (x1 : AV) (x7 : Int) (x8 : Int) (h : AHeap) (nx : Nat) : F63_L1 call Y lf 0 x0a x0n x0c x1 x7 x8 h nx = none := by kernel_rfl

theorem F63_eq' (J : StepF (AV × AHeap × Nat) → StepF (AV × AHeap × Nat)) (n : Nat) (Y : YldF) (x0a : Option (Nat × Nat)) (x0n : Nat) (x0c : Bool) (x1 : AV) (h : AHeap) (nx : Nat) : rootJ J Try.prog keepT (callP Try.prog keepT n) Y n 63 [(.slice x0a x0n x0c), x1] h nx =
    F63_L1' J J (callP Try.prog keepT n) Y n n x0a x0n x0c (x1) ((x0n : Nat) : Int) 0 h (nx + 4) := by kernel_rfl

/-- slices.IndexFunc[quickset/mat.matrix,[]int] -/
theorem F63_eq (n : Nat) (Y : YldF) (x0a : Option (Nat × Nat)) (x0n : Nat) (x0c : Bool) (x1 : AV) (h : AHeap) (nx : Nat) : callP Try.prog keepT (n + 1) Y 63 [(.slice x0a x0n x0c), x1] h nx =
    F63_L1 (callP Try.prog keepT n) Y n n x0a x0n x0c (x1) ((x0n : Nat) : Int) 0 h (nx + 4) := F63_eq' go1 n Y x0a x0n x0c x1 h nx

noncomputable def c64 : Code := (Try.f64.body).getD .skip

noncomputable def r64 : List ResultVar := Try.f64.results.toList

theorem F64_eq' (J : StepF (AV × AHeap × Nat) → StepF (AV × AHeap × Nat)) (n : Nat) (Y : YldF) (x0a : Option (Nat × Nat)) (x0n : Nat) (x0c : Bool) (x1 : Option (Nat × Nat)) (h : AHeap) (nx : Nat) : rootJ J Try.prog keepT (callP Try.prog keepT n) Y n 64 [(.slice x0a x0n x0c), (.ptr x1)] h nx =
    (x1).bind fun p1 =>
    (ldA h p1.1 p1.2).bind fun v2 =>
    (asI .i64 v2).bind fun n3 =>
    (x0a).bind fun p4 =>
    if 0 ≤ (n3 : Int) ∧ n3 < ((x0n : Nat) : Int) then
    ((ldA h p4.1 (p4.2 + Int.toNat n3 * 1)).bind fun v5 =>
    (asI .i64 v5).bind fun n6 =>
    some ((.bool ((n6 : Int) != 0)), h, (nx + 7)))
    else none := by kernel_rfl

/-- (quickset/mat.matrix).reduce$1 -/
theorem F64_eq (n : Nat) (Y : YldF) (x0a : Option (Nat × Nat)) (x0n : Nat) (x0c : Bool) (x1 : Option (Nat × Nat)) (h : AHeap) (nx : Nat) : callP Try.prog keepT (n + 1) Y 64 [(.slice x0a x0n x0c), (.ptr x1)] h nx =
    (x1).bind fun p1 =>
    (ldA h p1.1 p1.2).bind fun v2 =>
    (asI .i64 v2).bind fun n3 =>
    (x0a).bind fun p4 =>
    if 0 ≤ (n3 : Int) ∧ n3 < ((x0n : Nat) : Int) then
    ((ldA h p4.1 (p4.2 + Int.toNat n3 * 1)).bind fun v5 =>
    (asI .i64 v5).bind fun n6 =>
    some ((.bool ((n6 : Int) != 0)), h, (nx + 7)))
    else none := F64_eq' go1 n Y x0a x0n x0c x1 h nx

noncomputable def c65 : Code := (Try.f65.body).getD .skip

noncomputable def r65 : List ResultVar := Try.f65.results.toList

theorem F65_eq' (J : StepF (AV × AHeap × Nat) → StepF (AV × AHeap × Nat)) (n : Nat) (Y : YldF) (x0 : Int) (h : AHeap) (nx : Nat) : rootJ J Try.prog keepT (callP Try.prog keepT n) Y n 65 [(.int .i64 x0)] h nx =
    ((callP Try.prog keepT n) Y 70 [(.int .i64 1), (.int .i64 x0)] h (nx + 8)).bind fun r1 =>
    (asTup 2 r1.1).bind fun d2 =>
    (asI .i64 (d2.getD 0 .bad)).bind fun n3 =>
    (asI .i64 (d2.getD 1 .bad)).bind fun n4 =>
    some ((.tuple [(.int .i64 n3), (.int .i64 n4)]), r1.2.1, r1.2.2) := by kernel_rfl

/-- quickset/gf.Inv -/
theorem F65_eq (n : Nat) (Y : YldF) (x0 : Int) (h : AHeap) (nx : Nat) : callP Try.prog keepT (n + 1) Y 65 [(.int .i64 x0)] h nx =
    ((callP Try.prog keepT n) Y 70 [(.int .i64 1), (.int .i64 x0)] h (nx + 8)).bind fun r1 =>
    (asTup 2 r1.1).bind fun d2 =>
    (asI .i64 (d2.getD 0 .bad)).bind fun n3 =>
    (asI .i64 (d2.getD 1 .bad)).bind fun n4 =>
    some ((.tuple [(.int .i64 n3), (.int .i64 n4)]), r1.2.1, r1.2.2) := F65_eq' go1 n Y x0 h nx

noncomputable def c66 : Code := (Try.f66.body).getD .skip

noncomputable def r66 : List ResultVar := Try.f66.results.toList

theorem F66_eq' (J : StepF (AV × AHeap × Nat) → StepF (AV × AHeap × Nat)) (n : Nat) (Y : YldF) (x0 : Int) (x1 : Int) (h : AHeap) (nx : Nat) : rootJ J Try.prog keepT (callP Try.prog keepT n) Y n 66 [(.int .i64 x0), (.int .i64 x1)] h nx =
    ((callP Try.prog keepT n) Y 54 [(.int .i64 x0), (.int .i64 x1)] h (nx + 9)).bind fun r1 =>
    (asTup 2 r1.1).bind fun d2 =>
    (asI .i64 (d2.getD 0 .bad)).bind fun n3 =>
    (asI .i64 (d2.getD 1 .bad)).bind fun n4 =>
    some ((.int .i64 n3), r1.2.1, (r1.2.2 + 2)) := by kernel_rfl

/-- quickset/mat.times -/
theorem F66_eq (n : Nat) (Y : YldF) (x0 : Int) (x1 : Int) (h : AHeap) (nx : Nat) : callP Try.prog keepT (n + 1) Y 66 [(.int .i64 x0), (.int .i64 x1)] h nx =
    ((callP Try.prog keepT n) Y 54 [(.int .i64 x0), (.int .i64 x1)] h (nx + 9)).bind fun r1 =>
    (asTup 2 r1.1).bind fun d2 =>
    (asI .i64 (d2.getD 0 .bad)).bind fun n3 =>
    (asI .i64 (d2.getD 1 .bad)).bind fun n4 =>
    some ((.int .i64 n3), r1.2.1, (r1.2.2 + 2)) := F66_eq' go1 n Y x0 x1 h nx

noncomputable def c67 : Code := (Try.f67.body).getD .skip

noncomputable def r67 : List ResultVar := Try.f67.results.toList

theorem F67_eq' (J : StepF (AV × AHeap × Nat) → StepF (AV × AHeap × Nat)) (n : Nat) (Y : YldF) (x0a : Option (Nat × Nat)) (x0n : Nat) (x0c : Bool) (x1 : AV) (h : AHeap) (nx : Nat) : rootJ J Try.prog keepT (callP Try.prog keepT n) Y n 67 [(.slice x0a x0n x0c), x1] h nx =
    ((callP Try.prog keepT n) Y 71 [(.slice x0a x0n x0c), x1] h (nx + 6)).bind fun r1 =>
    (asI .i64 r1.1).bind fun n2 =>
    some ((.bool (decide ((n2 : Int) ≥ 0))), r1.2.1, r1.2.2) := by kernel_rfl

/-- slices.ContainsFunc[[]int,int] -/
theorem F67_eq (n : Nat) (Y : YldF) (x0a : Option (Nat × Nat)) (x0n : Nat) (x0c : Bool) (x1 : AV) (h : AHeap) (nx : Nat) : callP Try.prog keepT (n + 1) Y 67 [(.slice x0a x0n x0c), x1] h nx =
    ((callP Try.prog keepT n) Y 71 [(.slice x0a x0n x0c), x1] h (nx + 6)).bind fun r1 =>
    (asI .i64 r1.1).bind fun n2 =>
    some ((.bool (decide ((n2 : Int) ≥ 0))), r1.2.1, r1.2.2) := F67_eq' go1 n Y x0a x0n x0c x1 h nx

noncomputable def c68 : Code := (Try.f68.body).getD .skip

noncomputable def r68 : List ResultVar := Try.f68.results.toList

theorem F68_eq' (J : StepF (AV × AHeap × Nat) → StepF (AV × AHeap × Nat)) (n : Nat) (Y : YldF) (x0 : Int) (h : AHeap) (nx : Nat) : rootJ J Try.prog keepT (callP Try.prog keepT n) Y n 68 [(.int .i64 x0)] h nx =
    ((callP Try.prog keepT n) Y 69 [(.int .i64 x0)] h (nx + 5)).bind fun r1 =>
    (asB r1.1).bind fun t2 =>
    some ((.bool (!t2)), r1.2.1, r1.2.2) := by kernel_rfl

/-- quickset/mat.all$1 -/
theorem F68_eq (n : Nat) (Y : YldF) (x0 : Int) (h : AHeap) (nx : Nat) : callP Try.prog keepT (n + 1) Y 68 [(.int .i64 x0)] h nx =
    ((callP Try.prog keepT n) Y 69 [(.int .i64 x0)] h (nx + 5)).bind fun r1 =>
    (asB r1.1).bind fun t2 =>
    some ((.bool (!t2)), r1.2.1, r1.2.2) := F68_eq' go1 n Y x0 h nx

noncomputable def c70 : Code := (Try.f70.body).getD .skip

noncomputable def r70 : List ResultVar := Try.f70.results.toList

theorem F70_eq' (J : StepF (AV × AHeap × Nat) → StepF (AV × AHeap × Nat)) (n : Nat) (Y : YldF) (x0 : Int) (x1 : Int) (h : AHeap) (nx : Nat) : rootJ J Try.prog keepT (callP Try.prog keepT n) Y n 70 [(.int .i64 x0), (.int .i64 x1)] h nx =
    let h1 := AHeap.put h (nx + 4) (some ⟨[(.int .i64 x0), (.int .i64 x1)], 1, true⟩)
    ((callP Try.prog keepT n) Y 59 [(.slice (some ((nx + 4), 0)) 2 true)] h1 (nx + 7)).bind fun r2 =>
    (asB r2.1).bind fun t3 =>
    if t3 = true then
    (some ((.tuple [(.int .i64 0), (.int .i64 2)]), r2.2.1, (r2.2.2 + 2)))
    else
    (if ((x1 : Int) == 0) = true then
    (some ((.tuple [(.int .i64 0), (.int .i64 10)]), r2.2.1, (r2.2.2 + 5)))
    else
    (((callP Try.prog keepT n) Y 61 [(.int .i64 x1), (.int .i64 254)] r2.2.1 (r2.2.2 + 9)).bind fun r4 =>
    (asI .i64 r4.1).bind fun n5 =>
    ((callP Try.prog keepT n) Y 60 [(.int .i64 x0), (.int .i64 n5)] r4.2.1 r4.2.2).bind fun r6 =>
    (asI .i64 r6.1).bind fun n7 =>
    some ((.tuple [(.int .i64 n7), (.int .i64 0)]), r6.2.1, r6.2.2))) := by kernel_rfl

/-- quickset/gf.Div -/
theorem F70_eq (n : Nat) (Y : YldF) (x0 : Int) (x1 : Int) (h : AHeap) (nx : Nat) : callP Try.prog keepT (n + 1) Y 70 [(.int .i64 x0), (.int .i64 x1)] h nx =
    let h1 := AHeap.put h (nx + 4) (some ⟨[(.int .i64 x0), (.int .i64 x1)], 1, true⟩)
    ((callP Try.prog keepT n) Y 59 [(.slice (some ((nx + 4), 0)) 2 true)] h1 (nx + 7)).bind fun r2 =>
    (asB r2.1).bind fun t3 =>
    if t3 = true then
    (some ((.tuple [(.int .i64 0), (.int .i64 2)]), r2.2.1, (r2.2.2 + 2)))
    else
    (if ((x1 : Int) == 0) = true then
    (some ((.tuple [(.int .i64 0), (.int .i64 10)]), r2.2.1, (r2.2.2 + 5)))
    else
    (((callP Try.prog keepT n) Y 61 [(.int .i64 x1), (.int .i64 254)] r2.2.1 (r2.2.2 + 9)).bind fun r4 =>
    (asI .i64 r4.1).bind fun n5 =>
    ((callP Try.prog keepT n) Y 60 [(.int .i64 x0), (.int .i64 n5)] r4.2.1 r4.2.2).bind fun r6 =>
    (asI .i64 r6.1).bind fun n7 =>
    some ((.tuple [(.int .i64 n7), (.int .i64 0)]), r6.2.1, r6.2.2))) := F70_eq' go1 n Y x0 x1 h nx

noncomputable def c71 : Code := (Try.f71.body).getD .skip

noncomputable def r71 : List ResultVar := Try.f71.results.toList

noncomputable def F71_L1' (W J : StepF (AV × AHeap × Nat) → StepF (AV × AHeap × Nat)) (call : YldF → CallF) (Y : YldF) (lf : Nat) (n0 : Nat) (x0a : Option (Nat × Nat)) (x0n : Nat) (x0c : Bool) (x1 : AV) (x7 : Int) (x8 : Int) (h : AHeap) (nx : Nat) : Option (AV × AHeap × Nat) :=
  goK W J drawK (machOf Try.prog) call Y (keepT 71) lf c71 [1, 0, 1, 0, 9] [n0] (retK (machOf Try.prog) ⟨c71, 19, r71, keepT 71⟩) ⟨19, mkL [(0, (.slice x0a x0n x0c)), (1, x1), (7, (.int .i64 x7)), (8, (.int .i64 x8))]⟩ h nx

noncomputable def F71_L1 (call : YldF → CallF) (Y : YldF) (lf : Nat) (n0 : Nat) (x0a : Option (Nat × Nat)) (x0n : Nat) (x0c : Bool) (x1 : AV) (x7 : Int) (x8 : Int) (h : AHeap) (nx : Nat) : Option (AV × AHeap × Nat) := F71_L1' go1 go1 call Y lf n0 x0a x0n x0c x1 x7 x8 h nx

theorem F71_L1_eq' (J : StepF (AV × AHeap × Nat) → StepF (AV × AHeap × Nat)) (call : YldF → CallF) (Y : YldF) (lf : Nat) (n0 : Nat) (x0a : Option (Nat × Nat)) (x0n : Nat) (x0c : Bool) (x1 : AV) (x7 : Int) (x8 : Int) (h : AHeap) (nx : Nat) : F71_L1' go1 J call Y lf (n0 + 1) x0a x0n x0c x1 x7 x8 h nx =
    if (decide ((x8 : Int) < x7)) = true then
    ((x0a).bind fun p1 =>
    if 0 ≤ (x8 : Int) ∧ x8 < ((x0n : Nat) : Int) then
    ((ldA h p1.1 (p1.2 + Int.toNat x8 * 1)).bind fun v2 =>
    (asI .i64 v2).bind fun n3 =>
    (asCal x1).bind fun q5 =>
    (callC (call Y) Y q5.1 (q5.2.1 ++ [(.int .i64 n3)] ++ q5.2.2) h (nx + 9)).bind fun r4 =>
    (asB r4.1).bind fun t6 =>
    if t6 = true then
    (some ((.int .i64 x8), r4.2.1, (r4.2.2 + 2)))
    else
    (F71_L1' J J call Y lf n0 x0a x0n x0c (x1) x7 (wrapA .i64 (x8 + 1)) r4.2.1 (r4.2.2 + 2)))
    else none)
    else
    (some ((.int .i64 (-1)), h, (nx + 2))) := by kernel_rfl

theorem F71_L1_eq (call : YldF → CallF) (Y : YldF) (lf : Nat) (n0 : Nat) (x0a : Option (Nat × Nat)) (x0n : Nat) (x0c : Bool) (x1 : AV) (x7 : Int) (x8 : Int) (h : AHeap) (nx : Nat) : F71_L1 call Y lf (n0 + 1) x0a x0n x0c x1 x7 x8 h nx =
    if (decide ((x8 : Int) < x7)) = true then
    ((x0a).bind fun p1 =>
    if 0 ≤ (x8 : Int) ∧ x8 < ((x0n : Nat) : Int) then
    ((ldA h p1.1 (p1.2 + Int.toNat x8 * 1)).bind fun v2 =>
    (asI .i64 v2).bind fun n3 =>
    (asCal x1).bind fun q5 =>
    (callC (call Y) Y q5.1 (q5.2.1 ++ [(.int .i64 n3)] ++ q5.2.2) h (nx + 9)).bind fun r4 =>
    (asB r4.1).bind fun t6 =>
    if t6 = true then
    (some ((.int .i64 x8), r4.2.1, (r4.2.2 + 2)))
    else
    (F71_L1 call Y lf n0 x0a x0n x0c (x1) x7 (wrapA .i64 (x8 + 1)) r4.2.1 (r4.2.2 + 2)))
    else none)
    else
    (some ((.int .i64 (-1)), h, (nx + 2))) := F71_L1_eq' go1 call Y lf n0 x0a x0n x0c x1 x7 x8 h nx

theorem F71_L1_zero (call : YldF → CallF) (Y : YldF) (lf : Nat) (x0a : Option (Nat × Nat)) (x0n : Nat) (x0c : Bool) (x1 : AV) (x7 : Int) (x8 : Int) (h : AHeap) (nx : Nat) : F71_L1 call Y lf 0 x0a x0n x0c x1 x7 x8 h nx = none := by kernel_rfl

theorem F71_eq' (J : StepF (AV × AHeap × Nat) → StepF (AV × AHeap × Nat)) (n : Nat) (Y : YldF) (x0a : Option (Nat × Nat)) (x0n : Nat) (x0c : Bool) (x1 : AV) (h : AHeap) (nx : Nat) : rootJ J Try.prog keepT (callP Try.prog keepT n) Y n 71 [(.slice x0a x0n x0c), x1] h nx =
    F71_L1' J J (callP Try.prog keepT n) Y n n x0a x0n x0c (x1) ((x0n : Nat) : Int) 0 h (nx + 4) := by kernel_rfl

/-- slices.IndexFunc[[]int,int] -/
theorem F71_eq (n : Nat) (Y : YldF) (x0a : Option (Nat × Nat)) (x0n : Nat) (x0c : Bool) (x1 : AV) (h : AHeap) (nx : Nat) : callP Try.prog keepT (n + 1) Y 71 [(.slice x0a x0n x0c), x1] h nx =
    F71_L1 (callP Try.prog keepT n) Y n n x0a x0n x0c (x1) ((x0n : Nat) : Int) 0 h (nx + 4) := F71_eq' go1 n Y x0a x0n x0c x1 h nx

noncomputable def c69 : Code := (Try.f69.body).getD .skip

noncomputable def r69 : List ResultVar := Try.f69.results.toList

theorem F69_eq' (J : StepF (AV × AHeap × Nat) → StepF (AV × AHeap × Nat)) (n : Nat) (Y : YldF) (x0 : Int) (h : AHeap) (nx : Nat) : rootJ J Try.prog keepT (callP Try.prog keepT n) Y n 69 [(.int .i64 x0)] h nx =
    if (decide ((x0 : Int) ≥ 0)) = true then
    (some ((.bool (decide ((x0 : Int) < 256))), h, (nx + 8)))
    else
    (some ((.bool false), h, (nx + 8))) := by kernel_rfl

/-- quickset/mat.element -/
theorem F69_eq (n : Nat) (Y : YldF) (x0 : Int) (h : AHeap) (nx : Nat) : callP Try.prog keepT (n + 1) Y 69 [(.int .i64 x0)] h nx =
    if (decide ((x0 : Int) ≥ 0)) = true then
    (some ((.bool (decide ((x0 : Int) < 256))), h, (nx + 8)))
    else
    (some ((.bool false), h, (nx + 8))) := F69_eq' go1 n Y x0 h nx

end Go.Proofs.Ytalfcokiooaliaa.T
