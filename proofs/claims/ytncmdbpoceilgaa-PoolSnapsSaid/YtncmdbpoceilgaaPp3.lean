/- Printed by mp.py: functions of the program as plain Lean, each by the kernel. -/
import Derived.Test.YtncmdbpoceilgaaPp1
set_option linter.unusedVariables false
set_option linter.unusedSimpArgs false
namespace Go.Proofs.Ytncmdbpoceilgaa.T
open Go Go.RowKit Go.Proofs
set_option maxRecDepth 100000

noncomputable def c27 : Code := (Try.f27.body).getD .skip

noncomputable def r27 : List ResultVar := Try.f27.results.toList

noncomputable def F27_J1' (W J : StepF (AV × AHeap × Nat) → StepF (AV × AHeap × Nat)) (call : YldF → CallF) (Y : YldF) (lf : Nat) (x0 : Option (Nat × Nat)) (x1a : Option (Nat × Nat)) (x1n : Nat) (x1c : Option Nat) (x5 : Option (Nat × Nat)) (x6 : Option (Nat × Nat)) (h : AHeap) (nx : Nat) : Option (AV × AHeap × Nat) :=
  goK W J drawK (machOf Try.prog) call Y (keepT 27) lf c27 [1, 1, 0, 1, 0, 1, 1, 1, 1, 1, 0, 1] [] (retK (machOf Try.prog) ⟨c27, 94, r27, keepT 27⟩) ⟨94, mkL [(0, (.ptr x0)), (1, (.slice x1a x1n x1c)), (5, (.ptr x5)), (6, (.ptr x6))]⟩ h nx

noncomputable def F27_J1 (call : YldF → CallF) (Y : YldF) (lf : Nat) (x0 : Option (Nat × Nat)) (x1a : Option (Nat × Nat)) (x1n : Nat) (x1c : Option Nat) (x5 : Option (Nat × Nat)) (x6 : Option (Nat × Nat)) (h : AHeap) (nx : Nat) : Option (AV × AHeap × Nat) := F27_J1' go1 go1 call Y lf x0 x1a x1n x1c x5 x6 h nx

noncomputable def F27_J2' (W J : StepF (AV × AHeap × Nat) → StepF (AV × AHeap × Nat)) (call : YldF → CallF) (Y : YldF) (lf : Nat) (x0 : Option (Nat × Nat)) (x1a : Option (Nat × Nat)) (x1n : Nat) (x1c : Option Nat) (x5 : Option (Nat × Nat)) (x6 : Option (Nat × Nat)) (h : AHeap) (nx : Nat) : Option (AV × AHeap × Nat) :=
  goK W J drawK (machOf Try.prog) call Y (keepT 27) lf c27 [1, 1, 0, 1, 0, 1, 1, 1, 1, 1, 1, 1, 0, 1] [] (retK (machOf Try.prog) ⟨c27, 94, r27, keepT 27⟩) ⟨94, mkL [(0, (.ptr x0)), (1, (.slice x1a x1n x1c)), (5, (.ptr x5)), (6, (.ptr x6))]⟩ h nx

noncomputable def F27_J2 (call : YldF → CallF) (Y : YldF) (lf : Nat) (x0 : Option (Nat × Nat)) (x1a : Option (Nat × Nat)) (x1n : Nat) (x1c : Option Nat) (x5 : Option (Nat × Nat)) (x6 : Option (Nat × Nat)) (h : AHeap) (nx : Nat) : Option (AV × AHeap × Nat) := F27_J2' go1 go1 call Y lf x0 x1a x1n x1c x5 x6 h nx

noncomputable def F27_J3' (W J : StepF (AV × AHeap × Nat) → StepF (AV × AHeap × Nat)) (call : YldF → CallF) (Y : YldF) (lf : Nat) (x0 : Option (Nat × Nat)) (x1a : Option (Nat × Nat)) (x1n : Nat) (x1c : Option Nat) (x5 : Option (Nat × Nat)) (x6 : Option (Nat × Nat)) (x7 : Int) (h : AHeap) (nx : Nat) : Option (AV × AHeap × Nat) :=
  goK W J drawK (machOf Try.prog) call Y (keepT 27) lf c27 [1, 1, 1] [] (retK (machOf Try.prog) ⟨c27, 94, r27, keepT 27⟩) ⟨94, mkL [(0, (.ptr x0)), (1, (.slice x1a x1n x1c)), (5, (.ptr x5)), (6, (.ptr x6)), (7, (.int .i64 x7))]⟩ h nx

noncomputable def F27_J3 (call : YldF → CallF) (Y : YldF) (lf : Nat) (x0 : Option (Nat × Nat)) (x1a : Option (Nat × Nat)) (x1n : Nat) (x1c : Option Nat) (x5 : Option (Nat × Nat)) (x6 : Option (Nat × Nat)) (x7 : Int) (h : AHeap) (nx : Nat) : Option (AV × AHeap × Nat) := F27_J3' go1 go1 call Y lf x0 x1a x1n x1c x5 x6 x7 h nx

theorem F27_J1_eq' (J : StepF (AV × AHeap × Nat) → StepF (AV × AHeap × Nat)) (call : YldF → CallF) (Y : YldF) (lf : Nat) (x0 : Option (Nat × Nat)) (x1a : Option (Nat × Nat)) (x1n : Nat) (x1c : Option Nat) (x5 : Option (Nat × Nat)) (x6 : Option (Nat × Nat)) (h : AHeap) (nx : Nat) : F27_J1' go1 J call Y lf x0 x1a x1n x1c x5 x6 h nx =
    (x5).bind fun p1 =>
    (ldA h p1.1 (p1.2 + 3)).bind fun v2 =>
    (asI .i64 v2).bind fun n3 =>
    (x5).bind fun p4 =>
    (ldA h p4.1 (p4.2 + 7)).bind fun v5 =>
    (asSl v5).bind fun s6 =>
    (call Y 80 [(.slice x1a x1n x1c), (.int .i64 n3), (.slice s6.1 s6.2.1 s6.2.2)] h (nx + 12)).bind fun r7 =>
    (asTup 2 r7.1).bind fun d8 =>
    (asSl (d8.getD 0 .bad)).bind fun s9 =>
    (asI .i64 (d8.getD 1 .bad)).bind fun n10 =>
    F27_J3' J J call Y lf x0 s9.1 s9.2.1 s9.2.2 x5 x6 n10 r7.2.1 r7.2.2 := by kernel_rfl

theorem F27_J1_eq (call : YldF → CallF) (Y : YldF) (lf : Nat) (x0 : Option (Nat × Nat)) (x1a : Option (Nat × Nat)) (x1n : Nat) (x1c : Option Nat) (x5 : Option (Nat × Nat)) (x6 : Option (Nat × Nat)) (h : AHeap) (nx : Nat) : F27_J1 call Y lf x0 x1a x1n x1c x5 x6 h nx =
    (x5).bind fun p1 =>
    (ldA h p1.1 (p1.2 + 3)).bind fun v2 =>
    (asI .i64 v2).bind fun n3 =>
    (x5).bind fun p4 =>
    (ldA h p4.1 (p4.2 + 7)).bind fun v5 =>
    (asSl v5).bind fun s6 =>
    (call Y 80 [(.slice x1a x1n x1c), (.int .i64 n3), (.slice s6.1 s6.2.1 s6.2.2)] h (nx + 12)).bind fun r7 =>
    (asTup 2 r7.1).bind fun d8 =>
    (asSl (d8.getD 0 .bad)).bind fun s9 =>
    (asI .i64 (d8.getD 1 .bad)).bind fun n10 =>
    F27_J3 call Y lf x0 s9.1 s9.2.1 s9.2.2 x5 x6 n10 r7.2.1 r7.2.2 := F27_J1_eq' go1 call Y lf x0 x1a x1n x1c x5 x6 h nx

theorem F27_J2_eq' (J : StepF (AV × AHeap × Nat) → StepF (AV × AHeap × Nat)) (call : YldF → CallF) (Y : YldF) (lf : Nat) (x0 : Option (Nat × Nat)) (x1a : Option (Nat × Nat)) (x1n : Nat) (x1c : Option Nat) (x5 : Option (Nat × Nat)) (x6 : Option (Nat × Nat)) (h : AHeap) (nx : Nat) : F27_J2' go1 J call Y lf x0 x1a x1n x1c x5 x6 h nx =
    (x5).bind fun p1 =>
    (ldA h p1.1 (p1.2 + 4)).bind fun v2 =>
    (asI .i64 v2).bind fun n3 =>
    (call Y 78 [(.slice x1a x1n x1c), (.int .i64 n3)] h (nx + 10)).bind fun r4 =>
    (asTup 2 r4.1).bind fun d5 =>
    (asSl (d5.getD 0 .bad)).bind fun s6 =>
    (asI .i64 (d5.getD 1 .bad)).bind fun n7 =>
    F27_J3' J J call Y lf x0 s6.1 s6.2.1 s6.2.2 x5 x6 n7 r4.2.1 r4.2.2 := by kernel_rfl

theorem F27_J2_eq (call : YldF → CallF) (Y : YldF) (lf : Nat) (x0 : Option (Nat × Nat)) (x1a : Option (Nat × Nat)) (x1n : Nat) (x1c : Option Nat) (x5 : Option (Nat × Nat)) (x6 : Option (Nat × Nat)) (h : AHeap) (nx : Nat) : F27_J2 call Y lf x0 x1a x1n x1c x5 x6 h nx =
    (x5).bind fun p1 =>
    (ldA h p1.1 (p1.2 + 4)).bind fun v2 =>
    (asI .i64 v2).bind fun n3 =>
    (call Y 78 [(.slice x1a x1n x1c), (.int .i64 n3)] h (nx + 10)).bind fun r4 =>
    (asTup 2 r4.1).bind fun d5 =>
    (asSl (d5.getD 0 .bad)).bind fun s6 =>
    (asI .i64 (d5.getD 1 .bad)).bind fun n7 =>
    F27_J3 call Y lf x0 s6.1 s6.2.1 s6.2.2 x5 x6 n7 r4.2.1 r4.2.2 := F27_J2_eq' go1 call Y lf x0 x1a x1n x1c x5 x6 h nx

theorem F27_J3_eq' (J : StepF (AV × AHeap × Nat) → StepF (AV × AHeap × Nat)) (call : YldF → CallF) (Y : YldF) (lf : Nat) (x0 : Option (Nat × Nat)) (x1a : Option (Nat × Nat)) (x1n : Nat) (x1c : Option Nat) (x5 : Option (Nat × Nat)) (x6 : Option (Nat × Nat)) (x7 : Int) (h : AHeap) (nx : Nat) : F27_J3' go1 J call Y lf x0 x1a x1n x1c x5 x6 x7 h nx =
    if ((x7 : Int) != 0) = true then
    ((call Y 23 [(.int .i64 x7)] h (nx + 5)).bind fun r1 =>
    (asAgg 5 r1.1).bind fun d2 =>
    (asI .i64 (d2.getD 0 .bad)).bind fun n3 =>
    (asB (d2.getD 1 .bad)).bind fun t4 =>
    (asI .i64 (d2.getD 2 .bad)).bind fun n5 =>
    (asSl (d2.getD 3 .bad)).bind fun s6 =>
    (asSl (d2.getD 4 .bad)).bind fun s7 =>
    (x6).bind fun p8 =>
    (stA r1.2.1 p8.1 p8.2 (.agg [(.int .i64 n3), (.bool t4), (.int .i64 n5), (.slice s6.1 s6.2.1 s6.2.2), (.slice s7.1 s7.2.1 s7.2.2)]) 5).bind fun b9 =>
    let h10 := AHeap.put r1.2.1 p8.1 (some b9)
    (x6).bind fun p11 =>
    (ldR h10 p11.1 p11.2 5).bind fun l12 =>
    (asAgg 5 (AV.agg l12)).bind fun d13 =>
    (asI .i64 (d13.getD 0 .bad)).bind fun n14 =>
    (asB (d13.getD 1 .bad)).bind fun t15 =>
    (asI .i64 (d13.getD 2 .bad)).bind fun n16 =>
    (asSl (d13.getD 3 .bad)).bind fun s17 =>
    (asSl (d13.getD 4 .bad)).bind fun s18 =>
    some ((.agg [(.int .i64 n14), (.bool t15), (.int .i64 n16), (.slice s17.1 s17.2.1 s17.2.2), (.slice s18.1 s18.2.1 s18.2.2)]), h10, r1.2.2))
    else
    ((x0).bind fun p19 =>
    (ldA h p19.1 p19.2).bind fun v20 =>
    (asMp v20).bind fun m21 =>
    (x5).bind fun p22 =>
    (ldA h p22.1 (p22.2 + 1)).bind fun v23 =>
    (asStr v23).bind fun s24 =>
    (m21).bind fun i25 =>
    (mapD h i25).bind fun es26 =>
    (updE s24 (.slice x1a x1n x1c) es26).bind fun es27 =>
    let h28 := AHeap.put h i25 (some ⟨es27, MB, true⟩)
    (call Y 79 [(.slice x1a x1n x1c)] h28 (nx + 15)).bind fun r29 =>
    (asI .i64 r29.1).bind fun n30 =>
    (x6).bind fun p31 =>
    (stA r29.2.1 p31.1 p31.2 (.agg [(.int .i64 0), (.bool false), (.int .i64 n30), (.slice none 0 none), (.slice none 0 none)]) 5).bind fun b32 =>
    let h33 := AHeap.put r29.2.1 p31.1 (some b32)
    (x6).bind fun p34 =>
    (ldR h33 p34.1 p34.2 5).bind fun l35 =>
    (asAgg 5 (AV.agg l35)).bind fun d36 =>
    (asI .i64 (d36.getD 0 .bad)).bind fun n37 =>
    (asB (d36.getD 1 .bad)).bind fun t38 =>
    (asI .i64 (d36.getD 2 .bad)).bind fun n39 =>
    (asSl (d36.getD 3 .bad)).bind fun s40 =>
    (asSl (d36.getD 4 .bad)).bind fun s41 =>
    some ((.agg [(.int .i64 n37), (.bool t38), (.int .i64 n39), (.slice s40.1 s40.2.1 s40.2.2), (.slice s41.1 s41.2.1 s41.2.2)]), h33, r29.2.2)) := by kernel_rfl

theorem F27_J3_eq (call : YldF → CallF) (Y : YldF) (lf : Nat) (x0 : Option (Nat × Nat)) (x1a : Option (Nat × Nat)) (x1n : Nat) (x1c : Option Nat) (x5 : Option (Nat × Nat)) (x6 : Option (Nat × Nat)) (x7 : Int) (h : AHeap) (nx : Nat) : F27_J3 call Y lf x0 x1a x1n x1c x5 x6 x7 h nx =
    if ((x7 : Int) != 0) = true then
    ((call Y 23 [(.int .i64 x7)] h (nx + 5)).bind fun r1 =>
    (asAgg 5 r1.1).bind fun d2 =>
    (asI .i64 (d2.getD 0 .bad)).bind fun n3 =>
    (asB (d2.getD 1 .bad)).bind fun t4 =>
    (asI .i64 (d2.getD 2 .bad)).bind fun n5 =>
    (asSl (d2.getD 3 .bad)).bind fun s6 =>
    (asSl (d2.getD 4 .bad)).bind fun s7 =>
    (x6).bind fun p8 =>
    (stA r1.2.1 p8.1 p8.2 (.agg [(.int .i64 n3), (.bool t4), (.int .i64 n5), (.slice s6.1 s6.2.1 s6.2.2), (.slice s7.1 s7.2.1 s7.2.2)]) 5).bind fun b9 =>
    let h10 := AHeap.put r1.2.1 p8.1 (some b9)
    (x6).bind fun p11 =>
    (ldR h10 p11.1 p11.2 5).bind fun l12 =>
    (asAgg 5 (AV.agg l12)).bind fun d13 =>
    (asI .i64 (d13.getD 0 .bad)).bind fun n14 =>
    (asB (d13.getD 1 .bad)).bind fun t15 =>
    (asI .i64 (d13.getD 2 .bad)).bind fun n16 =>
    (asSl (d13.getD 3 .bad)).bind fun s17 =>
    (asSl (d13.getD 4 .bad)).bind fun s18 =>
    some ((.agg [(.int .i64 n14), (.bool t15), (.int .i64 n16), (.slice s17.1 s17.2.1 s17.2.2), (.slice s18.1 s18.2.1 s18.2.2)]), h10, r1.2.2))
    else
    ((x0).bind fun p19 =>
    (ldA h p19.1 p19.2).bind fun v20 =>
    (asMp v20).bind fun m21 =>
    (x5).bind fun p22 =>
    (ldA h p22.1 (p22.2 + 1)).bind fun v23 =>
    (asStr v23).bind fun s24 =>
    (m21).bind fun i25 =>
    (mapD h i25).bind fun es26 =>
    (updE s24 (.slice x1a x1n x1c) es26).bind fun es27 =>
    let h28 := AHeap.put h i25 (some ⟨es27, MB, true⟩)
    (call Y 79 [(.slice x1a x1n x1c)] h28 (nx + 15)).bind fun r29 =>
    (asI .i64 r29.1).bind fun n30 =>
    (x6).bind fun p31 =>
    (stA r29.2.1 p31.1 p31.2 (.agg [(.int .i64 0), (.bool false), (.int .i64 n30), (.slice none 0 none), (.slice none 0 none)]) 5).bind fun b32 =>
    let h33 := AHeap.put r29.2.1 p31.1 (some b32)
    (x6).bind fun p34 =>
    (ldR h33 p34.1 p34.2 5).bind fun l35 =>
    (asAgg 5 (AV.agg l35)).bind fun d36 =>
    (asI .i64 (d36.getD 0 .bad)).bind fun n37 =>
    (asB (d36.getD 1 .bad)).bind fun t38 =>
    (asI .i64 (d36.getD 2 .bad)).bind fun n39 =>
    (asSl (d36.getD 3 .bad)).bind fun s40 =>
    (asSl (d36.getD 4 .bad)).bind fun s41 =>
    some ((.agg [(.int .i64 n37), (.bool t38), (.int .i64 n39), (.slice s40.1 s40.2.1 s40.2.2), (.slice s41.1 s41.2.1 s41.2.2)]), h33, r29.2.2)) := F27_J3_eq' go1 call Y lf x0 x1a x1n x1c x5 x6 x7 h nx

theorem F27_eq' (J : StepF (AV × AHeap × Nat) → StepF (AV × AHeap × Nat)) (n : Nat) (Y : YldF) (x0 : Option (Nat × Nat)) (x1a : Option (Nat × Nat)) (x1n : Nat) (x1c : Option Nat) (x2_0 : Int) (x2_1 : ByteArray) (x2_2 : ByteArray) (x2_3 : Int) (x2_4 : Int) (x2_5 : Int) (x2_6 : Int) (x2_7a : Option (Nat × Nat)) (x2_7n : Nat) (x2_7c : Option Nat) (h : AHeap) (nx : Nat) : rootJ J Try.prog keepT (callP Try.prog keepT n) Y n 27 [(.ptr x0), (.slice x1a x1n x1c), (.agg [(.int .i64 x2_0), (.str x2_1), (.str x2_2), (.int .i64 x2_3), (.int .i64 x2_4), (.int .i64 x2_5), (.int .i64 x2_6), (.slice x2_7a x2_7n x2_7c)])] h nx =
    let h1 := AHeap.put h nx (some ⟨[(.int .i64 x2_0), (.str x2_1), (.str x2_2), (.int .i64 x2_3), (.int .i64 x2_4), (.int .i64 x2_5), (.int .i64 x2_6), (.slice x2_7a x2_7n x2_7c)], 8, true⟩)
    let h2 := AHeap.put h1 (nx + 1) (some ⟨[(.int .i64 0), (.bool false), (.int .i64 0), (.slice none 0 none), (.slice none 0 none)], 5, true⟩)
    (ldA h2 nx 0).bind fun v3 =>
    (asI .i64 v3).bind fun n4 =>
    if ((n4 : Int) == 3) = true then
    ((ldR h2 nx 0 8).bind fun l5 =>
    (asAgg 8 (AV.agg l5)).bind fun d6 =>
    (asI .i64 (d6.getD 0 .bad)).bind fun n7 =>
    (asStr (d6.getD 1 .bad)).bind fun s8 =>
    (asStr (d6.getD 2 .bad)).bind fun s9 =>
    (asI .i64 (d6.getD 3 .bad)).bind fun n10 =>
    (asI .i64 (d6.getD 4 .bad)).bind fun n11 =>
    (asI .i64 (d6.getD 5 .bad)).bind fun n12 =>
    (asI .i64 (d6.getD 6 .bad)).bind fun n13 =>
    (asSl (d6.getD 7 .bad)).bind fun s14 =>
    ((callP Try.prog keepT n) Y 34 [(.slice x1a x1n x1c), (.agg [(.int .i64 n7), (.str s8), (.str s9), (.int .i64 n10), (.int .i64 n11), (.int .i64 n12), (.int .i64 n13), (.slice s14.1 s14.2.1 s14.2.2)])] h2 (nx + 11)).bind fun r15 =>
    (asAgg 5 r15.1).bind fun d16 =>
    (asI .i64 (d16.getD 0 .bad)).bind fun n17 =>
    (asB (d16.getD 1 .bad)).bind fun t18 =>
    (asI .i64 (d16.getD 2 .bad)).bind fun n19 =>
    (asSl (d16.getD 3 .bad)).bind fun s20 =>
    (asSl (d16.getD 4 .bad)).bind fun s21 =>
    (stA r15.2.1 (nx + 1) 0 (.agg [(.int .i64 n17), (.bool t18), (.int .i64 n19), (.slice s20.1 s20.2.1 s20.2.2), (.slice s21.1 s21.2.1 s21.2.2)]) 5).bind fun b22 =>
    let h23 := AHeap.put r15.2.1 (nx + 1) (some b22)
    (ldR h23 (nx + 1) 0 5).bind fun l24 =>
    (asAgg 5 (AV.agg l24)).bind fun d25 =>
    (asI .i64 (d25.getD 0 .bad)).bind fun n26 =>
    (asB (d25.getD 1 .bad)).bind fun t27 =>
    (asI .i64 (d25.getD 2 .bad)).bind fun n28 =>
    (asSl (d25.getD 3 .bad)).bind fun s29 =>
    (asSl (d25.getD 4 .bad)).bind fun s30 =>
    some ((.agg [(.int .i64 n26), (.bool t27), (.int .i64 n28), (.slice s29.1 s29.2.1 s29.2.2), (.slice s30.1 s30.2.1 s30.2.2)]), h23, r15.2.2))
    else
    (if ((n4 : Int) == 5) = true then
    ((x0).bind fun p31 =>
    (ldA h2 p31.1 p31.2).bind fun v32 =>
    (asMp v32).bind fun m33 =>
    (ldA h2 nx 1).bind fun v34 =>
    (asStr v34).bind fun s35 =>
    (m33).bind fun i36 =>
    (mapD h2 i36).bind fun es37 =>
    (delE s35 es37).bind fun es38 =>
    let h39 := AHeap.put h2 i36 (some ⟨es38, MB, true⟩)
    (stA h39 (nx + 1) 0 (.agg [(.int .i64 0), (.bool false), (.int .i64 0), (.slice none 0 none), (.slice none 0 none)]) 5).bind fun b40 =>
    let h41 := AHeap.put h39 (nx + 1) (some b40)
    (ldR h41 (nx + 1) 0 5).bind fun l42 =>
    (asAgg 5 (AV.agg l42)).bind fun d43 =>
    (asI .i64 (d43.getD 0 .bad)).bind fun n44 =>
    (asB (d43.getD 1 .bad)).bind fun t45 =>
    (asI .i64 (d43.getD 2 .bad)).bind fun n46 =>
    (asSl (d43.getD 3 .bad)).bind fun s47 =>
    (asSl (d43.getD 4 .bad)).bind fun s48 =>
    some ((.agg [(.int .i64 n44), (.bool t45), (.int .i64 n46), (.slice s47.1 s47.2.1 s47.2.2), (.slice s48.1 s48.2.1 s48.2.2)]), h41, (nx + 18)))
    else
    (if ((n4 : Int) == 2) = true then
    ((ldA h2 nx 7).bind fun v49 =>
    (asSl v49).bind fun s50 =>
    if ((((s50.2.1 : Nat) : Int) : Int) == 0) = true then
    (((callP Try.prog keepT n) Y 23 [(.int .i64 1)] h2 (nx + 24)).bind fun r51 =>
    (asAgg 5 r51.1).bind fun d52 =>
    (asI .i64 (d52.getD 0 .bad)).bind fun n53 =>
    (asB (d52.getD 1 .bad)).bind fun t54 =>
    (asI .i64 (d52.getD 2 .bad)).bind fun n55 =>
    (asSl (d52.getD 3 .bad)).bind fun s56 =>
    (asSl (d52.getD 4 .bad)).bind fun s57 =>
    (stA r51.2.1 (nx + 1) 0 (.agg [(.int .i64 n53), (.bool t54), (.int .i64 n55), (.slice s56.1 s56.2.1 s56.2.2), (.slice s57.1 s57.2.1 s57.2.2)]) 5).bind fun b58 =>
    let h59 := AHeap.put r51.2.1 (nx + 1) (some b58)
    (ldR h59 (nx + 1) 0 5).bind fun l60 =>
    (asAgg 5 (AV.agg l60)).bind fun d61 =>
    (asI .i64 (d61.getD 0 .bad)).bind fun n62 =>
    (asB (d61.getD 1 .bad)).bind fun t63 =>
    (asI .i64 (d61.getD 2 .bad)).bind fun n64 =>
    (asSl (d61.getD 3 .bad)).bind fun s65 =>
    (asSl (d61.getD 4 .bad)).bind fun s66 =>
    some ((.agg [(.int .i64 n62), (.bool t63), (.int .i64 n64), (.slice s65.1 s65.2.1 s65.2.2), (.slice s66.1 s66.2.1 s66.2.2)]), h59, r51.2.2))
    else
    (if (decide ((((s50.2.1 : Nat) : Int) : Int) > 400)) = true then
    (((callP Try.prog keepT n) Y 23 [(.int .i64 1)] h2 (nx + 24)).bind fun r67 =>
    (asAgg 5 r67.1).bind fun d68 =>
    (asI .i64 (d68.getD 0 .bad)).bind fun n69 =>
    (asB (d68.getD 1 .bad)).bind fun t70 =>
    (asI .i64 (d68.getD 2 .bad)).bind fun n71 =>
    (asSl (d68.getD 3 .bad)).bind fun s72 =>
    (asSl (d68.getD 4 .bad)).bind fun s73 =>
    (stA r67.2.1 (nx + 1) 0 (.agg [(.int .i64 n69), (.bool t70), (.int .i64 n71), (.slice s72.1 s72.2.1 s72.2.2), (.slice s73.1 s73.2.1 s73.2.2)]) 5).bind fun b74 =>
    let h75 := AHeap.put r67.2.1 (nx + 1) (some b74)
    (ldR h75 (nx + 1) 0 5).bind fun l76 =>
    (asAgg 5 (AV.agg l76)).bind fun d77 =>
    (asI .i64 (d77.getD 0 .bad)).bind fun n78 =>
    (asB (d77.getD 1 .bad)).bind fun t79 =>
    (asI .i64 (d77.getD 2 .bad)).bind fun n80 =>
    (asSl (d77.getD 3 .bad)).bind fun s81 =>
    (asSl (d77.getD 4 .bad)).bind fun s82 =>
    some ((.agg [(.int .i64 n78), (.bool t79), (.int .i64 n80), (.slice s81.1 s81.2.1 s81.2.2), (.slice s82.1 s82.2.1 s82.2.2)]), h75, r67.2.2))
    else
    ((ldA h2 nx 3).bind fun v83 =>
    (asI .i64 v83).bind fun n84 =>
    if (decide ((n84 : Int) < 0)) = true then
    (((callP Try.prog keepT n) Y 23 [(.int .i64 2)] h2 (nx + 35)).bind fun r85 =>
    (asAgg 5 r85.1).bind fun d86 =>
    (asI .i64 (d86.getD 0 .bad)).bind fun n87 =>
    (asB (d86.getD 1 .bad)).bind fun t88 =>
    (asI .i64 (d86.getD 2 .bad)).bind fun n89 =>
    (asSl (d86.getD 3 .bad)).bind fun s90 =>
    (asSl (d86.getD 4 .bad)).bind fun s91 =>
    (stA r85.2.1 (nx + 1) 0 (.agg [(.int .i64 n87), (.bool t88), (.int .i64 n89), (.slice s90.1 s90.2.1 s90.2.2), (.slice s91.1 s91.2.1 s91.2.2)]) 5).bind fun b92 =>
    let h93 := AHeap.put r85.2.1 (nx + 1) (some b92)
    (ldR h93 (nx + 1) 0 5).bind fun l94 =>
    (asAgg 5 (AV.agg l94)).bind fun d95 =>
    (asI .i64 (d95.getD 0 .bad)).bind fun n96 =>
    (asB (d95.getD 1 .bad)).bind fun t97 =>
    (asI .i64 (d95.getD 2 .bad)).bind fun n98 =>
    (asSl (d95.getD 3 .bad)).bind fun s99 =>
    (asSl (d95.getD 4 .bad)).bind fun s100 =>
    some ((.agg [(.int .i64 n96), (.bool t97), (.int .i64 n98), (.slice s99.1 s99.2.1 s99.2.2), (.slice s100.1 s100.2.1 s100.2.2)]), h93, r85.2.2))
    else
    ((ldA h2 nx 3).bind fun v101 =>
    (asI .i64 v101).bind fun n102 =>
    if (decide ((n102 : Int) > (wrapA .i64 (1024 - ((s50.2.1 : Nat) : Int))))) = true then
    (((callP Try.prog keepT n) Y 23 [(.int .i64 2)] h2 (nx + 35)).bind fun r103 =>
    (asAgg 5 r103.1).bind fun d104 =>
    (asI .i64 (d104.getD 0 .bad)).bind fun n105 =>
    (asB (d104.getD 1 .bad)).bind fun t106 =>
    (asI .i64 (d104.getD 2 .bad)).bind fun n107 =>
    (asSl (d104.getD 3 .bad)).bind fun s108 =>
    (asSl (d104.getD 4 .bad)).bind fun s109 =>
    (stA r103.2.1 (nx + 1) 0 (.agg [(.int .i64 n105), (.bool t106), (.int .i64 n107), (.slice s108.1 s108.2.1 s108.2.2), (.slice s109.1 s109.2.1 s109.2.2)]) 5).bind fun b110 =>
    let h111 := AHeap.put r103.2.1 (nx + 1) (some b110)
    (ldR h111 (nx + 1) 0 5).bind fun l112 =>
    (asAgg 5 (AV.agg l112)).bind fun d113 =>
    (asI .i64 (d113.getD 0 .bad)).bind fun n114 =>
    (asB (d113.getD 1 .bad)).bind fun t115 =>
    (asI .i64 (d113.getD 2 .bad)).bind fun n116 =>
    (asSl (d113.getD 3 .bad)).bind fun s117 =>
    (asSl (d113.getD 4 .bad)).bind fun s118 =>
    some ((.agg [(.int .i64 n114), (.bool t115), (.int .i64 n116), (.slice s117.1 s117.2.1 s117.2.2), (.slice s118.1 s118.2.1 s118.2.2)]), h111, r103.2.2))
    else
    (F27_J1' J J (callP Try.prog keepT n) Y n x0 x1a x1n x1c (some (nx, 0)) (some ((nx + 1), 0)) h2 (nx + 33))))))
    else
    (if ((n4 : Int) == 4) = true then
    ((ldA h2 nx 4).bind fun v119 =>
    (asI .i64 v119).bind fun n120 =>
    if (decide ((n120 : Int) < 0)) = true then
    (((callP Try.prog keepT n) Y 23 [(.int .i64 2)] h2 (nx + 23)).bind fun r121 =>
    (asAgg 5 r121.1).bind fun d122 =>
    (asI .i64 (d122.getD 0 .bad)).bind fun n123 =>
    (asB (d122.getD 1 .bad)).bind fun t124 =>
    (asI .i64 (d122.getD 2 .bad)).bind fun n125 =>
    (asSl (d122.getD 3 .bad)).bind fun s126 =>
    (asSl (d122.getD 4 .bad)).bind fun s127 =>
    (stA r121.2.1 (nx + 1) 0 (.agg [(.int .i64 n123), (.bool t124), (.int .i64 n125), (.slice s126.1 s126.2.1 s126.2.2), (.slice s127.1 s127.2.1 s127.2.2)]) 5).bind fun b128 =>
    let h129 := AHeap.put r121.2.1 (nx + 1) (some b128)
    (ldR h129 (nx + 1) 0 5).bind fun l130 =>
    (asAgg 5 (AV.agg l130)).bind fun d131 =>
    (asI .i64 (d131.getD 0 .bad)).bind fun n132 =>
    (asB (d131.getD 1 .bad)).bind fun t133 =>
    (asI .i64 (d131.getD 2 .bad)).bind fun n134 =>
    (asSl (d131.getD 3 .bad)).bind fun s135 =>
    (asSl (d131.getD 4 .bad)).bind fun s136 =>
    some ((.agg [(.int .i64 n132), (.bool t133), (.int .i64 n134), (.slice s135.1 s135.2.1 s135.2.2), (.slice s136.1 s136.2.1 s136.2.2)]), h129, r121.2.2))
    else
    ((ldA h2 nx 4).bind fun v137 =>
    (asI .i64 v137).bind fun n138 =>
    if (decide ((n138 : Int) > 1024)) = true then
    (((callP Try.prog keepT n) Y 23 [(.int .i64 2)] h2 (nx + 23)).bind fun r139 =>
    (asAgg 5 r139.1).bind fun d140 =>
    (asI .i64 (d140.getD 0 .bad)).bind fun n141 =>
    (asB (d140.getD 1 .bad)).bind fun t142 =>
    (asI .i64 (d140.getD 2 .bad)).bind fun n143 =>
    (asSl (d140.getD 3 .bad)).bind fun s144 =>
    (asSl (d140.getD 4 .bad)).bind fun s145 =>
    (stA r139.2.1 (nx + 1) 0 (.agg [(.int .i64 n141), (.bool t142), (.int .i64 n143), (.slice s144.1 s144.2.1 s144.2.2), (.slice s145.1 s145.2.1 s145.2.2)]) 5).bind fun b146 =>
    let h147 := AHeap.put r139.2.1 (nx + 1) (some b146)
    (ldR h147 (nx + 1) 0 5).bind fun l148 =>
    (asAgg 5 (AV.agg l148)).bind fun d149 =>
    (asI .i64 (d149.getD 0 .bad)).bind fun n150 =>
    (asB (d149.getD 1 .bad)).bind fun t151 =>
    (asI .i64 (d149.getD 2 .bad)).bind fun n152 =>
    (asSl (d149.getD 3 .bad)).bind fun s153 =>
    (asSl (d149.getD 4 .bad)).bind fun s154 =>
    some ((.agg [(.int .i64 n150), (.bool t151), (.int .i64 n152), (.slice s153.1 s153.2.1 s153.2.2), (.slice s154.1 s154.2.1 s154.2.2)]), h147, r139.2.2))
    else
    (F27_J2' J J (callP Try.prog keepT n) Y n x0 x1a x1n x1c (some (nx, 0)) (some ((nx + 1), 0)) h2 (nx + 21))))
    else
    (F27_J3' J J (callP Try.prog keepT n) Y n x0 x1a x1n x1c (some (nx, 0)) (some ((nx + 1), 0)) 0 h2 (nx + 13))))) := by kernel_rfl

/-- (*quickset/pool.State[quickset/pool.flat]).object -/
theorem F27_eq (n : Nat) (Y : YldF) (x0 : Option (Nat × Nat)) (x1a : Option (Nat × Nat)) (x1n : Nat) (x1c : Option Nat) (x2_0 : Int) (x2_1 : ByteArray) (x2_2 : ByteArray) (x2_3 : Int) (x2_4 : Int) (x2_5 : Int) (x2_6 : Int) (x2_7a : Option (Nat × Nat)) (x2_7n : Nat) (x2_7c : Option Nat) (h : AHeap) (nx : Nat) : callP Try.prog keepT (n + 1) Y 27 [(.ptr x0), (.slice x1a x1n x1c), (.agg [(.int .i64 x2_0), (.str x2_1), (.str x2_2), (.int .i64 x2_3), (.int .i64 x2_4), (.int .i64 x2_5), (.int .i64 x2_6), (.slice x2_7a x2_7n x2_7c)])] h nx =
    let h1 := AHeap.put h nx (some ⟨[(.int .i64 x2_0), (.str x2_1), (.str x2_2), (.int .i64 x2_3), (.int .i64 x2_4), (.int .i64 x2_5), (.int .i64 x2_6), (.slice x2_7a x2_7n x2_7c)], 8, true⟩)
    let h2 := AHeap.put h1 (nx + 1) (some ⟨[(.int .i64 0), (.bool false), (.int .i64 0), (.slice none 0 none), (.slice none 0 none)], 5, true⟩)
    (ldA h2 nx 0).bind fun v3 =>
    (asI .i64 v3).bind fun n4 =>
    if ((n4 : Int) == 3) = true then
    ((ldR h2 nx 0 8).bind fun l5 =>
    (asAgg 8 (AV.agg l5)).bind fun d6 =>
    (asI .i64 (d6.getD 0 .bad)).bind fun n7 =>
    (asStr (d6.getD 1 .bad)).bind fun s8 =>
    (asStr (d6.getD 2 .bad)).bind fun s9 =>
    (asI .i64 (d6.getD 3 .bad)).bind fun n10 =>
    (asI .i64 (d6.getD 4 .bad)).bind fun n11 =>
    (asI .i64 (d6.getD 5 .bad)).bind fun n12 =>
    (asI .i64 (d6.getD 6 .bad)).bind fun n13 =>
    (asSl (d6.getD 7 .bad)).bind fun s14 =>
    ((callP Try.prog keepT n) Y 34 [(.slice x1a x1n x1c), (.agg [(.int .i64 n7), (.str s8), (.str s9), (.int .i64 n10), (.int .i64 n11), (.int .i64 n12), (.int .i64 n13), (.slice s14.1 s14.2.1 s14.2.2)])] h2 (nx + 11)).bind fun r15 =>
    (asAgg 5 r15.1).bind fun d16 =>
    (asI .i64 (d16.getD 0 .bad)).bind fun n17 =>
    (asB (d16.getD 1 .bad)).bind fun t18 =>
    (asI .i64 (d16.getD 2 .bad)).bind fun n19 =>
    (asSl (d16.getD 3 .bad)).bind fun s20 =>
    (asSl (d16.getD 4 .bad)).bind fun s21 =>
    (stA r15.2.1 (nx + 1) 0 (.agg [(.int .i64 n17), (.bool t18), (.int .i64 n19), (.slice s20.1 s20.2.1 s20.2.2), (.slice s21.1 s21.2.1 s21.2.2)]) 5).bind fun b22 =>
    let h23 := AHeap.put r15.2.1 (nx + 1) (some b22)
    (ldR h23 (nx + 1) 0 5).bind fun l24 =>
    (asAgg 5 (AV.agg l24)).bind fun d25 =>
    (asI .i64 (d25.getD 0 .bad)).bind fun n26 =>
    (asB (d25.getD 1 .bad)).bind fun t27 =>
    (asI .i64 (d25.getD 2 .bad)).bind fun n28 =>
    (asSl (d25.getD 3 .bad)).bind fun s29 =>
    (asSl (d25.getD 4 .bad)).bind fun s30 =>
    some ((.agg [(.int .i64 n26), (.bool t27), (.int .i64 n28), (.slice s29.1 s29.2.1 s29.2.2), (.slice s30.1 s30.2.1 s30.2.2)]), h23, r15.2.2))
    else
    (if ((n4 : Int) == 5) = true then
    ((x0).bind fun p31 =>
    (ldA h2 p31.1 p31.2).bind fun v32 =>
    (asMp v32).bind fun m33 =>
    (ldA h2 nx 1).bind fun v34 =>
    (asStr v34).bind fun s35 =>
    (m33).bind fun i36 =>
    (mapD h2 i36).bind fun es37 =>
    (delE s35 es37).bind fun es38 =>
    let h39 := AHeap.put h2 i36 (some ⟨es38, MB, true⟩)
    (stA h39 (nx + 1) 0 (.agg [(.int .i64 0), (.bool false), (.int .i64 0), (.slice none 0 none), (.slice none 0 none)]) 5).bind fun b40 =>
    let h41 := AHeap.put h39 (nx + 1) (some b40)
    (ldR h41 (nx + 1) 0 5).bind fun l42 =>
    (asAgg 5 (AV.agg l42)).bind fun d43 =>
    (asI .i64 (d43.getD 0 .bad)).bind fun n44 =>
    (asB (d43.getD 1 .bad)).bind fun t45 =>
    (asI .i64 (d43.getD 2 .bad)).bind fun n46 =>
    (asSl (d43.getD 3 .bad)).bind fun s47 =>
    (asSl (d43.getD 4 .bad)).bind fun s48 =>
    some ((.agg [(.int .i64 n44), (.bool t45), (.int .i64 n46), (.slice s47.1 s47.2.1 s47.2.2), (.slice s48.1 s48.2.1 s48.2.2)]), h41, (nx + 18)))
    else
    (if ((n4 : Int) == 2) = true then
    ((ldA h2 nx 7).bind fun v49 =>
    (asSl v49).bind fun s50 =>
    if ((((s50.2.1 : Nat) : Int) : Int) == 0) = true then
    (((callP Try.prog keepT n) Y 23 [(.int .i64 1)] h2 (nx + 24)).bind fun r51 =>
    (asAgg 5 r51.1).bind fun d52 =>
    (asI .i64 (d52.getD 0 .bad)).bind fun n53 =>
    (asB (d52.getD 1 .bad)).bind fun t54 =>
    (asI .i64 (d52.getD 2 .bad)).bind fun n55 =>
    (asSl (d52.getD 3 .bad)).bind fun s56 =>
    (asSl (d52.getD 4 .bad)).bind fun s57 =>
    (stA r51.2.1 (nx + 1) 0 (.agg [(.int .i64 n53), (.bool t54), (.int .i64 n55), (.slice s56.1 s56.2.1 s56.2.2), (.slice s57.1 s57.2.1 s57.2.2)]) 5).bind fun b58 =>
    let h59 := AHeap.put r51.2.1 (nx + 1) (some b58)
    (ldR h59 (nx + 1) 0 5).bind fun l60 =>
    (asAgg 5 (AV.agg l60)).bind fun d61 =>
    (asI .i64 (d61.getD 0 .bad)).bind fun n62 =>
    (asB (d61.getD 1 .bad)).bind fun t63 =>
    (asI .i64 (d61.getD 2 .bad)).bind fun n64 =>
    (asSl (d61.getD 3 .bad)).bind fun s65 =>
    (asSl (d61.getD 4 .bad)).bind fun s66 =>
    some ((.agg [(.int .i64 n62), (.bool t63), (.int .i64 n64), (.slice s65.1 s65.2.1 s65.2.2), (.slice s66.1 s66.2.1 s66.2.2)]), h59, r51.2.2))
    else
    (if (decide ((((s50.2.1 : Nat) : Int) : Int) > 400)) = true then
    (((callP Try.prog keepT n) Y 23 [(.int .i64 1)] h2 (nx + 24)).bind fun r67 =>
    (asAgg 5 r67.1).bind fun d68 =>
    (asI .i64 (d68.getD 0 .bad)).bind fun n69 =>
    (asB (d68.getD 1 .bad)).bind fun t70 =>
    (asI .i64 (d68.getD 2 .bad)).bind fun n71 =>
    (asSl (d68.getD 3 .bad)).bind fun s72 =>
    (asSl (d68.getD 4 .bad)).bind fun s73 =>
    (stA r67.2.1 (nx + 1) 0 (.agg [(.int .i64 n69), (.bool t70), (.int .i64 n71), (.slice s72.1 s72.2.1 s72.2.2), (.slice s73.1 s73.2.1 s73.2.2)]) 5).bind fun b74 =>
    let h75 := AHeap.put r67.2.1 (nx + 1) (some b74)
    (ldR h75 (nx + 1) 0 5).bind fun l76 =>
    (asAgg 5 (AV.agg l76)).bind fun d77 =>
    (asI .i64 (d77.getD 0 .bad)).bind fun n78 =>
    (asB (d77.getD 1 .bad)).bind fun t79 =>
    (asI .i64 (d77.getD 2 .bad)).bind fun n80 =>
    (asSl (d77.getD 3 .bad)).bind fun s81 =>
    (asSl (d77.getD 4 .bad)).bind fun s82 =>
    some ((.agg [(.int .i64 n78), (.bool t79), (.int .i64 n80), (.slice s81.1 s81.2.1 s81.2.2), (.slice s82.1 s82.2.1 s82.2.2)]), h75, r67.2.2))
    else
    ((ldA h2 nx 3).bind fun v83 =>
    (asI .i64 v83).bind fun n84 =>
    if (decide ((n84 : Int) < 0)) = true then
    (((callP Try.prog keepT n) Y 23 [(.int .i64 2)] h2 (nx + 35)).bind fun r85 =>
    (asAgg 5 r85.1).bind fun d86 =>
    (asI .i64 (d86.getD 0 .bad)).bind fun n87 =>
    (asB (d86.getD 1 .bad)).bind fun t88 =>
    (asI .i64 (d86.getD 2 .bad)).bind fun n89 =>
    (asSl (d86.getD 3 .bad)).bind fun s90 =>
    (asSl (d86.getD 4 .bad)).bind fun s91 =>
    (stA r85.2.1 (nx + 1) 0 (.agg [(.int .i64 n87), (.bool t88), (.int .i64 n89), (.slice s90.1 s90.2.1 s90.2.2), (.slice s91.1 s91.2.1 s91.2.2)]) 5).bind fun b92 =>
    let h93 := AHeap.put r85.2.1 (nx + 1) (some b92)
    (ldR h93 (nx + 1) 0 5).bind fun l94 =>
    (asAgg 5 (AV.agg l94)).bind fun d95 =>
    (asI .i64 (d95.getD 0 .bad)).bind fun n96 =>
    (asB (d95.getD 1 .bad)).bind fun t97 =>
    (asI .i64 (d95.getD 2 .bad)).bind fun n98 =>
    (asSl (d95.getD 3 .bad)).bind fun s99 =>
    (asSl (d95.getD 4 .bad)).bind fun s100 =>
    some ((.agg [(.int .i64 n96), (.bool t97), (.int .i64 n98), (.slice s99.1 s99.2.1 s99.2.2), (.slice s100.1 s100.2.1 s100.2.2)]), h93, r85.2.2))
    else
    ((ldA h2 nx 3).bind fun v101 =>
    (asI .i64 v101).bind fun n102 =>
    if (decide ((n102 : Int) > (wrapA .i64 (1024 - ((s50.2.1 : Nat) : Int))))) = true then
    (((callP Try.prog keepT n) Y 23 [(.int .i64 2)] h2 (nx + 35)).bind fun r103 =>
    (asAgg 5 r103.1).bind fun d104 =>
    (asI .i64 (d104.getD 0 .bad)).bind fun n105 =>
    (asB (d104.getD 1 .bad)).bind fun t106 =>
    (asI .i64 (d104.getD 2 .bad)).bind fun n107 =>
    (asSl (d104.getD 3 .bad)).bind fun s108 =>
    (asSl (d104.getD 4 .bad)).bind fun s109 =>
    (stA r103.2.1 (nx + 1) 0 (.agg [(.int .i64 n105), (.bool t106), (.int .i64 n107), (.slice s108.1 s108.2.1 s108.2.2), (.slice s109.1 s109.2.1 s109.2.2)]) 5).bind fun b110 =>
    let h111 := AHeap.put r103.2.1 (nx + 1) (some b110)
    (ldR h111 (nx + 1) 0 5).bind fun l112 =>
    (asAgg 5 (AV.agg l112)).bind fun d113 =>
    (asI .i64 (d113.getD 0 .bad)).bind fun n114 =>
    (asB (d113.getD 1 .bad)).bind fun t115 =>
    (asI .i64 (d113.getD 2 .bad)).bind fun n116 =>
    (asSl (d113.getD 3 .bad)).bind fun s117 =>
    (asSl (d113.getD 4 .bad)).bind fun s118 =>
    some ((.agg [(.int .i64 n114), (.bool t115), (.int .i64 n116), (.slice s117.1 s117.2.1 s117.2.2), (.slice s118.1 s118.2.1 s118.2.2)]), h111, r103.2.2))
    else
    (F27_J1 (callP Try.prog keepT n) Y n x0 x1a x1n x1c (some (nx, 0)) (some ((nx + 1), 0)) h2 (nx + 33))))))
    else
    (if ((n4 : Int) == 4) = true then
    ((ldA h2 nx 4).bind fun v119 =>
    (asI .i64 v119).bind fun n120 =>
    if (decide ((n120 : Int) < 0)) = true then
    (((callP Try.prog keepT n) Y 23 [(.int .i64 2)] h2 (nx + 23)).bind fun r121 =>
    (asAgg 5 r121.1).bind fun d122 =>
    (asI .i64 (d122.getD 0 .bad)).bind fun n123 =>
    (asB (d122.getD 1 .bad)).bind fun t124 =>
    (asI .i64 (d122.getD 2 .bad)).bind fun n125 =>
    (asSl (d122.getD 3 .bad)).bind fun s126 =>
    (asSl (d122.getD 4 .bad)).bind fun s127 =>
    (stA r121.2.1 (nx + 1) 0 (.agg [(.int .i64 n123), (.bool t124), (.int .i64 n125), (.slice s126.1 s126.2.1 s126.2.2), (.slice s127.1 s127.2.1 s127.2.2)]) 5).bind fun b128 =>
    let h129 := AHeap.put r121.2.1 (nx + 1) (some b128)
    (ldR h129 (nx + 1) 0 5).bind fun l130 =>
    (asAgg 5 (AV.agg l130)).bind fun d131 =>
    (asI .i64 (d131.getD 0 .bad)).bind fun n132 =>
    (asB (d131.getD 1 .bad)).bind fun t133 =>
    (asI .i64 (d131.getD 2 .bad)).bind fun n134 =>
    (asSl (d131.getD 3 .bad)).bind fun s135 =>
    (asSl (d131.getD 4 .bad)).bind fun s136 =>
    some ((.agg [(.int .i64 n132), (.bool t133), (.int .i64 n134), (.slice s135.1 s135.2.1 s135.2.2), (.slice s136.1 s136.2.1 s136.2.2)]), h129, r121.2.2))
    else
    ((ldA h2 nx 4).bind fun v137 =>
    (asI .i64 v137).bind fun n138 =>
    if (decide ((n138 : Int) > 1024)) = true then
    (((callP Try.prog keepT n) Y 23 [(.int .i64 2)] h2 (nx + 23)).bind fun r139 =>
    (asAgg 5 r139.1).bind fun d140 =>
    (asI .i64 (d140.getD 0 .bad)).bind fun n141 =>
    (asB (d140.getD 1 .bad)).bind fun t142 =>
    (asI .i64 (d140.getD 2 .bad)).bind fun n143 =>
    (asSl (d140.getD 3 .bad)).bind fun s144 =>
    (asSl (d140.getD 4 .bad)).bind fun s145 =>
    (stA r139.2.1 (nx + 1) 0 (.agg [(.int .i64 n141), (.bool t142), (.int .i64 n143), (.slice s144.1 s144.2.1 s144.2.2), (.slice s145.1 s145.2.1 s145.2.2)]) 5).bind fun b146 =>
    let h147 := AHeap.put r139.2.1 (nx + 1) (some b146)
    (ldR h147 (nx + 1) 0 5).bind fun l148 =>
    (asAgg 5 (AV.agg l148)).bind fun d149 =>
    (asI .i64 (d149.getD 0 .bad)).bind fun n150 =>
    (asB (d149.getD 1 .bad)).bind fun t151 =>
    (asI .i64 (d149.getD 2 .bad)).bind fun n152 =>
    (asSl (d149.getD 3 .bad)).bind fun s153 =>
    (asSl (d149.getD 4 .bad)).bind fun s154 =>
    some ((.agg [(.int .i64 n150), (.bool t151), (.int .i64 n152), (.slice s153.1 s153.2.1 s153.2.2), (.slice s154.1 s154.2.1 s154.2.2)]), h147, r139.2.2))
    else
    (F27_J2 (callP Try.prog keepT n) Y n x0 x1a x1n x1c (some (nx, 0)) (some ((nx + 1), 0)) h2 (nx + 21))))
    else
    (F27_J3 (callP Try.prog keepT n) Y n x0 x1a x1n x1c (some (nx, 0)) (some ((nx + 1), 0)) 0 h2 (nx + 13))))) := F27_eq' go1 n Y x0 x1a x1n x1c x2_0 x2_1 x2_2 x2_3 x2_4 x2_5 x2_6 x2_7a x2_7n x2_7c h nx

noncomputable def c28 : Code := (Try.f28.body).getD .skip

noncomputable def r28 : List ResultVar := Try.f28.results.toList

noncomputable def F28_L1' (W J : StepF (AV × AHeap × Nat) → StepF (AV × AHeap × Nat)) (call : YldF → CallF) (Y : YldF) (lf : Nat) (n0 : Nat) (x0 : ByteArray) (x6a : Option (Nat × Nat)) (x6n : Nat) (x6c : Option Nat) (x7 : Int) (x8 : Int) (h : AHeap) (nx : Nat) : Option (AV × AHeap × Nat) :=
  goK W J drawK (machOf Try.prog) call Y (keepT 28) lf c28 [1, 0, 1, 0, 9] [n0] (retK (machOf Try.prog) ⟨c28, 35, r28, keepT 28⟩) ⟨35, mkL [(0, (.str x0)), (6, (.slice x6a x6n x6c)), (7, (.int .i64 x7)), (8, (.int .i64 x8))]⟩ h nx

noncomputable def F28_L1 (call : YldF → CallF) (Y : YldF) (lf : Nat) (n0 : Nat) (x0 : ByteArray) (x6a : Option (Nat × Nat)) (x6n : Nat) (x6c : Option Nat) (x7 : Int) (x8 : Int) (h : AHeap) (nx : Nat) : Option (AV × AHeap × Nat) := F28_L1' go1 go1 call Y lf n0 x0 x6a x6n x6c x7 x8 h nx

theorem F28_L1_eq' (J : StepF (AV × AHeap × Nat) → StepF (AV × AHeap × Nat)) (call : YldF → CallF) (Y : YldF) (lf : Nat) (n0 : Nat) (x0 : ByteArray) (x6a : Option (Nat × Nat)) (x6n : Nat) (x6c : Option Nat) (x7 : Int) (x8 : Int) (h : AHeap) (nx : Nat) : F28_L1' go1 J call Y lf (n0 + 1) x0 x6a x6n x6c x7 x8 h nx =
    if (decide ((x8 : Int) < x7)) = true then
    ((x6a).bind fun p1 =>
    if 0 ≤ (x8 : Int) ∧ x8 < ((x6n : Nat) : Int) then
    ((ldA h p1.1 (p1.2 + Int.toNat x8 * 1)).bind fun v2 =>
    (asI .u8 v2).bind fun n3 =>
    if (decide ((n3 : Int) < 97)) = true then
    (if (decide ((n3 : Int) < 48)) = true then
    (some ((.bool false), h, (nx + 19)))
    else
    (if (decide ((n3 : Int) > 57)) = true then
    (some ((.bool false), h, (nx + 19)))
    else
    (F28_L1' J J call Y lf n0 x0 x6a x6n x6c x7 (wrapA .i64 (x8 + 1)) h (nx + 20))))
    else
    (if (decide ((n3 : Int) > 122)) = true then
    (if (decide ((n3 : Int) < 48)) = true then
    (some ((.bool false), h, (nx + 19)))
    else
    (if (decide ((n3 : Int) > 57)) = true then
    (some ((.bool false), h, (nx + 19)))
    else
    (F28_L1' J J call Y lf n0 x0 x6a x6n x6c x7 (wrapA .i64 (x8 + 1)) h (nx + 20))))
    else
    (F28_L1' J J call Y lf n0 x0 x6a x6n x6c x7 (wrapA .i64 (x8 + 1)) h (nx + 20))))
    else none)
    else
    (if (decide ((((ByteArray.size x0 : Nat) : Int) : Int) ≥ 1)) = true then
    (some ((.bool (decide ((((ByteArray.size x0 : Nat) : Int) : Int) ≤ 8))), h, (nx + 10)))
    else
    (some ((.bool false), h, (nx + 10)))) := by kernel_rfl

theorem F28_L1_eq (call : YldF → CallF) (Y : YldF) (lf : Nat) (n0 : Nat) (x0 : ByteArray) (x6a : Option (Nat × Nat)) (x6n : Nat) (x6c : Option Nat) (x7 : Int) (x8 : Int) (h : AHeap) (nx : Nat) : F28_L1 call Y lf (n0 + 1) x0 x6a x6n x6c x7 x8 h nx =
    if (decide ((x8 : Int) < x7)) = true then
    ((x6a).bind fun p1 =>
    if 0 ≤ (x8 : Int) ∧ x8 < ((x6n : Nat) : Int) then
    ((ldA h p1.1 (p1.2 + Int.toNat x8 * 1)).bind fun v2 =>
    (asI .u8 v2).bind fun n3 =>
    if (decide ((n3 : Int) < 97)) = true then
    (if (decide ((n3 : Int) < 48)) = true then
    (some ((.bool false), h, (nx + 19)))
    else
    (if (decide ((n3 : Int) > 57)) = true then
    (some ((.bool false), h, (nx + 19)))
    else
    (F28_L1 call Y lf n0 x0 x6a x6n x6c x7 (wrapA .i64 (x8 + 1)) h (nx + 20))))
    else
    (if (decide ((n3 : Int) > 122)) = true then
    (if (decide ((n3 : Int) < 48)) = true then
    (some ((.bool false), h, (nx + 19)))
    else
    (if (decide ((n3 : Int) > 57)) = true then
    (some ((.bool false), h, (nx + 19)))
    else
    (F28_L1 call Y lf n0 x0 x6a x6n x6c x7 (wrapA .i64 (x8 + 1)) h (nx + 20))))
    else
    (F28_L1 call Y lf n0 x0 x6a x6n x6c x7 (wrapA .i64 (x8 + 1)) h (nx + 20))))
    else none)
    else
    (if (decide ((((ByteArray.size x0 : Nat) : Int) : Int) ≥ 1)) = true then
    (some ((.bool (decide ((((ByteArray.size x0 : Nat) : Int) : Int) ≤ 8))), h, (nx + 10)))
    else
    (some ((.bool false), h, (nx + 10)))) := F28_L1_eq' go1 call Y lf n0 x0 x6a x6n x6c x7 x8 h nx

theorem F28_L1_zero (call : YldF → CallF) (Y : YldF) (lf : Nat) (x0 : ByteArray) (x6a : Option (Nat × Nat)) (x6n : Nat) (x6c : Option Nat) (x7 : Int) (x8 : Int) (h : AHeap) (nx : Nat) : F28_L1 call Y lf 0 x0 x6a x6n x6c x7 x8 h nx = none := by kernel_rfl

theorem F28_eq' (J : StepF (AV × AHeap × Nat) → StepF (AV × AHeap × Nat)) (n : Nat) (Y : YldF) (x0 : ByteArray) (h : AHeap) (nx : Nat) : rootJ J Try.prog keepT (callP Try.prog keepT n) Y n 28 [(.str x0)] h nx =
    let h1 := AHeap.put h (nx + 2) (some ⟨(bytesA x0), 1, true⟩)
    F28_L1' J J (callP Try.prog keepT n) Y n n x0 (some ((nx + 2), 0)) (ByteArray.size x0) none (((ByteArray.size x0) : Nat) : Int) 0 h1 (nx + 5) := by kernel_rfl

/-- quickset/pool.Name -/
theorem F28_eq (n : Nat) (Y : YldF) (x0 : ByteArray) (h : AHeap) (nx : Nat) : callP Try.prog keepT (n + 1) Y 28 [(.str x0)] h nx =
    let h1 := AHeap.put h (nx + 2) (some ⟨(bytesA x0), 1, true⟩)
    F28_L1 (callP Try.prog keepT n) Y n n x0 (some ((nx + 2), 0)) (ByteArray.size x0) none (((ByteArray.size x0) : Nat) : Int) 0 h1 (nx + 5) := F28_eq' go1 n Y x0 h nx

noncomputable def c32 : Code := (Try.f32.body).getD .skip

noncomputable def r32 : List ResultVar := Try.f32.results.toList

theorem F32_eq' (J : StepF (AV × AHeap × Nat) → StepF (AV × AHeap × Nat)) (n : Nat) (Y : YldF) (x0 : Option Nat) (x1 : ByteArray) (x2 : Int) (h : AHeap) (nx : Nat) : rootJ J Try.prog keepT (callP Try.prog keepT n) Y n 32 [(.mapv x0), (.str x1), (.int .i64 x2)] h nx =
    (mapO h x0).bind fun es1 =>
    (findE x1 es1 0).bind fun o2 =>
    (asMp (valE (.mapv none) o2)).bind fun m3 =>
    ((callP Try.prog keepT n) Y 28 [(.str x1)] h (nx + 13)).bind fun r4 =>
    (asB r4.1).bind fun t5 =>
    if (!t5) = true then
    (some ((.int .i64 4), r4.2.1, (r4.2.2 + 1)))
    else
    (if (hasE o2) = true then
    (some ((.int .i64 7), r4.2.1, (r4.2.2 + 3)))
    else
    ((mapO r4.2.1 x0).bind fun es6 =>
    if ((((es6.length : Nat) : Int) : Int) == x2) = true then
    (some ((.int .i64 8), r4.2.1, (r4.2.2 + 8)))
    else
    (some ((.int .i64 0), r4.2.1, (r4.2.2 + 8))))) := by kernel_rfl

/-- quickset/pool.room[quickset/pool.Objects[quickset/pool.flat]] -/
theorem F32_eq (n : Nat) (Y : YldF) (x0 : Option Nat) (x1 : ByteArray) (x2 : Int) (h : AHeap) (nx : Nat) : callP Try.prog keepT (n + 1) Y 32 [(.mapv x0), (.str x1), (.int .i64 x2)] h nx =
    (mapO h x0).bind fun es1 =>
    (findE x1 es1 0).bind fun o2 =>
    (asMp (valE (.mapv none) o2)).bind fun m3 =>
    ((callP Try.prog keepT n) Y 28 [(.str x1)] h (nx + 13)).bind fun r4 =>
    (asB r4.1).bind fun t5 =>
    if (!t5) = true then
    (some ((.int .i64 4), r4.2.1, (r4.2.2 + 1)))
    else
    (if (hasE o2) = true then
    (some ((.int .i64 7), r4.2.1, (r4.2.2 + 3)))
    else
    ((mapO r4.2.1 x0).bind fun es6 =>
    if ((((es6.length : Nat) : Int) : Int) == x2) = true then
    (some ((.int .i64 8), r4.2.1, (r4.2.2 + 8)))
    else
    (some ((.int .i64 0), r4.2.1, (r4.2.2 + 8))))) := F32_eq' go1 n Y x0 x1 x2 h nx

/-- maps.Clone[quickset/pool.Objects[quickset/pool.flat],string,quickset/pool.flat], by its contract -/
theorem F33_eq (n : Nat) (Y : YldF) (args : List AV) (h : AHeap) (nx : Nat) : callP Try.prog keepT (n + 1) Y 33 args h nx = orcK [4] args h nx := by kernel_rfl

noncomputable def c34 : Code := (Try.f34.body).getD .skip

noncomputable def r34 : List ResultVar := Try.f34.results.toList

noncomputable def F34_J1' (W J : StepF (AV × AHeap × Nat) → StepF (AV × AHeap × Nat)) (call : YldF → CallF) (Y : YldF) (lf : Nat) (x0a : Option (Nat × Nat)) (x0n : Nat) (x0c : Option Nat) (x3 : Option (Nat × Nat)) (x4 : Option (Nat × Nat)) (h : AHeap) (nx : Nat) : Option (AV × AHeap × Nat) :=
  goK W J drawK (machOf Try.prog) call Y (keepT 34) lf c34 [1, 1] [] (retK (machOf Try.prog) ⟨c34, 35, r34, keepT 34⟩) ⟨35, mkL [(0, (.slice x0a x0n x0c)), (3, (.ptr x3)), (4, (.ptr x4))]⟩ h nx

noncomputable def F34_J1 (call : YldF → CallF) (Y : YldF) (lf : Nat) (x0a : Option (Nat × Nat)) (x0n : Nat) (x0c : Option Nat) (x3 : Option (Nat × Nat)) (x4 : Option (Nat × Nat)) (h : AHeap) (nx : Nat) : Option (AV × AHeap × Nat) := F34_J1' go1 go1 call Y lf x0a x0n x0c x3 x4 h nx

theorem F34_J1_eq' (J : StepF (AV × AHeap × Nat) → StepF (AV × AHeap × Nat)) (call : YldF → CallF) (Y : YldF) (lf : Nat) (x0a : Option (Nat × Nat)) (x0n : Nat) (x0c : Option Nat) (x3 : Option (Nat × Nat)) (x4 : Option (Nat × Nat)) (h : AHeap) (nx : Nat) : F34_J1' go1 J call Y lf x0a x0n x0c x3 x4 h nx =
    (x3).bind fun p1 =>
    (ldA h p1.1 (p1.2 + 3)).bind fun v2 =>
    (asI .i64 v2).bind fun n3 =>
    (x3).bind fun p4 =>
    (ldA h p4.1 (p4.2 + 4)).bind fun v5 =>
    (asI .i64 v5).bind fun n6 =>
    (call Y 77 [(.slice x0a x0n x0c), (.int .i64 n3), (.int .i64 n6)] h (nx + 12)).bind fun r7 =>
    (asTup 2 r7.1).bind fun d8 =>
    (asSl (d8.getD 0 .bad)).bind fun s9 =>
    (asI .i64 (d8.getD 1 .bad)).bind fun n10 =>
    if ((n10 : Int) != 0) = true then
    ((call Y 23 [(.int .i64 n10)] r7.2.1 (r7.2.2 + 5)).bind fun r11 =>
    (asAgg 5 r11.1).bind fun d12 =>
    (asI .i64 (d12.getD 0 .bad)).bind fun n13 =>
    (asB (d12.getD 1 .bad)).bind fun t14 =>
    (asI .i64 (d12.getD 2 .bad)).bind fun n15 =>
    (asSl (d12.getD 3 .bad)).bind fun s16 =>
    (asSl (d12.getD 4 .bad)).bind fun s17 =>
    (x4).bind fun p18 =>
    (stA r11.2.1 p18.1 p18.2 (.agg [(.int .i64 n13), (.bool t14), (.int .i64 n15), (.slice s16.1 s16.2.1 s16.2.2), (.slice s17.1 s17.2.1 s17.2.2)]) 5).bind fun b19 =>
    let h20 := AHeap.put r11.2.1 p18.1 (some b19)
    (x4).bind fun p21 =>
    (ldR h20 p21.1 p21.2 5).bind fun l22 =>
    (asAgg 5 (AV.agg l22)).bind fun d23 =>
    (asI .i64 (d23.getD 0 .bad)).bind fun n24 =>
    (asB (d23.getD 1 .bad)).bind fun t25 =>
    (asI .i64 (d23.getD 2 .bad)).bind fun n26 =>
    (asSl (d23.getD 3 .bad)).bind fun s27 =>
    (asSl (d23.getD 4 .bad)).bind fun s28 =>
    some ((.agg [(.int .i64 n24), (.bool t25), (.int .i64 n26), (.slice s27.1 s27.2.1 s27.2.2), (.slice s28.1 s28.2.1 s28.2.2)]), h20, r11.2.2))
    else
    ((call Y 79 [(.slice x0a x0n x0c)] r7.2.1 (r7.2.2 + 8)).bind fun r29 =>
    (asI .i64 r29.1).bind fun n30 =>
    (x4).bind fun p31 =>
    (stA r29.2.1 p31.1 p31.2 (.agg [(.int .i64 0), (.bool false), (.int .i64 n30), (.slice s9.1 s9.2.1 s9.2.2), (.slice none 0 none)]) 5).bind fun b32 =>
    let h33 := AHeap.put r29.2.1 p31.1 (some b32)
    (x4).bind fun p34 =>
    (ldR h33 p34.1 p34.2 5).bind fun l35 =>
    (asAgg 5 (AV.agg l35)).bind fun d36 =>
    (asI .i64 (d36.getD 0 .bad)).bind fun n37 =>
    (asB (d36.getD 1 .bad)).bind fun t38 =>
    (asI .i64 (d36.getD 2 .bad)).bind fun n39 =>
    (asSl (d36.getD 3 .bad)).bind fun s40 =>
    (asSl (d36.getD 4 .bad)).bind fun s41 =>
    some ((.agg [(.int .i64 n37), (.bool t38), (.int .i64 n39), (.slice s40.1 s40.2.1 s40.2.2), (.slice s41.1 s41.2.1 s41.2.2)]), h33, r29.2.2)) := by kernel_rfl

theorem F34_J1_eq (call : YldF → CallF) (Y : YldF) (lf : Nat) (x0a : Option (Nat × Nat)) (x0n : Nat) (x0c : Option Nat) (x3 : Option (Nat × Nat)) (x4 : Option (Nat × Nat)) (h : AHeap) (nx : Nat) : F34_J1 call Y lf x0a x0n x0c x3 x4 h nx =
    (x3).bind fun p1 =>
    (ldA h p1.1 (p1.2 + 3)).bind fun v2 =>
    (asI .i64 v2).bind fun n3 =>
    (x3).bind fun p4 =>
    (ldA h p4.1 (p4.2 + 4)).bind fun v5 =>
    (asI .i64 v5).bind fun n6 =>
    (call Y 77 [(.slice x0a x0n x0c), (.int .i64 n3), (.int .i64 n6)] h (nx + 12)).bind fun r7 =>
    (asTup 2 r7.1).bind fun d8 =>
    (asSl (d8.getD 0 .bad)).bind fun s9 =>
    (asI .i64 (d8.getD 1 .bad)).bind fun n10 =>
    if ((n10 : Int) != 0) = true then
    ((call Y 23 [(.int .i64 n10)] r7.2.1 (r7.2.2 + 5)).bind fun r11 =>
    (asAgg 5 r11.1).bind fun d12 =>
    (asI .i64 (d12.getD 0 .bad)).bind fun n13 =>
    (asB (d12.getD 1 .bad)).bind fun t14 =>
    (asI .i64 (d12.getD 2 .bad)).bind fun n15 =>
    (asSl (d12.getD 3 .bad)).bind fun s16 =>
    (asSl (d12.getD 4 .bad)).bind fun s17 =>
    (x4).bind fun p18 =>
    (stA r11.2.1 p18.1 p18.2 (.agg [(.int .i64 n13), (.bool t14), (.int .i64 n15), (.slice s16.1 s16.2.1 s16.2.2), (.slice s17.1 s17.2.1 s17.2.2)]) 5).bind fun b19 =>
    let h20 := AHeap.put r11.2.1 p18.1 (some b19)
    (x4).bind fun p21 =>
    (ldR h20 p21.1 p21.2 5).bind fun l22 =>
    (asAgg 5 (AV.agg l22)).bind fun d23 =>
    (asI .i64 (d23.getD 0 .bad)).bind fun n24 =>
    (asB (d23.getD 1 .bad)).bind fun t25 =>
    (asI .i64 (d23.getD 2 .bad)).bind fun n26 =>
    (asSl (d23.getD 3 .bad)).bind fun s27 =>
    (asSl (d23.getD 4 .bad)).bind fun s28 =>
    some ((.agg [(.int .i64 n24), (.bool t25), (.int .i64 n26), (.slice s27.1 s27.2.1 s27.2.2), (.slice s28.1 s28.2.1 s28.2.2)]), h20, r11.2.2))
    else
    ((call Y 79 [(.slice x0a x0n x0c)] r7.2.1 (r7.2.2 + 8)).bind fun r29 =>
    (asI .i64 r29.1).bind fun n30 =>
    (x4).bind fun p31 =>
    (stA r29.2.1 p31.1 p31.2 (.agg [(.int .i64 0), (.bool false), (.int .i64 n30), (.slice s9.1 s9.2.1 s9.2.2), (.slice none 0 none)]) 5).bind fun b32 =>
    let h33 := AHeap.put r29.2.1 p31.1 (some b32)
    (x4).bind fun p34 =>
    (ldR h33 p34.1 p34.2 5).bind fun l35 =>
    (asAgg 5 (AV.agg l35)).bind fun d36 =>
    (asI .i64 (d36.getD 0 .bad)).bind fun n37 =>
    (asB (d36.getD 1 .bad)).bind fun t38 =>
    (asI .i64 (d36.getD 2 .bad)).bind fun n39 =>
    (asSl (d36.getD 3 .bad)).bind fun s40 =>
    (asSl (d36.getD 4 .bad)).bind fun s41 =>
    some ((.agg [(.int .i64 n37), (.bool t38), (.int .i64 n39), (.slice s40.1 s40.2.1 s40.2.2), (.slice s41.1 s41.2.1 s41.2.2)]), h33, r29.2.2)) := F34_J1_eq' go1 call Y lf x0a x0n x0c x3 x4 h nx

theorem F34_eq' (J : StepF (AV × AHeap × Nat) → StepF (AV × AHeap × Nat)) (n : Nat) (Y : YldF) (x0a : Option (Nat × Nat)) (x0n : Nat) (x0c : Option Nat) (x1_0 : Int) (x1_1 : ByteArray) (x1_2 : ByteArray) (x1_3 : Int) (x1_4 : Int) (x1_5 : Int) (x1_6 : Int) (x1_7a : Option (Nat × Nat)) (x1_7n : Nat) (x1_7c : Option Nat) (h : AHeap) (nx : Nat) : rootJ J Try.prog keepT (callP Try.prog keepT n) Y n 34 [(.slice x0a x0n x0c), (.agg [(.int .i64 x1_0), (.str x1_1), (.str x1_2), (.int .i64 x1_3), (.int .i64 x1_4), (.int .i64 x1_5), (.int .i64 x1_6), (.slice x1_7a x1_7n x1_7c)])] h nx =
    let h1 := AHeap.put h nx (some ⟨[(.int .i64 x1_0), (.str x1_1), (.str x1_2), (.int .i64 x1_3), (.int .i64 x1_4), (.int .i64 x1_5), (.int .i64 x1_6), (.slice x1_7a x1_7n x1_7c)], 8, true⟩)
    let h2 := AHeap.put h1 (nx + 1) (some ⟨[(.int .i64 0), (.bool false), (.int .i64 0), (.slice none 0 none), (.slice none 0 none)], 5, true⟩)
    (ldA h2 nx 3).bind fun v3 =>
    (asI .i64 v3).bind fun n4 =>
    if (decide ((n4 : Int) < 0)) = true then
    (((callP Try.prog keepT n) Y 23 [(.int .i64 2)] h2 (nx + 12)).bind fun r5 =>
    (asAgg 5 r5.1).bind fun d6 =>
    (asI .i64 (d6.getD 0 .bad)).bind fun n7 =>
    (asB (d6.getD 1 .bad)).bind fun t8 =>
    (asI .i64 (d6.getD 2 .bad)).bind fun n9 =>
    (asSl (d6.getD 3 .bad)).bind fun s10 =>
    (asSl (d6.getD 4 .bad)).bind fun s11 =>
    (stA r5.2.1 (nx + 1) 0 (.agg [(.int .i64 n7), (.bool t8), (.int .i64 n9), (.slice s10.1 s10.2.1 s10.2.2), (.slice s11.1 s11.2.1 s11.2.2)]) 5).bind fun b12 =>
    let h13 := AHeap.put r5.2.1 (nx + 1) (some b12)
    (ldR h13 (nx + 1) 0 5).bind fun l14 =>
    (asAgg 5 (AV.agg l14)).bind fun d15 =>
    (asI .i64 (d15.getD 0 .bad)).bind fun n16 =>
    (asB (d15.getD 1 .bad)).bind fun t17 =>
    (asI .i64 (d15.getD 2 .bad)).bind fun n18 =>
    (asSl (d15.getD 3 .bad)).bind fun s19 =>
    (asSl (d15.getD 4 .bad)).bind fun s20 =>
    some ((.agg [(.int .i64 n16), (.bool t17), (.int .i64 n18), (.slice s19.1 s19.2.1 s19.2.2), (.slice s20.1 s20.2.1 s20.2.2)]), h13, r5.2.2))
    else
    ((ldA h2 nx 4).bind fun v21 =>
    (asI .i64 v21).bind fun n22 =>
    if (decide ((n22 : Int) < 0)) = true then
    (((callP Try.prog keepT n) Y 23 [(.int .i64 2)] h2 (nx + 12)).bind fun r23 =>
    (asAgg 5 r23.1).bind fun d24 =>
    (asI .i64 (d24.getD 0 .bad)).bind fun n25 =>
    (asB (d24.getD 1 .bad)).bind fun t26 =>
    (asI .i64 (d24.getD 2 .bad)).bind fun n27 =>
    (asSl (d24.getD 3 .bad)).bind fun s28 =>
    (asSl (d24.getD 4 .bad)).bind fun s29 =>
    (stA r23.2.1 (nx + 1) 0 (.agg [(.int .i64 n25), (.bool t26), (.int .i64 n27), (.slice s28.1 s28.2.1 s28.2.2), (.slice s29.1 s29.2.1 s29.2.2)]) 5).bind fun b30 =>
    let h31 := AHeap.put r23.2.1 (nx + 1) (some b30)
    (ldR h31 (nx + 1) 0 5).bind fun l32 =>
    (asAgg 5 (AV.agg l32)).bind fun d33 =>
    (asI .i64 (d33.getD 0 .bad)).bind fun n34 =>
    (asB (d33.getD 1 .bad)).bind fun t35 =>
    (asI .i64 (d33.getD 2 .bad)).bind fun n36 =>
    (asSl (d33.getD 3 .bad)).bind fun s37 =>
    (asSl (d33.getD 4 .bad)).bind fun s38 =>
    some ((.agg [(.int .i64 n34), (.bool t35), (.int .i64 n36), (.slice s37.1 s37.2.1 s37.2.2), (.slice s38.1 s38.2.1 s38.2.2)]), h31, r23.2.2))
    else
    (F34_J1' J J (callP Try.prog keepT n) Y n x0a x0n x0c (some (nx, 0)) (some ((nx + 1), 0)) h2 (nx + 10))) := by kernel_rfl

/-- quickset/pool.fetch[quickset/pool.flat] -/
theorem F34_eq (n : Nat) (Y : YldF) (x0a : Option (Nat × Nat)) (x0n : Nat) (x0c : Option Nat) (x1_0 : Int) (x1_1 : ByteArray) (x1_2 : ByteArray) (x1_3 : Int) (x1_4 : Int) (x1_5 : Int) (x1_6 : Int) (x1_7a : Option (Nat × Nat)) (x1_7n : Nat) (x1_7c : Option Nat) (h : AHeap) (nx : Nat) : callP Try.prog keepT (n + 1) Y 34 [(.slice x0a x0n x0c), (.agg [(.int .i64 x1_0), (.str x1_1), (.str x1_2), (.int .i64 x1_3), (.int .i64 x1_4), (.int .i64 x1_5), (.int .i64 x1_6), (.slice x1_7a x1_7n x1_7c)])] h nx =
    let h1 := AHeap.put h nx (some ⟨[(.int .i64 x1_0), (.str x1_1), (.str x1_2), (.int .i64 x1_3), (.int .i64 x1_4), (.int .i64 x1_5), (.int .i64 x1_6), (.slice x1_7a x1_7n x1_7c)], 8, true⟩)
    let h2 := AHeap.put h1 (nx + 1) (some ⟨[(.int .i64 0), (.bool false), (.int .i64 0), (.slice none 0 none), (.slice none 0 none)], 5, true⟩)
    (ldA h2 nx 3).bind fun v3 =>
    (asI .i64 v3).bind fun n4 =>
    if (decide ((n4 : Int) < 0)) = true then
    (((callP Try.prog keepT n) Y 23 [(.int .i64 2)] h2 (nx + 12)).bind fun r5 =>
    (asAgg 5 r5.1).bind fun d6 =>
    (asI .i64 (d6.getD 0 .bad)).bind fun n7 =>
    (asB (d6.getD 1 .bad)).bind fun t8 =>
    (asI .i64 (d6.getD 2 .bad)).bind fun n9 =>
    (asSl (d6.getD 3 .bad)).bind fun s10 =>
    (asSl (d6.getD 4 .bad)).bind fun s11 =>
    (stA r5.2.1 (nx + 1) 0 (.agg [(.int .i64 n7), (.bool t8), (.int .i64 n9), (.slice s10.1 s10.2.1 s10.2.2), (.slice s11.1 s11.2.1 s11.2.2)]) 5).bind fun b12 =>
    let h13 := AHeap.put r5.2.1 (nx + 1) (some b12)
    (ldR h13 (nx + 1) 0 5).bind fun l14 =>
    (asAgg 5 (AV.agg l14)).bind fun d15 =>
    (asI .i64 (d15.getD 0 .bad)).bind fun n16 =>
    (asB (d15.getD 1 .bad)).bind fun t17 =>
    (asI .i64 (d15.getD 2 .bad)).bind fun n18 =>
    (asSl (d15.getD 3 .bad)).bind fun s19 =>
    (asSl (d15.getD 4 .bad)).bind fun s20 =>
    some ((.agg [(.int .i64 n16), (.bool t17), (.int .i64 n18), (.slice s19.1 s19.2.1 s19.2.2), (.slice s20.1 s20.2.1 s20.2.2)]), h13, r5.2.2))
    else
    ((ldA h2 nx 4).bind fun v21 =>
    (asI .i64 v21).bind fun n22 =>
    if (decide ((n22 : Int) < 0)) = true then
    (((callP Try.prog keepT n) Y 23 [(.int .i64 2)] h2 (nx + 12)).bind fun r23 =>
    (asAgg 5 r23.1).bind fun d24 =>
    (asI .i64 (d24.getD 0 .bad)).bind fun n25 =>
    (asB (d24.getD 1 .bad)).bind fun t26 =>
    (asI .i64 (d24.getD 2 .bad)).bind fun n27 =>
    (asSl (d24.getD 3 .bad)).bind fun s28 =>
    (asSl (d24.getD 4 .bad)).bind fun s29 =>
    (stA r23.2.1 (nx + 1) 0 (.agg [(.int .i64 n25), (.bool t26), (.int .i64 n27), (.slice s28.1 s28.2.1 s28.2.2), (.slice s29.1 s29.2.1 s29.2.2)]) 5).bind fun b30 =>
    let h31 := AHeap.put r23.2.1 (nx + 1) (some b30)
    (ldR h31 (nx + 1) 0 5).bind fun l32 =>
    (asAgg 5 (AV.agg l32)).bind fun d33 =>
    (asI .i64 (d33.getD 0 .bad)).bind fun n34 =>
    (asB (d33.getD 1 .bad)).bind fun t35 =>
    (asI .i64 (d33.getD 2 .bad)).bind fun n36 =>
    (asSl (d33.getD 3 .bad)).bind fun s37 =>
    (asSl (d33.getD 4 .bad)).bind fun s38 =>
    some ((.agg [(.int .i64 n34), (.bool t35), (.int .i64 n36), (.slice s37.1 s37.2.1 s37.2.2), (.slice s38.1 s38.2.1 s38.2.2)]), h31, r23.2.2))
    else
    (F34_J1 (callP Try.prog keepT n) Y n x0a x0n x0c (some (nx, 0)) (some ((nx + 1), 0)) h2 (nx + 10))) := F34_eq' go1 n Y x0a x0n x0c x1_0 x1_1 x1_2 x1_3 x1_4 x1_5 x1_6 x1_7a x1_7n x1_7c h nx

noncomputable def c78 : Code := (Try.f78.body).getD .skip

noncomputable def r78 : List ResultVar := Try.f78.results.toList

theorem F78_eq' (J : StepF (AV × AHeap × Nat) → StepF (AV × AHeap × Nat)) (n : Nat) (Y : YldF) (x0a : Option (Nat × Nat)) (x0n : Nat) (x0c : Option Nat) (x1 : Int) (h : AHeap) (nx : Nat) : rootJ J Try.prog keepT (callP Try.prog keepT n) Y n 78 [(.slice x0a x0n x0c), (.int .i64 x1)] h nx =
    if (decide (0 ≤ (x1 : Int)) && decide ((x1 : Int) ≤ x1) && decide (((1 : Nat) : Int) * x1 ≤ 281474976710656) && decide ((x1 : Int) ≤ 9223372036854775807) && 1 != 0) = true then
    (let h1 := AHeap.put h (nx + 3) (some ⟨(madeA [(.int .u8 0)] (Int.toNat x1 * 1)), 1, true⟩)
    (copD h1 (some ((nx + 3), 0)) (Int.toNat x1) x0a x0n 1).bind fun q2 =>
    let h3 := AHeap.puts h1 q2.2.1
    some ((.tuple [(.slice (some ((nx + 3), 0)) (Int.toNat x1) (some (Int.toNat x1))), (.int .i64 0)]), h3, (nx + 11)))
    else none := by kernel_rfl

/-- (quickset/pool.flat).Resize -/
theorem F78_eq (n : Nat) (Y : YldF) (x0a : Option (Nat × Nat)) (x0n : Nat) (x0c : Option Nat) (x1 : Int) (h : AHeap) (nx : Nat) : callP Try.prog keepT (n + 1) Y 78 [(.slice x0a x0n x0c), (.int .i64 x1)] h nx =
    if (decide (0 ≤ (x1 : Int)) && decide ((x1 : Int) ≤ x1) && decide (((1 : Nat) : Int) * x1 ≤ 281474976710656) && decide ((x1 : Int) ≤ 9223372036854775807) && 1 != 0) = true then
    (let h1 := AHeap.put h (nx + 3) (some ⟨(madeA [(.int .u8 0)] (Int.toNat x1 * 1)), 1, true⟩)
    (copD h1 (some ((nx + 3), 0)) (Int.toNat x1) x0a x0n 1).bind fun q2 =>
    let h3 := AHeap.puts h1 q2.2.1
    some ((.tuple [(.slice (some ((nx + 3), 0)) (Int.toNat x1) (some (Int.toNat x1))), (.int .i64 0)]), h3, (nx + 11)))
    else none := F78_eq' go1 n Y x0a x0n x0c x1 h nx

noncomputable def c79 : Code := (Try.f79.body).getD .skip

noncomputable def r79 : List ResultVar := Try.f79.results.toList

theorem F79_eq' (J : StepF (AV × AHeap × Nat) → StepF (AV × AHeap × Nat)) (n : Nat) (Y : YldF) (x0a : Option (Nat × Nat)) (x0n : Nat) (x0c : Option Nat) (h : AHeap) (nx : Nat) : rootJ J Try.prog keepT (callP Try.prog keepT n) Y n 79 [(.slice x0a x0n x0c)] h nx =
    some ((.int .i64 ((x0n : Nat) : Int)), h, (nx + 4)) := by kernel_rfl

/-- (quickset/pool.flat).Size -/
theorem F79_eq (n : Nat) (Y : YldF) (x0a : Option (Nat × Nat)) (x0n : Nat) (x0c : Option Nat) (h : AHeap) (nx : Nat) : callP Try.prog keepT (n + 1) Y 79 [(.slice x0a x0n x0c)] h nx =
    some ((.int .i64 ((x0n : Nat) : Int)), h, (nx + 4)) := F79_eq' go1 n Y x0a x0n x0c h nx

noncomputable def c80 : Code := (Try.f80.body).getD .skip

noncomputable def r80 : List ResultVar := Try.f80.results.toList

theorem F80_eq' (J : StepF (AV × AHeap × Nat) → StepF (AV × AHeap × Nat)) (n : Nat) (Y : YldF) (x0a : Option (Nat × Nat)) (x0n : Nat) (x0c : Option Nat) (x1 : Int) (x2a : Option (Nat × Nat)) (x2n : Nat) (x2c : Option Nat) (h : AHeap) (nx : Nat) : rootJ J Try.prog keepT (callP Try.prog keepT n) Y n 80 [(.slice x0a x0n x0c), (.int .i64 x1), (.slice x2a x2n x2c)] h nx =
    if (decide (0 ≤ ((if (wrapA .i64 (x1 + ((x2n : Nat) : Int))) > ((x0n : Nat) : Int) then (wrapA .i64 (x1 + ((x2n : Nat) : Int))) else ((x0n : Nat) : Int)) : Int)) && decide (((if (wrapA .i64 (x1 + ((x2n : Nat) : Int))) > ((x0n : Nat) : Int) then (wrapA .i64 (x1 + ((x2n : Nat) : Int))) else ((x0n : Nat) : Int)) : Int) ≤ (if (wrapA .i64 (x1 + ((x2n : Nat) : Int))) > ((x0n : Nat) : Int) then (wrapA .i64 (x1 + ((x2n : Nat) : Int))) else ((x0n : Nat) : Int))) && decide (((1 : Nat) : Int) * (if (wrapA .i64 (x1 + ((x2n : Nat) : Int))) > ((x0n : Nat) : Int) then (wrapA .i64 (x1 + ((x2n : Nat) : Int))) else ((x0n : Nat) : Int)) ≤ 281474976710656) && decide (((if (wrapA .i64 (x1 + ((x2n : Nat) : Int))) > ((x0n : Nat) : Int) then (wrapA .i64 (x1 + ((x2n : Nat) : Int))) else ((x0n : Nat) : Int)) : Int) ≤ 9223372036854775807) && 1 != 0) = true then
    (let h1 := AHeap.put h (nx + 9) (some ⟨(madeA [(.int .u8 0)] (Int.toNat (if (wrapA .i64 (x1 + ((x2n : Nat) : Int))) > ((x0n : Nat) : Int) then (wrapA .i64 (x1 + ((x2n : Nat) : Int))) else ((x0n : Nat) : Int)) * 1)), 1, true⟩)
    (copD h1 (some ((nx + 9), 0)) (Int.toNat (if (wrapA .i64 (x1 + ((x2n : Nat) : Int))) > ((x0n : Nat) : Int) then (wrapA .i64 (x1 + ((x2n : Nat) : Int))) else ((x0n : Nat) : Int))) x0a x0n 1).bind fun q2 =>
    let h3 := AHeap.puts h1 q2.2.1
    (cutA h3 (some ((nx + 9), 0)) (Int.toNat (if (wrapA .i64 (x1 + ((x2n : Nat) : Int))) > ((x0n : Nat) : Int) then (wrapA .i64 (x1 + ((x2n : Nat) : Int))) else ((x0n : Nat) : Int))) (some (Int.toNat (if (wrapA .i64 (x1 + ((x2n : Nat) : Int))) > ((x0n : Nat) : Int) then (wrapA .i64 (x1 + ((x2n : Nat) : Int))) else ((x0n : Nat) : Int)))) 1 (some (.int .i64 x1)) none none).bind fun s4 =>
    (copD h3 s4.1 s4.2.1 x2a x2n 1).bind fun q5 =>
    let h6 := AHeap.puts h3 q5.2.1
    some ((.tuple [(.slice (some ((nx + 9), 0)) (Int.toNat (if (wrapA .i64 (x1 + ((x2n : Nat) : Int))) > ((x0n : Nat) : Int) then (wrapA .i64 (x1 + ((x2n : Nat) : Int))) else ((x0n : Nat) : Int))) (some (Int.toNat (if (wrapA .i64 (x1 + ((x2n : Nat) : Int))) > ((x0n : Nat) : Int) then (wrapA .i64 (x1 + ((x2n : Nat) : Int))) else ((x0n : Nat) : Int))))), (.int .i64 0)]), h6, (nx + 22)))
    else none := by kernel_rfl

/-- (quickset/pool.flat).Write -/
theorem F80_eq (n : Nat) (Y : YldF) (x0a : Option (Nat × Nat)) (x0n : Nat) (x0c : Option Nat) (x1 : Int) (x2a : Option (Nat × Nat)) (x2n : Nat) (x2c : Option Nat) (h : AHeap) (nx : Nat) : callP Try.prog keepT (n + 1) Y 80 [(.slice x0a x0n x0c), (.int .i64 x1), (.slice x2a x2n x2c)] h nx =
    if (decide (0 ≤ ((if (wrapA .i64 (x1 + ((x2n : Nat) : Int))) > ((x0n : Nat) : Int) then (wrapA .i64 (x1 + ((x2n : Nat) : Int))) else ((x0n : Nat) : Int)) : Int)) && decide (((if (wrapA .i64 (x1 + ((x2n : Nat) : Int))) > ((x0n : Nat) : Int) then (wrapA .i64 (x1 + ((x2n : Nat) : Int))) else ((x0n : Nat) : Int)) : Int) ≤ (if (wrapA .i64 (x1 + ((x2n : Nat) : Int))) > ((x0n : Nat) : Int) then (wrapA .i64 (x1 + ((x2n : Nat) : Int))) else ((x0n : Nat) : Int))) && decide (((1 : Nat) : Int) * (if (wrapA .i64 (x1 + ((x2n : Nat) : Int))) > ((x0n : Nat) : Int) then (wrapA .i64 (x1 + ((x2n : Nat) : Int))) else ((x0n : Nat) : Int)) ≤ 281474976710656) && decide (((if (wrapA .i64 (x1 + ((x2n : Nat) : Int))) > ((x0n : Nat) : Int) then (wrapA .i64 (x1 + ((x2n : Nat) : Int))) else ((x0n : Nat) : Int)) : Int) ≤ 9223372036854775807) && 1 != 0) = true then
    (let h1 := AHeap.put h (nx + 9) (some ⟨(madeA [(.int .u8 0)] (Int.toNat (if (wrapA .i64 (x1 + ((x2n : Nat) : Int))) > ((x0n : Nat) : Int) then (wrapA .i64 (x1 + ((x2n : Nat) : Int))) else ((x0n : Nat) : Int)) * 1)), 1, true⟩)
    (copD h1 (some ((nx + 9), 0)) (Int.toNat (if (wrapA .i64 (x1 + ((x2n : Nat) : Int))) > ((x0n : Nat) : Int) then (wrapA .i64 (x1 + ((x2n : Nat) : Int))) else ((x0n : Nat) : Int))) x0a x0n 1).bind fun q2 =>
    let h3 := AHeap.puts h1 q2.2.1
    (cutA h3 (some ((nx + 9), 0)) (Int.toNat (if (wrapA .i64 (x1 + ((x2n : Nat) : Int))) > ((x0n : Nat) : Int) then (wrapA .i64 (x1 + ((x2n : Nat) : Int))) else ((x0n : Nat) : Int))) (some (Int.toNat (if (wrapA .i64 (x1 + ((x2n : Nat) : Int))) > ((x0n : Nat) : Int) then (wrapA .i64 (x1 + ((x2n : Nat) : Int))) else ((x0n : Nat) : Int)))) 1 (some (.int .i64 x1)) none none).bind fun s4 =>
    (copD h3 s4.1 s4.2.1 x2a x2n 1).bind fun q5 =>
    let h6 := AHeap.puts h3 q5.2.1
    some ((.tuple [(.slice (some ((nx + 9), 0)) (Int.toNat (if (wrapA .i64 (x1 + ((x2n : Nat) : Int))) > ((x0n : Nat) : Int) then (wrapA .i64 (x1 + ((x2n : Nat) : Int))) else ((x0n : Nat) : Int))) (some (Int.toNat (if (wrapA .i64 (x1 + ((x2n : Nat) : Int))) > ((x0n : Nat) : Int) then (wrapA .i64 (x1 + ((x2n : Nat) : Int))) else ((x0n : Nat) : Int))))), (.int .i64 0)]), h6, (nx + 22)))
    else none := F80_eq' go1 n Y x0a x0n x0c x1 x2a x2n x2c h nx

noncomputable def c77 : Code := (Try.f77.body).getD .skip

noncomputable def r77 : List ResultVar := Try.f77.results.toList

theorem F77_eq' (J : StepF (AV × AHeap × Nat) → StepF (AV × AHeap × Nat)) (n : Nat) (Y : YldF) (x0a : Option (Nat × Nat)) (x0n : Nat) (x0c : Option Nat) (x1 : Int) (x2 : Int) (h : AHeap) (nx : Nat) : rootJ J Try.prog keepT (callP Try.prog keepT n) Y n 77 [(.slice x0a x0n x0c), (.int .i64 x1), (.int .i64 x2)] h nx =
    if (decide ((x1 : Int) ≥ ((x0n : Nat) : Int))) = true then
    (some ((.tuple [(.slice none 0 none), (.int .i64 0)]), h, (nx + 8)))
    else
    ((cutA h x0a x0n x0c 1 (some (.int .i64 x1)) none none).bind fun s1 =>
    (cutA h s1.1 s1.2.1 s1.2.2 1 none (some (.int .i64 (if (wrapA .i64 (((x0n : Nat) : Int) - x1)) < x2 then (wrapA .i64 (((x0n : Nat) : Int) - x1)) else x2))) none).bind fun s2 =>
    ((callP Try.prog keepT n) Y 81 [(.slice s2.1 s2.2.1 s2.2.2)] h (nx + 19)).bind fun r3 =>
    (asSl r3.1).bind fun s4 =>
    some ((.tuple [(.slice s4.1 s4.2.1 s4.2.2), (.int .i64 0)]), r3.2.1, r3.2.2)) := by kernel_rfl

/-- (quickset/pool.flat).Read -/
theorem F77_eq (n : Nat) (Y : YldF) (x0a : Option (Nat × Nat)) (x0n : Nat) (x0c : Option Nat) (x1 : Int) (x2 : Int) (h : AHeap) (nx : Nat) : callP Try.prog keepT (n + 1) Y 77 [(.slice x0a x0n x0c), (.int .i64 x1), (.int .i64 x2)] h nx =
    if (decide ((x1 : Int) ≥ ((x0n : Nat) : Int))) = true then
    (some ((.tuple [(.slice none 0 none), (.int .i64 0)]), h, (nx + 8)))
    else
    ((cutA h x0a x0n x0c 1 (some (.int .i64 x1)) none none).bind fun s1 =>
    (cutA h s1.1 s1.2.1 s1.2.2 1 none (some (.int .i64 (if (wrapA .i64 (((x0n : Nat) : Int) - x1)) < x2 then (wrapA .i64 (((x0n : Nat) : Int) - x1)) else x2))) none).bind fun s2 =>
    ((callP Try.prog keepT n) Y 81 [(.slice s2.1 s2.2.1 s2.2.2)] h (nx + 19)).bind fun r3 =>
    (asSl r3.1).bind fun s4 =>
    some ((.tuple [(.slice s4.1 s4.2.1 s4.2.2), (.int .i64 0)]), r3.2.1, r3.2.2)) := F77_eq' go1 n Y x0a x0n x0c x1 x2 h nx

noncomputable def c81 : Code := (Try.f81.body).getD .skip

noncomputable def r81 : List ResultVar := Try.f81.results.toList

theorem F81_eq' (J : StepF (AV × AHeap × Nat) → StepF (AV × AHeap × Nat)) (n : Nat) (Y : YldF) (x0a : Option (Nat × Nat)) (x0n : Nat) (x0c : Option Nat) (h : AHeap) (nx : Nat) : rootJ J Try.prog keepT (callP Try.prog keepT n) Y n 81 [(.slice x0a x0n x0c)] h nx =
    if (Option.isNone x0a) = true then
    (some ((.slice none 0 none), h, (nx + 4)))
    else
    (let h1 := AHeap.put h (nx + 3) (some ⟨[], 1, true⟩)
    (srcS h1 x0a x0n 1).bind fun q2 =>
    (appD h1 (some ((nx + 3), 0)) 0 (some 0) 1 1 (nx + 5) q2).bind fun e3 =>
    let h4 := AHeap.puts h1 e3.sets
    some ((.slice e3.a e3.n e3.c), h4, (nx + 7))) := by kernel_rfl

/-- slices.Clone[quickset/pool.flat,byte] -/
theorem F81_eq (n : Nat) (Y : YldF) (x0a : Option (Nat × Nat)) (x0n : Nat) (x0c : Option Nat) (h : AHeap) (nx : Nat) : callP Try.prog keepT (n + 1) Y 81 [(.slice x0a x0n x0c)] h nx =
    if (Option.isNone x0a) = true then
    (some ((.slice none 0 none), h, (nx + 4)))
    else
    (let h1 := AHeap.put h (nx + 3) (some ⟨[], 1, true⟩)
    (srcS h1 x0a x0n 1).bind fun q2 =>
    (appD h1 (some ((nx + 3), 0)) 0 (some 0) 1 1 (nx + 5) q2).bind fun e3 =>
    let h4 := AHeap.puts h1 e3.sets
    some ((.slice e3.a e3.n e3.c), h4, (nx + 7))) := F81_eq' go1 n Y x0a x0n x0c h nx

end Go.Proofs.Ytncmdbpoceilgaa.T
