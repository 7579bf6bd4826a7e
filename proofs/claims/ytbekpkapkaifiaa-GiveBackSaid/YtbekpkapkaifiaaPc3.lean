/- Printed by mp.py: functions of the program as plain Lean, each by the kernel. -/
import Derived.Test.YtbekpkapkaifiaaPc1
set_option linter.unusedVariables false
set_option linter.unusedSimpArgs false
namespace Go.Proofs.Ytbekpkapkaifiaa.T
open Go Go.RowKit Go.Proofs
set_option maxRecDepth 100000

noncomputable def c37 : Code := (Try.f37.body).getD .skip

noncomputable def r37 : List ResultVar := Try.f37.results.toList

theorem F37_eq' (J : StepF (AV × AHeap × Nat) → StepF (AV × AHeap × Nat)) (n : Nat) (Y : YldF) (x0 : Int) (h : AHeap) (nx : Nat) : rootJ J Try.prog keepT (callP Try.prog keepT n) Y n 37 [(.int .i64 x0)] h nx =
    if (decide (0 ≤ (x0 : Int)) && decide ((x0 : Int) ≤ x0) && decide (((32 : Nat) : Int) * x0 ≤ 281474976710656) && decide ((x0 : Int) ≤ 9223372036854775807) && 2 != 0) = true then
    (let h1 := AHeap.put h (nx + 2) (some ⟨(madeA [(.slice none 0 false), (.bool false)] (Int.toNat x0 * 2)), 2, true⟩)
    let h2 := AHeap.put h1 (nx + 4) (some ⟨[(.slice (some ((nx + 2), 0)) (Int.toNat x0) (x0 == x0)), (.slice none 0 false), (.bool false)], 3, true⟩)
    some ((.ptr (some ((nx + 4), 0))), h2, (nx + 6)))
    else none := by kernel_rfl

/-- quickset/drive.New -/
theorem F37_eq (n : Nat) (Y : YldF) (x0 : Int) (h : AHeap) (nx : Nat) : callP Try.prog keepT (n + 1) Y 37 [(.int .i64 x0)] h nx =
    if (decide (0 ≤ (x0 : Int)) && decide ((x0 : Int) ≤ x0) && decide (((32 : Nat) : Int) * x0 ≤ 281474976710656) && decide ((x0 : Int) ≤ 9223372036854775807) && 2 != 0) = true then
    (let h1 := AHeap.put h (nx + 2) (some ⟨(madeA [(.slice none 0 false), (.bool false)] (Int.toNat x0 * 2)), 2, true⟩)
    let h2 := AHeap.put h1 (nx + 4) (some ⟨[(.slice (some ((nx + 2), 0)) (Int.toNat x0) (x0 == x0)), (.slice none 0 false), (.bool false)], 3, true⟩)
    some ((.ptr (some ((nx + 4), 0))), h2, (nx + 6)))
    else none := F37_eq' go1 n Y x0 h nx

noncomputable def c38 : Code := (Try.f38.body).getD .skip

noncomputable def r38 : List ResultVar := Try.f38.results.toList

theorem F38_eq' (J : StepF (AV × AHeap × Nat) → StepF (AV × AHeap × Nat)) (n : Nat) (Y : YldF) (x0 : Option (Nat × Nat)) (x1_0 : Int) (x1_1 : Int) (x1_2 : Int) (x1_3a : Option (Nat × Nat)) (x1_3n : Nat) (x1_3c : Bool) (h : AHeap) (nx : Nat) : rootJ J Try.prog keepT (callP Try.prog keepT n) Y n 38 [(.ptr x0), (.agg [(.int .i64 x1_0), (.int .i64 x1_1), (.int .i64 x1_2), (.slice x1_3a x1_3n x1_3c)])] h nx =
    let h1 := AHeap.put h nx (some ⟨[(.int .i64 x1_0), (.int .i64 x1_1), (.int .i64 x1_2), (.slice x1_3a x1_3n x1_3c)], 4, true⟩)
    let h2 := AHeap.put h1 (nx + 1) (some ⟨[(.int .i64 0), (.slice none 0 false)], 2, true⟩)
    (ldR h2 nx 0 4).bind fun l3 =>
    (asAgg 4 (AV.agg l3)).bind fun d4 =>
    (asI .i64 (d4.getD 0 .bad)).bind fun n5 =>
    (asI .i64 (d4.getD 1 .bad)).bind fun n6 =>
    (asI .i64 (d4.getD 2 .bad)).bind fun n7 =>
    (asSl (d4.getD 3 .bad)).bind fun s8 =>
    ((callP Try.prog keepT n) Y 54 [(.ptr x0), (.agg [(.int .i64 n5), (.int .i64 n6), (.int .i64 n7), (.slice s8.1 s8.2.1 s8.2.2)])] h2 (nx + 6)).bind fun r9 =>
    (asI .i64 r9.1).bind fun n10 =>
    if ((n10 : Int) != 0) = true then
    ((stA r9.2.1 (nx + 1) 0 (.agg [(.int .i64 n10), (.slice none 0 false)]) 2).bind fun b11 =>
    let h12 := AHeap.put r9.2.1 (nx + 1) (some b11)
    (ldR h12 (nx + 1) 0 2).bind fun l13 =>
    (asAgg 2 (AV.agg l13)).bind fun d14 =>
    (asI .i64 (d14.getD 0 .bad)).bind fun n15 =>
    (asSl (d14.getD 1 .bad)).bind fun s16 =>
    some ((.agg [(.int .i64 n15), (.slice s16.1 s16.2.1 s16.2.2)]), h12, (r9.2.2 + 5)))
    else
    ((ldA r9.2.1 nx 0).bind fun v17 =>
    (asI .i64 v17).bind fun n18 =>
    if ((n18 : Int) == 1) = true then
    ((x0).bind fun p19 =>
    (ldA r9.2.1 p19.1 (p19.2 + 1)).bind fun v20 =>
    (asSl v20).bind fun s21 =>
    (ldA r9.2.1 nx 1).bind fun v22 =>
    (asI .i64 v22).bind fun n23 =>
    (ldA r9.2.1 nx 3).bind fun v24 =>
    (asSl v24).bind fun s25 =>
    ((callP Try.prog keepT n) Y 55 [(.slice s25.1 s25.2.1 s25.2.2)] r9.2.1 (r9.2.2 + 22)).bind fun r26 =>
    (asSl r26.1).bind fun s27 =>
    let h28 := AHeap.put r26.2.1 (r9.2.2 + 17) (some ⟨[(.int .i64 n23), (.slice s27.1 s27.2.1 s27.2.2)], 2, true⟩)
    (srcS h28 (some ((r9.2.2 + 17), 0)) 1 2).bind fun q29 =>
    (appD h28 s21.1 s21.2.1 s21.2.2 2 32 (r9.2.2 + 18) q29).bind fun e30 =>
    let h31 := AHeap.puts h28 e30.sets
    (x0).bind fun p32 =>
    (stA h31 p32.1 (p32.2 + 1) (.slice e30.a e30.n e30.c) 1).bind fun b33 =>
    let h34 := AHeap.put h31 p32.1 (some b33)
    ifApart [([(r9.2.2 + 17)], [p19.1])]
    (ifKept [(r9.2.1, r26.2.1, [p19.1]), (r9.2.1, r26.2.1, [nx])]
    ((stA h34 (nx + 1) 0 (.agg [(.int .i64 0), (.slice none 0 false)]) 2).bind fun b35 =>
    let h36 := AHeap.put h34 (nx + 1) (some b35)
    (ldR h36 (nx + 1) 0 2).bind fun l37 =>
    (asAgg 2 (AV.agg l37)).bind fun d38 =>
    (asI .i64 (d38.getD 0 .bad)).bind fun n39 =>
    (asSl (d38.getD 1 .bad)).bind fun s40 =>
    some ((.agg [(.int .i64 n39), (.slice s40.1 s40.2.1 s40.2.2)]), h36, (r26.2.2 + 2)))))
    else
    (if ((n18 : Int) == 2) = true then
    ((ldA r9.2.1 nx 1).bind fun v41 =>
    (asI .i64 v41).bind fun n42 =>
    ((callP Try.prog keepT n) Y 56 [(.ptr x0), (.int .i64 n42)] r9.2.1 (r9.2.2 + 13)).bind fun r43 =>
    (asAgg 2 r43.1).bind fun d44 =>
    (asI .i64 (d44.getD 0 .bad)).bind fun n45 =>
    (asSl (d44.getD 1 .bad)).bind fun s46 =>
    (stA r43.2.1 (nx + 1) 0 (.agg [(.int .i64 n45), (.slice s46.1 s46.2.1 s46.2.2)]) 2).bind fun b47 =>
    let h48 := AHeap.put r43.2.1 (nx + 1) (some b47)
    (ldR h48 (nx + 1) 0 2).bind fun l49 =>
    (asAgg 2 (AV.agg l49)).bind fun d50 =>
    (asI .i64 (d50.getD 0 .bad)).bind fun n51 =>
    (asSl (d50.getD 1 .bad)).bind fun s52 =>
    some ((.agg [(.int .i64 n51), (.slice s52.1 s52.2.1 s52.2.2)]), h48, r43.2.2))
    else
    (if ((n18 : Int) == 3) = true then
    (((callP Try.prog keepT n) Y 57 [(.ptr x0), (.fn 58 [] [])] r9.2.1 (r9.2.2 + 12)).bind fun r53 =>
    (asTup 0 r53.1).bind fun d54 =>
    (stA r53.2.1 (nx + 1) 0 (.agg [(.int .i64 0), (.slice none 0 false)]) 2).bind fun b55 =>
    let h56 := AHeap.put r53.2.1 (nx + 1) (some b55)
    (ldR h56 (nx + 1) 0 2).bind fun l57 =>
    (asAgg 2 (AV.agg l57)).bind fun d58 =>
    (asI .i64 (d58.getD 0 .bad)).bind fun n59 =>
    (asSl (d58.getD 1 .bad)).bind fun s60 =>
    some ((.agg [(.int .i64 n59), (.slice s60.1 s60.2.1 s60.2.2)]), h56, (r53.2.2 + 2)))
    else
    (if ((n18 : Int) == 4) = true then
    (((callP Try.prog keepT n) Y 57 [(.ptr x0), (.fn 59 [] [(.ptr (some (nx, 0)))])] r9.2.1 (r9.2.2 + 15)).bind fun r61 =>
    (asTup 0 r61.1).bind fun d62 =>
    (stA r61.2.1 (nx + 1) 0 (.agg [(.int .i64 0), (.slice none 0 false)]) 2).bind fun b63 =>
    let h64 := AHeap.put r61.2.1 (nx + 1) (some b63)
    (ldR h64 (nx + 1) 0 2).bind fun l65 =>
    (asAgg 2 (AV.agg l65)).bind fun d66 =>
    (asI .i64 (d66.getD 0 .bad)).bind fun n67 =>
    (asSl (d66.getD 1 .bad)).bind fun s68 =>
    some ((.agg [(.int .i64 n67), (.slice s68.1 s68.2.1 s68.2.2)]), h64, (r61.2.2 + 2)))
    else
    (if ((n18 : Int) == 5) = true then
    ((x0).bind fun p69 =>
    (ldA r9.2.1 p69.1 p69.2).bind fun v70 =>
    (asSl v70).bind fun s71 =>
    (ldA r9.2.1 nx 1).bind fun v72 =>
    (asI .i64 v72).bind fun n73 =>
    (s71.1).bind fun p74 =>
    if 0 ≤ (n73 : Int) ∧ n73 < ((s71.2.1 : Nat) : Int) then
    ((stA r9.2.1 p74.1 ((p74.2 + Int.toNat n73 * 2) + 1) (.bool true) 1).bind fun b75 =>
    let h76 := AHeap.put r9.2.1 p74.1 (some b75)
    (stA h76 (nx + 1) 0 (.agg [(.int .i64 0), (.slice none 0 false)]) 2).bind fun b77 =>
    let h78 := AHeap.put h76 (nx + 1) (some b77)
    (ldR h78 (nx + 1) 0 2).bind fun l79 =>
    (asAgg 2 (AV.agg l79)).bind fun d80 =>
    (asI .i64 (d80.getD 0 .bad)).bind fun n81 =>
    (asSl (d80.getD 1 .bad)).bind fun s82 =>
    some ((.agg [(.int .i64 n81), (.slice s82.1 s82.2.1 s82.2.2)]), h78, (r9.2.2 + 25)))
    else none)
    else
    (if ((n18 : Int) == 6) = true then
    ((x0).bind fun p83 =>
    (ldA r9.2.1 p83.1 p83.2).bind fun v84 =>
    (asSl v84).bind fun s85 =>
    (ldA r9.2.1 nx 1).bind fun v86 =>
    (asI .i64 v86).bind fun n87 =>
    (ldA r9.2.1 nx 3).bind fun v88 =>
    (asSl v88).bind fun s89 =>
    ((callP Try.prog keepT n) Y 55 [(.slice s89.1 s89.2.1 s89.2.2)] r9.2.1 (r9.2.2 + 28)).bind fun r90 =>
    (asSl r90.1).bind fun s91 =>
    (s85.1).bind fun p92 =>
    if 0 ≤ (n87 : Int) ∧ n87 < ((s85.2.1 : Nat) : Int) then
    ((stA r90.2.1 p92.1 (p92.2 + Int.toNat n87 * 2) (.agg [(.slice s91.1 s91.2.1 s91.2.2), (.bool false)]) 2).bind fun b93 =>
    let h94 := AHeap.put r90.2.1 p92.1 (some b93)
    ifKept [(r9.2.1, r90.2.1, [p83.1]), (r9.2.1, r90.2.1, [nx])]
    ((stA h94 (nx + 1) 0 (.agg [(.int .i64 0), (.slice none 0 false)]) 2).bind fun b95 =>
    let h96 := AHeap.put h94 (nx + 1) (some b95)
    (ldR h96 (nx + 1) 0 2).bind fun l97 =>
    (asAgg 2 (AV.agg l97)).bind fun d98 =>
    (asI .i64 (d98.getD 0 .bad)).bind fun n99 =>
    (asSl (d98.getD 1 .bad)).bind fun s100 =>
    some ((.agg [(.int .i64 n99), (.slice s100.1 s100.2.1 s100.2.2)]), h96, (r90.2.2 + 2))))
    else none)
    else
    (if ((n18 : Int) == 7) = true then
    ((x0).bind fun p101 =>
    (stA r9.2.1 p101.1 (p101.2 + 2) (.bool true) 1).bind fun b102 =>
    let h103 := AHeap.put r9.2.1 p101.1 (some b102)
    (stA h103 (nx + 1) 0 (.agg [(.int .i64 0), (.slice none 0 false)]) 2).bind fun b104 =>
    let h105 := AHeap.put h103 (nx + 1) (some b104)
    (ldR h105 (nx + 1) 0 2).bind fun l106 =>
    (asAgg 2 (AV.agg l106)).bind fun d107 =>
    (asI .i64 (d107.getD 0 .bad)).bind fun n108 =>
    (asSl (d107.getD 1 .bad)).bind fun s109 =>
    some ((.agg [(.int .i64 n108), (.slice s109.1 s109.2.1 s109.2.2)]), h105, (r9.2.2 + 24)))
    else
    (if ((n18 : Int) == 8) = true then
    ((x0).bind fun p110 =>
    (ldA r9.2.1 p110.1 p110.2).bind fun v111 =>
    (asSl v111).bind fun s112 =>
    ((callP Try.prog keepT n) Y 37 [(.int .i64 ((s112.2.1 : Nat) : Int))] r9.2.1 (r9.2.2 + 31)).bind fun r113 =>
    (asP r113.1).bind fun p114 =>
    (p114).bind fun p115 =>
    (ldR r113.2.1 p115.1 p115.2 3).bind fun l116 =>
    (asAgg 3 (AV.agg l116)).bind fun d117 =>
    (asSl (d117.getD 0 .bad)).bind fun s118 =>
    (asSl (d117.getD 1 .bad)).bind fun s119 =>
    (asB (d117.getD 2 .bad)).bind fun t120 =>
    (x0).bind fun p121 =>
    (stA r113.2.1 p121.1 p121.2 (.agg [(.slice s118.1 s118.2.1 s118.2.2), (.slice s119.1 s119.2.1 s119.2.2), (.bool t120)]) 3).bind fun b122 =>
    let h123 := AHeap.put r113.2.1 p121.1 (some b122)
    (stA h123 (nx + 1) 0 (.agg [(.int .i64 0), (.slice none 0 false)]) 2).bind fun b124 =>
    let h125 := AHeap.put h123 (nx + 1) (some b124)
    (ldR h125 (nx + 1) 0 2).bind fun l126 =>
    (asAgg 2 (AV.agg l126)).bind fun d127 =>
    (asI .i64 (d127.getD 0 .bad)).bind fun n128 =>
    (asSl (d127.getD 1 .bad)).bind fun s129 =>
    some ((.agg [(.int .i64 n128), (.slice s129.1 s129.2.1 s129.2.2)]), h125, (r113.2.2 + 2)))
    else
    ((stA r9.2.1 (nx + 1) 0 (.agg [(.int .i64 0), (.slice none 0 false)]) 2).bind fun b130 =>
    let h131 := AHeap.put r9.2.1 (nx + 1) (some b130)
    (ldR h131 (nx + 1) 0 2).bind fun l132 =>
    (asAgg 2 (AV.agg l132)).bind fun d133 =>
    (asI .i64 (d133.getD 0 .bad)).bind fun n134 =>
    (asSl (d133.getD 1 .bad)).bind fun s135 =>
    some ((.agg [(.int .i64 n134), (.slice s135.1 s135.2.1 s135.2.2)]), h131, (r9.2.2 + 22))))))))))) := by kernel_rfl

/-- (*quickset/drive.Drive).Do -/
theorem F38_eq (n : Nat) (Y : YldF) (x0 : Option (Nat × Nat)) (x1_0 : Int) (x1_1 : Int) (x1_2 : Int) (x1_3a : Option (Nat × Nat)) (x1_3n : Nat) (x1_3c : Bool) (h : AHeap) (nx : Nat) : callP Try.prog keepT (n + 1) Y 38 [(.ptr x0), (.agg [(.int .i64 x1_0), (.int .i64 x1_1), (.int .i64 x1_2), (.slice x1_3a x1_3n x1_3c)])] h nx =
    let h1 := AHeap.put h nx (some ⟨[(.int .i64 x1_0), (.int .i64 x1_1), (.int .i64 x1_2), (.slice x1_3a x1_3n x1_3c)], 4, true⟩)
    let h2 := AHeap.put h1 (nx + 1) (some ⟨[(.int .i64 0), (.slice none 0 false)], 2, true⟩)
    (ldR h2 nx 0 4).bind fun l3 =>
    (asAgg 4 (AV.agg l3)).bind fun d4 =>
    (asI .i64 (d4.getD 0 .bad)).bind fun n5 =>
    (asI .i64 (d4.getD 1 .bad)).bind fun n6 =>
    (asI .i64 (d4.getD 2 .bad)).bind fun n7 =>
    (asSl (d4.getD 3 .bad)).bind fun s8 =>
    ((callP Try.prog keepT n) Y 54 [(.ptr x0), (.agg [(.int .i64 n5), (.int .i64 n6), (.int .i64 n7), (.slice s8.1 s8.2.1 s8.2.2)])] h2 (nx + 6)).bind fun r9 =>
    (asI .i64 r9.1).bind fun n10 =>
    if ((n10 : Int) != 0) = true then
    ((stA r9.2.1 (nx + 1) 0 (.agg [(.int .i64 n10), (.slice none 0 false)]) 2).bind fun b11 =>
    let h12 := AHeap.put r9.2.1 (nx + 1) (some b11)
    (ldR h12 (nx + 1) 0 2).bind fun l13 =>
    (asAgg 2 (AV.agg l13)).bind fun d14 =>
    (asI .i64 (d14.getD 0 .bad)).bind fun n15 =>
    (asSl (d14.getD 1 .bad)).bind fun s16 =>
    some ((.agg [(.int .i64 n15), (.slice s16.1 s16.2.1 s16.2.2)]), h12, (r9.2.2 + 5)))
    else
    ((ldA r9.2.1 nx 0).bind fun v17 =>
    (asI .i64 v17).bind fun n18 =>
    if ((n18 : Int) == 1) = true then
    ((x0).bind fun p19 =>
    (ldA r9.2.1 p19.1 (p19.2 + 1)).bind fun v20 =>
    (asSl v20).bind fun s21 =>
    (ldA r9.2.1 nx 1).bind fun v22 =>
    (asI .i64 v22).bind fun n23 =>
    (ldA r9.2.1 nx 3).bind fun v24 =>
    (asSl v24).bind fun s25 =>
    ((callP Try.prog keepT n) Y 55 [(.slice s25.1 s25.2.1 s25.2.2)] r9.2.1 (r9.2.2 + 22)).bind fun r26 =>
    (asSl r26.1).bind fun s27 =>
    let h28 := AHeap.put r26.2.1 (r9.2.2 + 17) (some ⟨[(.int .i64 n23), (.slice s27.1 s27.2.1 s27.2.2)], 2, true⟩)
    (srcS h28 (some ((r9.2.2 + 17), 0)) 1 2).bind fun q29 =>
    (appD h28 s21.1 s21.2.1 s21.2.2 2 32 (r9.2.2 + 18) q29).bind fun e30 =>
    let h31 := AHeap.puts h28 e30.sets
    (x0).bind fun p32 =>
    (stA h31 p32.1 (p32.2 + 1) (.slice e30.a e30.n e30.c) 1).bind fun b33 =>
    let h34 := AHeap.put h31 p32.1 (some b33)
    ifApart [([(r9.2.2 + 17)], [p19.1])]
    (ifKept [(r9.2.1, r26.2.1, [p19.1]), (r9.2.1, r26.2.1, [nx])]
    ((stA h34 (nx + 1) 0 (.agg [(.int .i64 0), (.slice none 0 false)]) 2).bind fun b35 =>
    let h36 := AHeap.put h34 (nx + 1) (some b35)
    (ldR h36 (nx + 1) 0 2).bind fun l37 =>
    (asAgg 2 (AV.agg l37)).bind fun d38 =>
    (asI .i64 (d38.getD 0 .bad)).bind fun n39 =>
    (asSl (d38.getD 1 .bad)).bind fun s40 =>
    some ((.agg [(.int .i64 n39), (.slice s40.1 s40.2.1 s40.2.2)]), h36, (r26.2.2 + 2)))))
    else
    (if ((n18 : Int) == 2) = true then
    ((ldA r9.2.1 nx 1).bind fun v41 =>
    (asI .i64 v41).bind fun n42 =>
    ((callP Try.prog keepT n) Y 56 [(.ptr x0), (.int .i64 n42)] r9.2.1 (r9.2.2 + 13)).bind fun r43 =>
    (asAgg 2 r43.1).bind fun d44 =>
    (asI .i64 (d44.getD 0 .bad)).bind fun n45 =>
    (asSl (d44.getD 1 .bad)).bind fun s46 =>
    (stA r43.2.1 (nx + 1) 0 (.agg [(.int .i64 n45), (.slice s46.1 s46.2.1 s46.2.2)]) 2).bind fun b47 =>
    let h48 := AHeap.put r43.2.1 (nx + 1) (some b47)
    (ldR h48 (nx + 1) 0 2).bind fun l49 =>
    (asAgg 2 (AV.agg l49)).bind fun d50 =>
    (asI .i64 (d50.getD 0 .bad)).bind fun n51 =>
    (asSl (d50.getD 1 .bad)).bind fun s52 =>
    some ((.agg [(.int .i64 n51), (.slice s52.1 s52.2.1 s52.2.2)]), h48, r43.2.2))
    else
    (if ((n18 : Int) == 3) = true then
    (((callP Try.prog keepT n) Y 57 [(.ptr x0), (.fn 58 [] [])] r9.2.1 (r9.2.2 + 12)).bind fun r53 =>
    (asTup 0 r53.1).bind fun d54 =>
    (stA r53.2.1 (nx + 1) 0 (.agg [(.int .i64 0), (.slice none 0 false)]) 2).bind fun b55 =>
    let h56 := AHeap.put r53.2.1 (nx + 1) (some b55)
    (ldR h56 (nx + 1) 0 2).bind fun l57 =>
    (asAgg 2 (AV.agg l57)).bind fun d58 =>
    (asI .i64 (d58.getD 0 .bad)).bind fun n59 =>
    (asSl (d58.getD 1 .bad)).bind fun s60 =>
    some ((.agg [(.int .i64 n59), (.slice s60.1 s60.2.1 s60.2.2)]), h56, (r53.2.2 + 2)))
    else
    (if ((n18 : Int) == 4) = true then
    (((callP Try.prog keepT n) Y 57 [(.ptr x0), (.fn 59 [] [(.ptr (some (nx, 0)))])] r9.2.1 (r9.2.2 + 15)).bind fun r61 =>
    (asTup 0 r61.1).bind fun d62 =>
    (stA r61.2.1 (nx + 1) 0 (.agg [(.int .i64 0), (.slice none 0 false)]) 2).bind fun b63 =>
    let h64 := AHeap.put r61.2.1 (nx + 1) (some b63)
    (ldR h64 (nx + 1) 0 2).bind fun l65 =>
    (asAgg 2 (AV.agg l65)).bind fun d66 =>
    (asI .i64 (d66.getD 0 .bad)).bind fun n67 =>
    (asSl (d66.getD 1 .bad)).bind fun s68 =>
    some ((.agg [(.int .i64 n67), (.slice s68.1 s68.2.1 s68.2.2)]), h64, (r61.2.2 + 2)))
    else
    (if ((n18 : Int) == 5) = true then
    ((x0).bind fun p69 =>
    (ldA r9.2.1 p69.1 p69.2).bind fun v70 =>
    (asSl v70).bind fun s71 =>
    (ldA r9.2.1 nx 1).bind fun v72 =>
    (asI .i64 v72).bind fun n73 =>
    (s71.1).bind fun p74 =>
    if 0 ≤ (n73 : Int) ∧ n73 < ((s71.2.1 : Nat) : Int) then
    ((stA r9.2.1 p74.1 ((p74.2 + Int.toNat n73 * 2) + 1) (.bool true) 1).bind fun b75 =>
    let h76 := AHeap.put r9.2.1 p74.1 (some b75)
    (stA h76 (nx + 1) 0 (.agg [(.int .i64 0), (.slice none 0 false)]) 2).bind fun b77 =>
    let h78 := AHeap.put h76 (nx + 1) (some b77)
    (ldR h78 (nx + 1) 0 2).bind fun l79 =>
    (asAgg 2 (AV.agg l79)).bind fun d80 =>
    (asI .i64 (d80.getD 0 .bad)).bind fun n81 =>
    (asSl (d80.getD 1 .bad)).bind fun s82 =>
    some ((.agg [(.int .i64 n81), (.slice s82.1 s82.2.1 s82.2.2)]), h78, (r9.2.2 + 25)))
    else none)
    else
    (if ((n18 : Int) == 6) = true then
    ((x0).bind fun p83 =>
    (ldA r9.2.1 p83.1 p83.2).bind fun v84 =>
    (asSl v84).bind fun s85 =>
    (ldA r9.2.1 nx 1).bind fun v86 =>
    (asI .i64 v86).bind fun n87 =>
    (ldA r9.2.1 nx 3).bind fun v88 =>
    (asSl v88).bind fun s89 =>
    ((callP Try.prog keepT n) Y 55 [(.slice s89.1 s89.2.1 s89.2.2)] r9.2.1 (r9.2.2 + 28)).bind fun r90 =>
    (asSl r90.1).bind fun s91 =>
    (s85.1).bind fun p92 =>
    if 0 ≤ (n87 : Int) ∧ n87 < ((s85.2.1 : Nat) : Int) then
    ((stA r90.2.1 p92.1 (p92.2 + Int.toNat n87 * 2) (.agg [(.slice s91.1 s91.2.1 s91.2.2), (.bool false)]) 2).bind fun b93 =>
    let h94 := AHeap.put r90.2.1 p92.1 (some b93)
    ifKept [(r9.2.1, r90.2.1, [p83.1]), (r9.2.1, r90.2.1, [nx])]
    ((stA h94 (nx + 1) 0 (.agg [(.int .i64 0), (.slice none 0 false)]) 2).bind fun b95 =>
    let h96 := AHeap.put h94 (nx + 1) (some b95)
    (ldR h96 (nx + 1) 0 2).bind fun l97 =>
    (asAgg 2 (AV.agg l97)).bind fun d98 =>
    (asI .i64 (d98.getD 0 .bad)).bind fun n99 =>
    (asSl (d98.getD 1 .bad)).bind fun s100 =>
    some ((.agg [(.int .i64 n99), (.slice s100.1 s100.2.1 s100.2.2)]), h96, (r90.2.2 + 2))))
    else none)
    else
    (if ((n18 : Int) == 7) = true then
    ((x0).bind fun p101 =>
    (stA r9.2.1 p101.1 (p101.2 + 2) (.bool true) 1).bind fun b102 =>
    let h103 := AHeap.put r9.2.1 p101.1 (some b102)
    (stA h103 (nx + 1) 0 (.agg [(.int .i64 0), (.slice none 0 false)]) 2).bind fun b104 =>
    let h105 := AHeap.put h103 (nx + 1) (some b104)
    (ldR h105 (nx + 1) 0 2).bind fun l106 =>
    (asAgg 2 (AV.agg l106)).bind fun d107 =>
    (asI .i64 (d107.getD 0 .bad)).bind fun n108 =>
    (asSl (d107.getD 1 .bad)).bind fun s109 =>
    some ((.agg [(.int .i64 n108), (.slice s109.1 s109.2.1 s109.2.2)]), h105, (r9.2.2 + 24)))
    else
    (if ((n18 : Int) == 8) = true then
    ((x0).bind fun p110 =>
    (ldA r9.2.1 p110.1 p110.2).bind fun v111 =>
    (asSl v111).bind fun s112 =>
    ((callP Try.prog keepT n) Y 37 [(.int .i64 ((s112.2.1 : Nat) : Int))] r9.2.1 (r9.2.2 + 31)).bind fun r113 =>
    (asP r113.1).bind fun p114 =>
    (p114).bind fun p115 =>
    (ldR r113.2.1 p115.1 p115.2 3).bind fun l116 =>
    (asAgg 3 (AV.agg l116)).bind fun d117 =>
    (asSl (d117.getD 0 .bad)).bind fun s118 =>
    (asSl (d117.getD 1 .bad)).bind fun s119 =>
    (asB (d117.getD 2 .bad)).bind fun t120 =>
    (x0).bind fun p121 =>
    (stA r113.2.1 p121.1 p121.2 (.agg [(.slice s118.1 s118.2.1 s118.2.2), (.slice s119.1 s119.2.1 s119.2.2), (.bool t120)]) 3).bind fun b122 =>
    let h123 := AHeap.put r113.2.1 p121.1 (some b122)
    (stA h123 (nx + 1) 0 (.agg [(.int .i64 0), (.slice none 0 false)]) 2).bind fun b124 =>
    let h125 := AHeap.put h123 (nx + 1) (some b124)
    (ldR h125 (nx + 1) 0 2).bind fun l126 =>
    (asAgg 2 (AV.agg l126)).bind fun d127 =>
    (asI .i64 (d127.getD 0 .bad)).bind fun n128 =>
    (asSl (d127.getD 1 .bad)).bind fun s129 =>
    some ((.agg [(.int .i64 n128), (.slice s129.1 s129.2.1 s129.2.2)]), h125, (r113.2.2 + 2)))
    else
    ((stA r9.2.1 (nx + 1) 0 (.agg [(.int .i64 0), (.slice none 0 false)]) 2).bind fun b130 =>
    let h131 := AHeap.put r9.2.1 (nx + 1) (some b130)
    (ldR h131 (nx + 1) 0 2).bind fun l132 =>
    (asAgg 2 (AV.agg l132)).bind fun d133 =>
    (asI .i64 (d133.getD 0 .bad)).bind fun n134 =>
    (asSl (d133.getD 1 .bad)).bind fun s135 =>
    some ((.agg [(.int .i64 n134), (.slice s135.1 s135.2.1 s135.2.2)]), h131, (r9.2.2 + 22))))))))))) := F38_eq' go1 n Y x0 x1_0 x1_1 x1_2 x1_3a x1_3n x1_3c h nx

noncomputable def c39 : Code := (Try.f39.body).getD .skip

noncomputable def r39 : List ResultVar := Try.f39.results.toList

theorem F39_eq' (J : StepF (AV × AHeap × Nat) → StepF (AV × AHeap × Nat)) (n : Nat) (Y : YldF) (x0 : Option (Nat × Nat)) (h : AHeap) (nx : Nat) : rootJ J Try.prog keepT (callP Try.prog keepT n) Y n 39 [(.ptr x0)] h nx =
    let h1 := AHeap.put h nx (some ⟨[(.ptr none), (.ptr none), (.ptr none), (.ptr none), (.ptr none), (.ptr none), (.ptr none), (.ptr none), (.ptr none)], 1, true⟩)
    (x0).bind fun p2 =>
    (x0).bind fun p3 =>
    (x0).bind fun p4 =>
    (x0).bind fun p5 =>
    (x0).bind fun p6 =>
    (x0).bind fun p7 =>
    (x0).bind fun p8 =>
    (x0).bind fun p9 =>
    (x0).bind fun p10 =>
    (stA h1 nx 0 (.agg [(.ptr (some p2)), (.ptr (some (p3.1, (p3.2 + 1)))), (.ptr (some (p4.1, (p4.2 + 2)))), (.ptr (some (p5.1, (p5.2 + 3)))), (.ptr (some (p6.1, (p6.2 + 4)))), (.ptr (some (p7.1, (p7.2 + 5)))), (.ptr (some (p8.1, ((p8.2 + 5) + 1)))), (.ptr (some (p9.1, ((p9.2 + 5) + 2)))), (.ptr (some (p10.1, ((p10.2 + 5) + 3))))]) 9).bind fun b11 =>
    let h12 := AHeap.put h1 nx (some b11)
    (ldR h12 nx 0 9).bind fun l13 =>
    some ((.agg l13), h12, (nx + 34)) := by kernel_rfl

/-- quickset/label.small -/
theorem F39_eq (n : Nat) (Y : YldF) (x0 : Option (Nat × Nat)) (h : AHeap) (nx : Nat) : callP Try.prog keepT (n + 1) Y 39 [(.ptr x0)] h nx =
    let h1 := AHeap.put h nx (some ⟨[(.ptr none), (.ptr none), (.ptr none), (.ptr none), (.ptr none), (.ptr none), (.ptr none), (.ptr none), (.ptr none)], 1, true⟩)
    (x0).bind fun p2 =>
    (x0).bind fun p3 =>
    (x0).bind fun p4 =>
    (x0).bind fun p5 =>
    (x0).bind fun p6 =>
    (x0).bind fun p7 =>
    (x0).bind fun p8 =>
    (x0).bind fun p9 =>
    (x0).bind fun p10 =>
    (stA h1 nx 0 (.agg [(.ptr (some p2)), (.ptr (some (p3.1, (p3.2 + 1)))), (.ptr (some (p4.1, (p4.2 + 2)))), (.ptr (some (p5.1, (p5.2 + 3)))), (.ptr (some (p6.1, (p6.2 + 4)))), (.ptr (some (p7.1, (p7.2 + 5)))), (.ptr (some (p8.1, ((p8.2 + 5) + 1)))), (.ptr (some (p9.1, ((p9.2 + 5) + 2)))), (.ptr (some (p10.1, ((p10.2 + 5) + 3))))]) 9).bind fun b11 =>
    let h12 := AHeap.put h1 nx (some b11)
    (ldR h12 nx 0 9).bind fun l13 =>
    some ((.agg l13), h12, (nx + 34)) := F39_eq' go1 n Y x0 h nx

noncomputable def c40 : Code := (Try.f40.body).getD .skip

noncomputable def r40 : List ResultVar := Try.f40.results.toList

noncomputable def F40_L1' (W J : StepF (AV × AHeap × Nat) → StepF (AV × AHeap × Nat)) (call : YldF → CallF) (Y : YldF) (lf : Nat) (n0 : Nat) (x0a : Option (Nat × Nat)) (x0n : Nat) (x0c : Bool) (x1 : Int) (x7 : Int) (x8 : Int) (h : AHeap) (nx : Nat) : Option (AV × AHeap × Nat) :=
  goK W J drawK (machOf Try.prog) call Y (keepT 40) lf c40 [1, 0, 1, 0, 9] [n0] (retK (machOf Try.prog) ⟨c40, 19, r40, keepT 40⟩) ⟨19, mkL [(0, (.slice x0a x0n x0c)), (1, (.int .i64 x1)), (7, (.int .i64 x7)), (8, (.int .i64 x8))]⟩ h nx

noncomputable def F40_L1 (call : YldF → CallF) (Y : YldF) (lf : Nat) (n0 : Nat) (x0a : Option (Nat × Nat)) (x0n : Nat) (x0c : Bool) (x1 : Int) (x7 : Int) (x8 : Int) (h : AHeap) (nx : Nat) : Option (AV × AHeap × Nat) := F40_L1' go1 go1 call Y lf n0 x0a x0n x0c x1 x7 x8 h nx

theorem F40_L1_eq' (J : StepF (AV × AHeap × Nat) → StepF (AV × AHeap × Nat)) (call : YldF → CallF) (Y : YldF) (lf : Nat) (n0 : Nat) (x0a : Option (Nat × Nat)) (x0n : Nat) (x0c : Bool) (x1 : Int) (x7 : Int) (x8 : Int) (h : AHeap) (nx : Nat) : F40_L1' go1 J call Y lf (n0 + 1) x0a x0n x0c x1 x7 x8 h nx =
    if (decide ((x8 : Int) < x7)) = true then
    (let h1 := AHeap.put h (nx + 4) (some ⟨[(.int .u8 (wrapA .u8 x1))], 1, true⟩)
    (srcS h1 (some ((nx + 4), 0)) 1 1).bind fun q2 =>
    (appD h1 x0a x0n x0c 1 1 (nx + 5) q2).bind fun e3 =>
    let h4 := AHeap.puts h1 e3.sets
    F40_L1' J J call Y lf n0 e3.a e3.n e3.c (Int.fdiv x1 ((2:Int) ^ min (Int.toNat 8) (IntKind.bits .i64))) x7 (wrapA .i64 (x8 + 1)) h4 (nx + 12))
    else
    (some ((.slice x0a x0n x0c), h, (nx + 3))) := by kernel_rfl

theorem F40_L1_eq (call : YldF → CallF) (Y : YldF) (lf : Nat) (n0 : Nat) (x0a : Option (Nat × Nat)) (x0n : Nat) (x0c : Bool) (x1 : Int) (x7 : Int) (x8 : Int) (h : AHeap) (nx : Nat) : F40_L1 call Y lf (n0 + 1) x0a x0n x0c x1 x7 x8 h nx =
    if (decide ((x8 : Int) < x7)) = true then
    (let h1 := AHeap.put h (nx + 4) (some ⟨[(.int .u8 (wrapA .u8 x1))], 1, true⟩)
    (srcS h1 (some ((nx + 4), 0)) 1 1).bind fun q2 =>
    (appD h1 x0a x0n x0c 1 1 (nx + 5) q2).bind fun e3 =>
    let h4 := AHeap.puts h1 e3.sets
    F40_L1 call Y lf n0 e3.a e3.n e3.c (Int.fdiv x1 ((2:Int) ^ min (Int.toNat 8) (IntKind.bits .i64))) x7 (wrapA .i64 (x8 + 1)) h4 (nx + 12))
    else
    (some ((.slice x0a x0n x0c), h, (nx + 3))) := F40_L1_eq' go1 call Y lf n0 x0a x0n x0c x1 x7 x8 h nx

theorem F40_L1_zero (call : YldF → CallF) (Y : YldF) (lf : Nat) (x0a : Option (Nat × Nat)) (x0n : Nat) (x0c : Bool) (x1 : Int) (x7 : Int) (x8 : Int) (h : AHeap) (nx : Nat) : F40_L1 call Y lf 0 x0a x0n x0c x1 x7 x8 h nx = none := by kernel_rfl

theorem F40_eq' (J : StepF (AV × AHeap × Nat) → StepF (AV × AHeap × Nat)) (n : Nat) (Y : YldF) (x0a : Option (Nat × Nat)) (x0n : Nat) (x0c : Bool) (x1 : Int) (x2 : Int) (h : AHeap) (nx : Nat) : rootJ J Try.prog keepT (callP Try.prog keepT n) Y n 40 [(.slice x0a x0n x0c), (.int .i64 x1), (.int .i64 x2)] h nx =
    F40_L1' J J (callP Try.prog keepT n) Y n n x0a x0n x0c x1 x2 0 h (nx + 3) := by kernel_rfl

/-- quickset/label.write -/
theorem F40_eq (n : Nat) (Y : YldF) (x0a : Option (Nat × Nat)) (x0n : Nat) (x0c : Bool) (x1 : Int) (x2 : Int) (h : AHeap) (nx : Nat) : callP Try.prog keepT (n + 1) Y 40 [(.slice x0a x0n x0c), (.int .i64 x1), (.int .i64 x2)] h nx =
    F40_L1 (callP Try.prog keepT n) Y n n x0a x0n x0c x1 x2 0 h (nx + 3) := F40_eq' go1 n Y x0a x0n x0c x1 x2 h nx

noncomputable def c41 : Code := (Try.f41.body).getD .skip

noncomputable def r41 : List ResultVar := Try.f41.results.toList

theorem F41_eq' (J : StepF (AV × AHeap × Nat) → StepF (AV × AHeap × Nat)) (n : Nat) (Y : YldF) (x0 : Option (Nat × Nat)) (h : AHeap) (nx : Nat) : rootJ J Try.prog keepT (callP Try.prog keepT n) Y n 41 [(.ptr x0)] h nx =
    let h1 := AHeap.put h nx (some ⟨[(.ptr none), (.ptr none), (.ptr none), (.ptr none)], 1, true⟩)
    (x0).bind fun p2 =>
    (x0).bind fun p3 =>
    (x0).bind fun p4 =>
    (x0).bind fun p5 =>
    (stA h1 nx 0 (.agg [(.ptr (some p2)), (.ptr (some (p3.1, (p3.2 + 1)))), (.ptr (some (p4.1, (p4.2 + 2)))), (.ptr (some (p5.1, (p5.2 + 3))))]) 4).bind fun b6 =>
    let h7 := AHeap.put h1 nx (some b6)
    (ldR h7 nx 0 4).bind fun l8 =>
    some ((.agg l8), h7, (nx + 15)) := by kernel_rfl

/-- quickset/label.sums -/
theorem F41_eq (n : Nat) (Y : YldF) (x0 : Option (Nat × Nat)) (h : AHeap) (nx : Nat) : callP Try.prog keepT (n + 1) Y 41 [(.ptr x0)] h nx =
    let h1 := AHeap.put h nx (some ⟨[(.ptr none), (.ptr none), (.ptr none), (.ptr none)], 1, true⟩)
    (x0).bind fun p2 =>
    (x0).bind fun p3 =>
    (x0).bind fun p4 =>
    (x0).bind fun p5 =>
    (stA h1 nx 0 (.agg [(.ptr (some p2)), (.ptr (some (p3.1, (p3.2 + 1)))), (.ptr (some (p4.1, (p4.2 + 2)))), (.ptr (some (p5.1, (p5.2 + 3))))]) 4).bind fun b6 =>
    let h7 := AHeap.put h1 nx (some b6)
    (ldR h7 nx 0 4).bind fun l8 =>
    some ((.agg l8), h7, (nx + 15)) := F41_eq' go1 n Y x0 h nx

noncomputable def c42 : Code := (Try.f42.body).getD .skip

noncomputable def r42 : List ResultVar := Try.f42.results.toList

theorem F42_eq' (J : StepF (AV × AHeap × Nat) → StepF (AV × AHeap × Nat)) (n : Nat) (Y : YldF) (x0a : Option (Nat × Nat)) (x0n : Nat) (x0c : Bool) (h : AHeap) (nx : Nat) : rootJ J Try.prog keepT (callP Try.prog keepT n) Y n 42 [(.slice x0a x0n x0c)] h nx =
    let h1 := AHeap.put h nx (some ⟨[(.int .i64 0), (.int .i64 0), (.int .i64 0), (.int .i64 0)], 4, true⟩)
    ((callP Try.prog keepT n) Y 60 [(.agg [(.int .i64 0), (.int .i64 0), (.int .i64 0), (.int .i64 0)]), (.slice x0a x0n x0c)] h1 (nx + 9)).bind fun r2 =>
    (asTup 2 r2.1).bind fun d3 =>
    (asAgg 4 (d3.getD 0 .bad)).bind fun d4 =>
    (asI .i64 (d4.getD 0 .bad)).bind fun n5 =>
    (asI .i64 (d4.getD 1 .bad)).bind fun n6 =>
    (asI .i64 (d4.getD 2 .bad)).bind fun n7 =>
    (asI .i64 (d4.getD 3 .bad)).bind fun n8 =>
    (asI .i64 (d3.getD 1 .bad)).bind fun n9 =>
    (stA r2.2.1 nx 0 (.agg [(.int .i64 n5), (.int .i64 n6), (.int .i64 n7), (.int .i64 n8)]) 4).bind fun b10 =>
    let h11 := AHeap.put r2.2.1 nx (some b10)
    (ldR h11 nx 0 4).bind fun l12 =>
    (asAgg 4 (AV.agg l12)).bind fun d13 =>
    (asI .i64 (d13.getD 0 .bad)).bind fun n14 =>
    (asI .i64 (d13.getD 1 .bad)).bind fun n15 =>
    (asI .i64 (d13.getD 2 .bad)).bind fun n16 =>
    (asI .i64 (d13.getD 3 .bad)).bind fun n17 =>
    some ((.tuple [(.agg [(.int .i64 n14), (.int .i64 n15), (.int .i64 n16), (.int .i64 n17)]), (.int .i64 n9)]), h11, r2.2.2) := by kernel_rfl

/-- quickset/flet.Of -/
theorem F42_eq (n : Nat) (Y : YldF) (x0a : Option (Nat × Nat)) (x0n : Nat) (x0c : Bool) (h : AHeap) (nx : Nat) : callP Try.prog keepT (n + 1) Y 42 [(.slice x0a x0n x0c)] h nx =
    let h1 := AHeap.put h nx (some ⟨[(.int .i64 0), (.int .i64 0), (.int .i64 0), (.int .i64 0)], 4, true⟩)
    ((callP Try.prog keepT n) Y 60 [(.agg [(.int .i64 0), (.int .i64 0), (.int .i64 0), (.int .i64 0)]), (.slice x0a x0n x0c)] h1 (nx + 9)).bind fun r2 =>
    (asTup 2 r2.1).bind fun d3 =>
    (asAgg 4 (d3.getD 0 .bad)).bind fun d4 =>
    (asI .i64 (d4.getD 0 .bad)).bind fun n5 =>
    (asI .i64 (d4.getD 1 .bad)).bind fun n6 =>
    (asI .i64 (d4.getD 2 .bad)).bind fun n7 =>
    (asI .i64 (d4.getD 3 .bad)).bind fun n8 =>
    (asI .i64 (d3.getD 1 .bad)).bind fun n9 =>
    (stA r2.2.1 nx 0 (.agg [(.int .i64 n5), (.int .i64 n6), (.int .i64 n7), (.int .i64 n8)]) 4).bind fun b10 =>
    let h11 := AHeap.put r2.2.1 nx (some b10)
    (ldR h11 nx 0 4).bind fun l12 =>
    (asAgg 4 (AV.agg l12)).bind fun d13 =>
    (asI .i64 (d13.getD 0 .bad)).bind fun n14 =>
    (asI .i64 (d13.getD 1 .bad)).bind fun n15 =>
    (asI .i64 (d13.getD 2 .bad)).bind fun n16 =>
    (asI .i64 (d13.getD 3 .bad)).bind fun n17 =>
    some ((.tuple [(.agg [(.int .i64 n14), (.int .i64 n15), (.int .i64 n16), (.int .i64 n17)]), (.int .i64 n9)]), h11, r2.2.2) := F42_eq' go1 n Y x0a x0n x0c h nx

noncomputable def c43 : Code := (Try.f43.body).getD .skip

noncomputable def r43 : List ResultVar := Try.f43.results.toList

noncomputable def F43_L1' (W J : StepF (AV × AHeap × Nat) → StepF (AV × AHeap × Nat)) (call : YldF → CallF) (Y : YldF) (lf : Nat) (n0 : Nat) (x0 : Option (Nat × Nat)) (x1 : Int) (x5 : Int) (x6 : Int) (h : AHeap) (nx : Nat) : Option (AV × AHeap × Nat) :=
  goK W J drawK (machOf Try.prog) call Y (keepT 43) lf c43 [1, 1, 0, 1, 0, 9] [n0] (retK (machOf Try.prog) ⟨c43, 31, r43, keepT 43⟩) ⟨31, mkL [(0, (.ptr x0)), (1, (.int .i64 x1)), (5, (.int .i64 x5)), (6, (.int .i64 x6))]⟩ h nx

noncomputable def F43_L1 (call : YldF → CallF) (Y : YldF) (lf : Nat) (n0 : Nat) (x0 : Option (Nat × Nat)) (x1 : Int) (x5 : Int) (x6 : Int) (h : AHeap) (nx : Nat) : Option (AV × AHeap × Nat) := F43_L1' go1 go1 call Y lf n0 x0 x1 x5 x6 h nx

theorem F43_L1_eq' (J : StepF (AV × AHeap × Nat) → StepF (AV × AHeap × Nat)) (call : YldF → CallF) (Y : YldF) (lf : Nat) (n0 : Nat) (x0 : Option (Nat × Nat)) (x1 : Int) (x5 : Int) (x6 : Int) (h : AHeap) (nx : Nat) : F43_L1' go1 J call Y lf (n0 + 1) x0 x1 x5 x6 h nx =
    if (decide ((x6 : Int) ≥ 0)) = true then
    ((x0).bind fun p1 =>
    (ldA h p1.1 p1.2).bind fun v2 =>
    (asSl v2).bind fun s3 =>
    (s3.1).bind fun p4 =>
    if 0 ≤ (x6 : Int) ∧ x6 < ((s3.2.1 : Nat) : Int) then
    ((ldA h p4.1 (p4.2 + Int.toNat x6 * 1)).bind fun v5 =>
    (asI .u8 v5).bind fun n6 =>
    F43_L1' J J call Y lf n0 x0 x1 (bits .or .i64 (wrapA .i64 (x5 * (2:Int) ^ min (Int.toNat 8) (IntKind.bits .i64))) (wrapA .i64 n6)) (wrapA .i64 (x6 - 1)) h (nx + 16))
    else none)
    else
    ((x0).bind fun p7 =>
    (ldA h p7.1 p7.2).bind fun v8 =>
    (asSl v8).bind fun s9 =>
    (cutA h s9.1 s9.2.1 s9.2.2 1 (some (.int .i64 x1)) none none).bind fun s10 =>
    (x0).bind fun p11 =>
    (stA h p11.1 p11.2 (.slice s10.1 s10.2.1 s10.2.2) 1).bind fun b12 =>
    let h13 := AHeap.put h p11.1 (some b12)
    some ((.int .i64 x5), h13, (nx + 12))) := by kernel_rfl

theorem F43_L1_eq (call : YldF → CallF) (Y : YldF) (lf : Nat) (n0 : Nat) (x0 : Option (Nat × Nat)) (x1 : Int) (x5 : Int) (x6 : Int) (h : AHeap) (nx : Nat) : F43_L1 call Y lf (n0 + 1) x0 x1 x5 x6 h nx =
    if (decide ((x6 : Int) ≥ 0)) = true then
    ((x0).bind fun p1 =>
    (ldA h p1.1 p1.2).bind fun v2 =>
    (asSl v2).bind fun s3 =>
    (s3.1).bind fun p4 =>
    if 0 ≤ (x6 : Int) ∧ x6 < ((s3.2.1 : Nat) : Int) then
    ((ldA h p4.1 (p4.2 + Int.toNat x6 * 1)).bind fun v5 =>
    (asI .u8 v5).bind fun n6 =>
    F43_L1 call Y lf n0 x0 x1 (bits .or .i64 (wrapA .i64 (x5 * (2:Int) ^ min (Int.toNat 8) (IntKind.bits .i64))) (wrapA .i64 n6)) (wrapA .i64 (x6 - 1)) h (nx + 16))
    else none)
    else
    ((x0).bind fun p7 =>
    (ldA h p7.1 p7.2).bind fun v8 =>
    (asSl v8).bind fun s9 =>
    (cutA h s9.1 s9.2.1 s9.2.2 1 (some (.int .i64 x1)) none none).bind fun s10 =>
    (x0).bind fun p11 =>
    (stA h p11.1 p11.2 (.slice s10.1 s10.2.1 s10.2.2) 1).bind fun b12 =>
    let h13 := AHeap.put h p11.1 (some b12)
    some ((.int .i64 x5), h13, (nx + 12))) := F43_L1_eq' go1 call Y lf n0 x0 x1 x5 x6 h nx

theorem F43_L1_zero (call : YldF → CallF) (Y : YldF) (lf : Nat) (x0 : Option (Nat × Nat)) (x1 : Int) (x5 : Int) (x6 : Int) (h : AHeap) (nx : Nat) : F43_L1 call Y lf 0 x0 x1 x5 x6 h nx = none := by kernel_rfl

theorem F43_eq' (J : StepF (AV × AHeap × Nat) → StepF (AV × AHeap × Nat)) (n : Nat) (Y : YldF) (x0 : Option (Nat × Nat)) (x1 : Int) (h : AHeap) (nx : Nat) : rootJ J Try.prog keepT (callP Try.prog keepT n) Y n 43 [(.ptr x0), (.int .i64 x1)] h nx =
    F43_L1' J J (callP Try.prog keepT n) Y n n x0 x1 0 (wrapA .i64 (x1 - 1)) h (nx + 5) := by kernel_rfl

/-- (*quickset/label.reader).number -/
theorem F43_eq (n : Nat) (Y : YldF) (x0 : Option (Nat × Nat)) (x1 : Int) (h : AHeap) (nx : Nat) : callP Try.prog keepT (n + 1) Y 43 [(.ptr x0), (.int .i64 x1)] h nx =
    F43_L1 (callP Try.prog keepT n) Y n n x0 x1 0 (wrapA .i64 (x1 - 1)) h (nx + 5) := F43_eq' go1 n Y x0 x1 h nx

noncomputable def c44 : Code := (Try.f44.body).getD .skip

noncomputable def r44 : List ResultVar := Try.f44.results.toList

noncomputable def F44_L1' (W J : StepF (AV × AHeap × Nat) → StepF (AV × AHeap × Nat)) (call : YldF → CallF) (Y : YldF) (lf : Nat) (n0 : Nat) (x0a : Option (Nat × Nat)) (x0n : Nat) (x0c : Bool) (x1a : Option (Nat × Nat)) (x1n : Nat) (x1c : Bool) (x12 : Int) (x13 : Int) (h : AHeap) (nx : Nat) : Option (AV × AHeap × Nat) :=
  goK W J drawK (machOf Try.prog) call Y (keepT 44) lf c44 [1, 1, 0, 1, 0, 9] [n0] (retK (machOf Try.prog) ⟨c44, 26, r44, keepT 44⟩) ⟨26, mkL [(0, (.slice x0a x0n x0c)), (1, (.slice x1a x1n x1c)), (12, (.int .i64 x12)), (13, (.int .i64 x13))]⟩ h nx

noncomputable def F44_L1 (call : YldF → CallF) (Y : YldF) (lf : Nat) (n0 : Nat) (x0a : Option (Nat × Nat)) (x0n : Nat) (x0c : Bool) (x1a : Option (Nat × Nat)) (x1n : Nat) (x1c : Bool) (x12 : Int) (x13 : Int) (h : AHeap) (nx : Nat) : Option (AV × AHeap × Nat) := F44_L1' go1 go1 call Y lf n0 x0a x0n x0c x1a x1n x1c x12 x13 h nx

theorem F44_L1_eq' (J : StepF (AV × AHeap × Nat) → StepF (AV × AHeap × Nat)) (call : YldF → CallF) (Y : YldF) (lf : Nat) (n0 : Nat) (x0a : Option (Nat × Nat)) (x0n : Nat) (x0c : Bool) (x1a : Option (Nat × Nat)) (x1n : Nat) (x1c : Bool) (x12 : Int) (x13 : Int) (h : AHeap) (nx : Nat) : F44_L1' go1 J call Y lf (n0 + 1) x0a x0n x0c x1a x1n x1c x12 x13 h nx =
    if (decide ((x13 : Int) < x12)) = true then
    ((x0a).bind fun p1 =>
    if 0 ≤ (x13 : Int) ∧ x13 < ((x0n : Nat) : Int) then
    ((ldA h p1.1 (p1.2 + Int.toNat x13 * 1)).bind fun v2 =>
    (asI .u8 v2).bind fun n3 =>
    (x1a).bind fun p4 =>
    if 0 ≤ (x13 : Int) ∧ x13 < ((x1n : Nat) : Int) then
    ((ldA h p4.1 (p4.2 + Int.toNat x13 * 1)).bind fun v5 =>
    (asI .u8 v5).bind fun n6 =>
    if ((n3 : Int) != n6) = true then
    (some ((.bool false), h, (nx + 13)))
    else
    (F44_L1' J J call Y lf n0 x0a x0n x0c x1a x1n x1c x12 (wrapA .i64 (x13 + 1)) h (nx + 14)))
    else none)
    else none)
    else
    (some ((.bool true), h, (nx + 2))) := by kernel_rfl

theorem F44_L1_eq (call : YldF → CallF) (Y : YldF) (lf : Nat) (n0 : Nat) (x0a : Option (Nat × Nat)) (x0n : Nat) (x0c : Bool) (x1a : Option (Nat × Nat)) (x1n : Nat) (x1c : Bool) (x12 : Int) (x13 : Int) (h : AHeap) (nx : Nat) : F44_L1 call Y lf (n0 + 1) x0a x0n x0c x1a x1n x1c x12 x13 h nx =
    if (decide ((x13 : Int) < x12)) = true then
    ((x0a).bind fun p1 =>
    if 0 ≤ (x13 : Int) ∧ x13 < ((x0n : Nat) : Int) then
    ((ldA h p1.1 (p1.2 + Int.toNat x13 * 1)).bind fun v2 =>
    (asI .u8 v2).bind fun n3 =>
    (x1a).bind fun p4 =>
    if 0 ≤ (x13 : Int) ∧ x13 < ((x1n : Nat) : Int) then
    ((ldA h p4.1 (p4.2 + Int.toNat x13 * 1)).bind fun v5 =>
    (asI .u8 v5).bind fun n6 =>
    if ((n3 : Int) != n6) = true then
    (some ((.bool false), h, (nx + 13)))
    else
    (F44_L1 call Y lf n0 x0a x0n x0c x1a x1n x1c x12 (wrapA .i64 (x13 + 1)) h (nx + 14)))
    else none)
    else none)
    else
    (some ((.bool true), h, (nx + 2))) := F44_L1_eq' go1 call Y lf n0 x0a x0n x0c x1a x1n x1c x12 x13 h nx

theorem F44_L1_zero (call : YldF → CallF) (Y : YldF) (lf : Nat) (x0a : Option (Nat × Nat)) (x0n : Nat) (x0c : Bool) (x1a : Option (Nat × Nat)) (x1n : Nat) (x1c : Bool) (x12 : Int) (x13 : Int) (h : AHeap) (nx : Nat) : F44_L1 call Y lf 0 x0a x0n x0c x1a x1n x1c x12 x13 h nx = none := by kernel_rfl

theorem F44_eq' (J : StepF (AV × AHeap × Nat) → StepF (AV × AHeap × Nat)) (n : Nat) (Y : YldF) (x0a : Option (Nat × Nat)) (x0n : Nat) (x0c : Bool) (x1a : Option (Nat × Nat)) (x1n : Nat) (x1c : Bool) (h : AHeap) (nx : Nat) : rootJ J Try.prog keepT (callP Try.prog keepT n) Y n 44 [(.slice x0a x0n x0c), (.slice x1a x1n x1c)] h nx =
    if ((((x0n : Nat) : Int) : Int) != ((x1n : Nat) : Int)) = true then
    (some ((.bool false), h, (nx + 7)))
    else
    (F44_L1' J J (callP Try.prog keepT n) Y n n x0a x0n x0c x1a x1n x1c ((x0n : Nat) : Int) 0 h (nx + 9)) := by kernel_rfl

/-- slices.Equal[[]byte,byte] -/
theorem F44_eq (n : Nat) (Y : YldF) (x0a : Option (Nat × Nat)) (x0n : Nat) (x0c : Bool) (x1a : Option (Nat × Nat)) (x1n : Nat) (x1c : Bool) (h : AHeap) (nx : Nat) : callP Try.prog keepT (n + 1) Y 44 [(.slice x0a x0n x0c), (.slice x1a x1n x1c)] h nx =
    if ((((x0n : Nat) : Int) : Int) != ((x1n : Nat) : Int)) = true then
    (some ((.bool false), h, (nx + 7)))
    else
    (F44_L1 (callP Try.prog keepT n) Y n n x0a x0n x0c x1a x1n x1c ((x0n : Nat) : Int) 0 h (nx + 9)) := F44_eq' go1 n Y x0a x0n x0c x1a x1n x1c h nx

noncomputable def c45 : Code := (Try.f45.body).getD .skip

noncomputable def r45 : List ResultVar := Try.f45.results.toList

theorem F45_eq' (J : StepF (AV × AHeap × Nat) → StepF (AV × AHeap × Nat)) (n : Nat) (Y : YldF) (x0 : Int) (x1 : Int) (x2 : Int) (h : AHeap) (nx : Nat) : rootJ J Try.prog keepT (callP Try.prog keepT n) Y n 45 [(.int .i64 x0), (.int .i64 x1), (.int .i64 x2)] h nx =
    if (decide ((x0 : Int) ≥ x1)) = true then
    (some ((.bool (decide ((x0 : Int) ≤ x2))), h, (nx + 10)))
    else
    (some ((.bool false), h, (nx + 10))) := by kernel_rfl

/-- quickset/label.in -/
theorem F45_eq (n : Nat) (Y : YldF) (x0 : Int) (x1 : Int) (x2 : Int) (h : AHeap) (nx : Nat) : callP Try.prog keepT (n + 1) Y 45 [(.int .i64 x0), (.int .i64 x1), (.int .i64 x2)] h nx =
    if (decide ((x0 : Int) ≥ x1)) = true then
    (some ((.bool (decide ((x0 : Int) ≤ x2))), h, (nx + 10)))
    else
    (some ((.bool false), h, (nx + 10))) := F45_eq' go1 n Y x0 x1 x2 h nx

noncomputable def c46 : Code := (Try.f46.body).getD .skip

noncomputable def r46 : List ResultVar := Try.f46.results.toList

noncomputable def F46_L1' (W J : StepF (AV × AHeap × Nat) → StepF (AV × AHeap × Nat)) (call : YldF → CallF) (Y : YldF) (lf : Nat) (n0 : Nat) (x0 : Int) (x6 : Option (Nat × Nat)) (x22a : Option (Nat × Nat)) (x22n : Nat) (x22c : Bool) (x23 : Int) (x24 : Int) (h : AHeap) (nx : Nat) : Option (AV × AHeap × Nat) :=
  goK W J drawK (machOf Try.prog) call Y (keepT 46) lf c46 [1, 1, 1, 1, 0, 1, 0, 9] [n0] (retK (machOf Try.prog) ⟨c46, 63, r46, keepT 46⟩) ⟨63, mkL [(0, (.int .i64 x0)), (6, (.ptr x6)), (22, (.slice x22a x22n x22c)), (23, (.int .i64 x23)), (24, (.int .i64 x24))]⟩ h nx

noncomputable def F46_L1 (call : YldF → CallF) (Y : YldF) (lf : Nat) (n0 : Nat) (x0 : Int) (x6 : Option (Nat × Nat)) (x22a : Option (Nat × Nat)) (x22n : Nat) (x22c : Bool) (x23 : Int) (x24 : Int) (h : AHeap) (nx : Nat) : Option (AV × AHeap × Nat) := F46_L1' go1 go1 call Y lf n0 x0 x6 x22a x22n x22c x23 x24 h nx

noncomputable def F46_J2' (W J : StepF (AV × AHeap × Nat) → StepF (AV × AHeap × Nat)) (call : YldF → CallF) (Y : YldF) (lf : Nat) (n0 : Nat) (x0 : Int) (x6 : Option (Nat × Nat)) (x8 : Option (Nat × Nat)) (x9 : Int) (x10 : Int) (x22a : Option (Nat × Nat)) (x22n : Nat) (x22c : Bool) (x23 : Int) (x24 : Int) (h : AHeap) (nx : Nat) : Option (AV × AHeap × Nat) :=
  goK W J drawK (machOf Try.prog) call Y (keepT 46) lf c46 [1, 1, 1, 1, 0, 1, 0, 0, 1, 1, 0, 0, 1, 1, 1] [n0] (retK (machOf Try.prog) ⟨c46, 63, r46, keepT 46⟩) ⟨63, mkL [(0, (.int .i64 x0)), (6, (.ptr x6)), (8, (.ptr x8)), (9, (.int .u8 x9)), (10, (.int .u8 x10)), (22, (.slice x22a x22n x22c)), (23, (.int .i64 x23)), (24, (.int .i64 x24))]⟩ h nx

noncomputable def F46_J2 (call : YldF → CallF) (Y : YldF) (lf : Nat) (n0 : Nat) (x0 : Int) (x6 : Option (Nat × Nat)) (x8 : Option (Nat × Nat)) (x9 : Int) (x10 : Int) (x22a : Option (Nat × Nat)) (x22n : Nat) (x22c : Bool) (x23 : Int) (x24 : Int) (h : AHeap) (nx : Nat) : Option (AV × AHeap × Nat) := F46_J2' go1 go1 call Y lf n0 x0 x6 x8 x9 x10 x22a x22n x22c x23 x24 h nx

noncomputable def F46_J3' (W J : StepF (AV × AHeap × Nat) → StepF (AV × AHeap × Nat)) (call : YldF → CallF) (Y : YldF) (lf : Nat) (n0 : Nat) (x0 : Int) (x6 : Option (Nat × Nat)) (x10 : Int) (x11 : Option (Nat × Nat)) (x22a : Option (Nat × Nat)) (x22n : Nat) (x22c : Bool) (x23 : Int) (x24 : Int) (h : AHeap) (nx : Nat) : Option (AV × AHeap × Nat) :=
  goK W J drawK (machOf Try.prog) call Y (keepT 46) lf c46 [1, 1, 1, 1, 0, 1, 0, 0, 1, 1, 0, 0, 1, 1, 1, 1, 1] [n0] (retK (machOf Try.prog) ⟨c46, 63, r46, keepT 46⟩) ⟨63, mkL [(0, (.int .i64 x0)), (6, (.ptr x6)), (10, (.int .u8 x10)), (11, (.ptr x11)), (22, (.slice x22a x22n x22c)), (23, (.int .i64 x23)), (24, (.int .i64 x24))]⟩ h nx

noncomputable def F46_J3 (call : YldF → CallF) (Y : YldF) (lf : Nat) (n0 : Nat) (x0 : Int) (x6 : Option (Nat × Nat)) (x10 : Int) (x11 : Option (Nat × Nat)) (x22a : Option (Nat × Nat)) (x22n : Nat) (x22c : Bool) (x23 : Int) (x24 : Int) (h : AHeap) (nx : Nat) : Option (AV × AHeap × Nat) := F46_J3' go1 go1 call Y lf n0 x0 x6 x10 x11 x22a x22n x22c x23 x24 h nx

theorem F46_L1_eq' (J : StepF (AV × AHeap × Nat) → StepF (AV × AHeap × Nat)) (call : YldF → CallF) (Y : YldF) (lf : Nat) (n0 : Nat) (x0 : Int) (x6 : Option (Nat × Nat)) (x22a : Option (Nat × Nat)) (x22n : Nat) (x22c : Bool) (x23 : Int) (x24 : Int) (h : AHeap) (nx : Nat) : F46_L1' go1 J call Y lf (n0 + 1) x0 x6 x22a x22n x22c x23 x24 h nx =
    if (decide ((x24 : Int) < x23)) = true then
    ((x22a).bind fun p1 =>
    if 0 ≤ (x24 : Int) ∧ x24 < ((x22n : Nat) : Int) then
    ((ldR h p1.1 (p1.2 + Int.toNat x24 * 3) 3).bind fun l2 =>
    (asAgg 3 (AV.agg l2)).bind fun d3 =>
    (asB (d3.getD 0 .bad)).bind fun t4 =>
    (asI .i64 (d3.getD 1 .bad)).bind fun n5 =>
    (asI .i64 (d3.getD 2 .bad)).bind fun n6 =>
    let h7 := AHeap.put h (nx + 3) (some ⟨[(.bool false), (.int .i64 0), (.int .i64 0)], 3, true⟩)
    (stA h7 (nx + 3) 0 (.agg [(.bool t4), (.int .i64 n5), (.int .i64 n6)]) 3).bind fun b8 =>
    let h9 := AHeap.put h7 (nx + 3) (some b8)
    (ldA h9 (nx + 3) 0).bind fun v10 =>
    (asB v10).bind fun t11 =>
    if t11 = true then
    (F46_J2' J J call Y lf n0 x0 x6 (some ((nx + 3), 0)) 1 0 x22a x22n x22c x23 x24 h9 (nx + 13))
    else
    (F46_J2' J J call Y lf n0 x0 x6 (some ((nx + 3), 0)) 0 1 x22a x22n x22c x23 x24 h9 (nx + 9)))
    else none)
    else
    (some ((.tuple [(.ptr x6), (.int .i64 0)]), h, (nx + 4))) := by kernel_rfl

theorem F46_L1_eq (call : YldF → CallF) (Y : YldF) (lf : Nat) (n0 : Nat) (x0 : Int) (x6 : Option (Nat × Nat)) (x22a : Option (Nat × Nat)) (x22n : Nat) (x22c : Bool) (x23 : Int) (x24 : Int) (h : AHeap) (nx : Nat) : F46_L1 call Y lf (n0 + 1) x0 x6 x22a x22n x22c x23 x24 h nx =
    if (decide ((x24 : Int) < x23)) = true then
    ((x22a).bind fun p1 =>
    if 0 ≤ (x24 : Int) ∧ x24 < ((x22n : Nat) : Int) then
    ((ldR h p1.1 (p1.2 + Int.toNat x24 * 3) 3).bind fun l2 =>
    (asAgg 3 (AV.agg l2)).bind fun d3 =>
    (asB (d3.getD 0 .bad)).bind fun t4 =>
    (asI .i64 (d3.getD 1 .bad)).bind fun n5 =>
    (asI .i64 (d3.getD 2 .bad)).bind fun n6 =>
    let h7 := AHeap.put h (nx + 3) (some ⟨[(.bool false), (.int .i64 0), (.int .i64 0)], 3, true⟩)
    (stA h7 (nx + 3) 0 (.agg [(.bool t4), (.int .i64 n5), (.int .i64 n6)]) 3).bind fun b8 =>
    let h9 := AHeap.put h7 (nx + 3) (some b8)
    (ldA h9 (nx + 3) 0).bind fun v10 =>
    (asB v10).bind fun t11 =>
    if t11 = true then
    (F46_J2 call Y lf n0 x0 x6 (some ((nx + 3), 0)) 1 0 x22a x22n x22c x23 x24 h9 (nx + 13))
    else
    (F46_J2 call Y lf n0 x0 x6 (some ((nx + 3), 0)) 0 1 x22a x22n x22c x23 x24 h9 (nx + 9)))
    else none)
    else
    (some ((.tuple [(.ptr x6), (.int .i64 0)]), h, (nx + 4))) := F46_L1_eq' go1 call Y lf n0 x0 x6 x22a x22n x22c x23 x24 h nx

theorem F46_L1_zero (call : YldF → CallF) (Y : YldF) (lf : Nat) (x0 : Int) (x6 : Option (Nat × Nat)) (x22a : Option (Nat × Nat)) (x22n : Nat) (x22c : Bool) (x23 : Int) (x24 : Int) (h : AHeap) (nx : Nat) : F46_L1 call Y lf 0 x0 x6 x22a x22n x22c x23 x24 h nx = none := by kernel_rfl

theorem F46_J2_eq' (J : StepF (AV × AHeap × Nat) → StepF (AV × AHeap × Nat)) (call : YldF → CallF) (Y : YldF) (lf : Nat) (n0 : Nat) (x0 : Int) (x6 : Option (Nat × Nat)) (x8 : Option (Nat × Nat)) (x9 : Int) (x10 : Int) (x22a : Option (Nat × Nat)) (x22n : Nat) (x22c : Bool) (x23 : Int) (x24 : Int) (h : AHeap) (nx : Nat) : F46_J2' go1 J call Y lf n0 x0 x6 x8 x9 x10 x22a x22n x22c x23 x24 h nx =
    (x8).bind fun p1 =>
    (ldR h p1.1 (p1.2 + 1) 2).bind fun l2 =>
    (asAgg 2 (AV.agg l2)).bind fun d3 =>
    (asI .i64 (d3.getD 0 .bad)).bind fun n4 =>
    (asI .i64 (d3.getD 1 .bad)).bind fun n5 =>
    let h6 := AHeap.put h (nx + 2) (some ⟨[(.int .i64 0), (.int .i64 0)], 2, true⟩)
    (stA h6 (nx + 2) 0 (.agg [(.int .i64 n4), (.int .i64 n5)]) 2).bind fun b7 =>
    let h8 := AHeap.put h6 (nx + 2) (some b7)
    (ldA h8 (nx + 2) 0).bind fun v9 =>
    (asI .i64 v9).bind fun n10 =>
    if (decide ((n10 : Int) < 0)) = true then
    (some ((.tuple [(.ptr none), (.int .i64 4)]), h8, (nx + 29)))
    else
    ((ldA h8 (nx + 2) 0).bind fun v11 =>
    (asI .i64 v11).bind fun n12 =>
    (ldA h8 (nx + 2) 1).bind fun v13 =>
    (asI .i64 v13).bind fun n14 =>
    if (decide ((n12 : Int) ≥ n14)) = true then
    (some ((.tuple [(.ptr none), (.int .i64 4)]), h8, (nx + 29)))
    else
    ((ldA h8 (nx + 2) 1).bind fun v15 =>
    (asI .i64 v15).bind fun n16 =>
    if (decide ((n16 : Int) > x0)) = true then
    (some ((.tuple [(.ptr none), (.int .i64 4)]), h8, (nx + 29)))
    else
    ((ldR h8 (nx + 2) 0 2).bind fun l17 =>
    (asAgg 2 (AV.agg l17)).bind fun d18 =>
    (asI .i64 (d18.getD 0 .bad)).bind fun n19 =>
    (asI .i64 (d18.getD 1 .bad)).bind fun n20 =>
    (call Y 61 [(.ptr x6), (.agg [(.int .i64 n19), (.int .i64 n20)]), (.int .u8 x9)] h8 (nx + 27)).bind fun r21 =>
    (asB r21.1).bind fun t22 =>
    if (!t22) = true then
    (some ((.tuple [(.ptr none), (.int .i64 4)]), r21.2.1, (r21.2.2 + 2)))
    else
    (F46_J3' J J call Y lf n0 x0 x6 x10 (some ((nx + 2), 0)) x22a x22n x22c x23 x24 r21.2.1 r21.2.2)))) := by kernel_rfl

theorem F46_J2_eq (call : YldF → CallF) (Y : YldF) (lf : Nat) (n0 : Nat) (x0 : Int) (x6 : Option (Nat × Nat)) (x8 : Option (Nat × Nat)) (x9 : Int) (x10 : Int) (x22a : Option (Nat × Nat)) (x22n : Nat) (x22c : Bool) (x23 : Int) (x24 : Int) (h : AHeap) (nx : Nat) : F46_J2 call Y lf n0 x0 x6 x8 x9 x10 x22a x22n x22c x23 x24 h nx =
    (x8).bind fun p1 =>
    (ldR h p1.1 (p1.2 + 1) 2).bind fun l2 =>
    (asAgg 2 (AV.agg l2)).bind fun d3 =>
    (asI .i64 (d3.getD 0 .bad)).bind fun n4 =>
    (asI .i64 (d3.getD 1 .bad)).bind fun n5 =>
    let h6 := AHeap.put h (nx + 2) (some ⟨[(.int .i64 0), (.int .i64 0)], 2, true⟩)
    (stA h6 (nx + 2) 0 (.agg [(.int .i64 n4), (.int .i64 n5)]) 2).bind fun b7 =>
    let h8 := AHeap.put h6 (nx + 2) (some b7)
    (ldA h8 (nx + 2) 0).bind fun v9 =>
    (asI .i64 v9).bind fun n10 =>
    if (decide ((n10 : Int) < 0)) = true then
    (some ((.tuple [(.ptr none), (.int .i64 4)]), h8, (nx + 29)))
    else
    ((ldA h8 (nx + 2) 0).bind fun v11 =>
    (asI .i64 v11).bind fun n12 =>
    (ldA h8 (nx + 2) 1).bind fun v13 =>
    (asI .i64 v13).bind fun n14 =>
    if (decide ((n12 : Int) ≥ n14)) = true then
    (some ((.tuple [(.ptr none), (.int .i64 4)]), h8, (nx + 29)))
    else
    ((ldA h8 (nx + 2) 1).bind fun v15 =>
    (asI .i64 v15).bind fun n16 =>
    if (decide ((n16 : Int) > x0)) = true then
    (some ((.tuple [(.ptr none), (.int .i64 4)]), h8, (nx + 29)))
    else
    ((ldR h8 (nx + 2) 0 2).bind fun l17 =>
    (asAgg 2 (AV.agg l17)).bind fun d18 =>
    (asI .i64 (d18.getD 0 .bad)).bind fun n19 =>
    (asI .i64 (d18.getD 1 .bad)).bind fun n20 =>
    (call Y 61 [(.ptr x6), (.agg [(.int .i64 n19), (.int .i64 n20)]), (.int .u8 x9)] h8 (nx + 27)).bind fun r21 =>
    (asB r21.1).bind fun t22 =>
    if (!t22) = true then
    (some ((.tuple [(.ptr none), (.int .i64 4)]), r21.2.1, (r21.2.2 + 2)))
    else
    (F46_J3 call Y lf n0 x0 x6 x10 (some ((nx + 2), 0)) x22a x22n x22c x23 x24 r21.2.1 r21.2.2)))) := F46_J2_eq' go1 call Y lf n0 x0 x6 x8 x9 x10 x22a x22n x22c x23 x24 h nx

theorem F46_J3_eq' (J : StepF (AV × AHeap × Nat) → StepF (AV × AHeap × Nat)) (call : YldF → CallF) (Y : YldF) (lf : Nat) (n0 : Nat) (x0 : Int) (x6 : Option (Nat × Nat)) (x10 : Int) (x11 : Option (Nat × Nat)) (x22a : Option (Nat × Nat)) (x22n : Nat) (x22c : Bool) (x23 : Int) (x24 : Int) (h : AHeap) (nx : Nat) : F46_J3' go1 J call Y lf n0 x0 x6 x10 x11 x22a x22n x22c x23 x24 h nx =
    (x11).bind fun p1 =>
    (ldR h p1.1 p1.2 2).bind fun l2 =>
    (asAgg 2 (AV.agg l2)).bind fun d3 =>
    (asI .i64 (d3.getD 0 .bad)).bind fun n4 =>
    (asI .i64 (d3.getD 1 .bad)).bind fun n5 =>
    (call Y 62 [(.ptr x6), (.agg [(.int .i64 n4), (.int .i64 n5)]), (.int .u8 x10)] h (nx + 4)).bind fun r6 =>
    (asTup 0 r6.1).bind fun d7 =>
    F46_L1' J J call Y lf n0 x0 x6 x22a x22n x22c x23 (wrapA .i64 (x24 + 1)) r6.2.1 (r6.2.2 + 2) := by kernel_rfl

theorem F46_J3_eq (call : YldF → CallF) (Y : YldF) (lf : Nat) (n0 : Nat) (x0 : Int) (x6 : Option (Nat × Nat)) (x10 : Int) (x11 : Option (Nat × Nat)) (x22a : Option (Nat × Nat)) (x22n : Nat) (x22c : Bool) (x23 : Int) (x24 : Int) (h : AHeap) (nx : Nat) : F46_J3 call Y lf n0 x0 x6 x10 x11 x22a x22n x22c x23 x24 h nx =
    (x11).bind fun p1 =>
    (ldR h p1.1 p1.2 2).bind fun l2 =>
    (asAgg 2 (AV.agg l2)).bind fun d3 =>
    (asI .i64 (d3.getD 0 .bad)).bind fun n4 =>
    (asI .i64 (d3.getD 1 .bad)).bind fun n5 =>
    (call Y 62 [(.ptr x6), (.agg [(.int .i64 n4), (.int .i64 n5)]), (.int .u8 x10)] h (nx + 4)).bind fun r6 =>
    (asTup 0 r6.1).bind fun d7 =>
    F46_L1 call Y lf n0 x0 x6 x22a x22n x22c x23 (wrapA .i64 (x24 + 1)) r6.2.1 (r6.2.2 + 2) := F46_J3_eq' go1 call Y lf n0 x0 x6 x10 x11 x22a x22n x22c x23 x24 h nx

theorem F46_eq' (J : StepF (AV × AHeap × Nat) → StepF (AV × AHeap × Nat)) (n : Nat) (Y : YldF) (x0 : Int) (x1a : Option (Nat × Nat)) (x1n : Nat) (x1c : Bool) (h : AHeap) (nx : Nat) : rootJ J Try.prog keepT (callP Try.prog keepT n) Y n 46 [(.int .i64 x0), (.slice x1a x1n x1c)] h nx =
    ((callP Try.prog keepT n) Y 35 [(.int .i64 x0)] h (nx + 5)).bind fun r1 =>
    (asB r1.1).bind fun t2 =>
    if (!t2) = true then
    (some ((.tuple [(.ptr none), (.int .i64 2)]), r1.2.1, (r1.2.2 + 2)))
    else
    (if (decide ((((x1n : Nat) : Int) : Int) > 4096)) = true then
    (some ((.tuple [(.ptr none), (.int .i64 1)]), r1.2.1, (r1.2.2 + 5)))
    else
    (if (decide (0 ≤ (x0 : Int)) && decide ((x0 : Int) ≤ x0) && decide (((1 : Nat) : Int) * x0 ≤ 281474976710656) && decide ((x0 : Int) ≤ 9223372036854775807) && 1 != 0) = true then
    (let h3 := AHeap.put r1.2.1 (r1.2.2 + 4) (some ⟨(madeA [(.int .u8 0)] (Int.toNat x0 * 1)), 1, true⟩)
    let h4 := AHeap.put h3 (r1.2.2 + 6) (some ⟨[(.slice (some ((r1.2.2 + 4), 0)) (Int.toNat x0) (x0 == x0)), (.int .i64 0), (.slice none 0 false)], 3, true⟩)
    F46_L1' J J (callP Try.prog keepT n) Y n n x0 (some ((r1.2.2 + 6), 0)) x1a x1n x1c ((x1n : Nat) : Int) 0 h4 (r1.2.2 + 11))
    else none)) := by kernel_rfl

/-- quickset/space.replayed -/
theorem F46_eq (n : Nat) (Y : YldF) (x0 : Int) (x1a : Option (Nat × Nat)) (x1n : Nat) (x1c : Bool) (h : AHeap) (nx : Nat) : callP Try.prog keepT (n + 1) Y 46 [(.int .i64 x0), (.slice x1a x1n x1c)] h nx =
    ((callP Try.prog keepT n) Y 35 [(.int .i64 x0)] h (nx + 5)).bind fun r1 =>
    (asB r1.1).bind fun t2 =>
    if (!t2) = true then
    (some ((.tuple [(.ptr none), (.int .i64 2)]), r1.2.1, (r1.2.2 + 2)))
    else
    (if (decide ((((x1n : Nat) : Int) : Int) > 4096)) = true then
    (some ((.tuple [(.ptr none), (.int .i64 1)]), r1.2.1, (r1.2.2 + 5)))
    else
    (if (decide (0 ≤ (x0 : Int)) && decide ((x0 : Int) ≤ x0) && decide (((1 : Nat) : Int) * x0 ≤ 281474976710656) && decide ((x0 : Int) ≤ 9223372036854775807) && 1 != 0) = true then
    (let h3 := AHeap.put r1.2.1 (r1.2.2 + 4) (some ⟨(madeA [(.int .u8 0)] (Int.toNat x0 * 1)), 1, true⟩)
    let h4 := AHeap.put h3 (r1.2.2 + 6) (some ⟨[(.slice (some ((r1.2.2 + 4), 0)) (Int.toNat x0) (x0 == x0)), (.int .i64 0), (.slice none 0 false)], 3, true⟩)
    F46_L1 (callP Try.prog keepT n) Y n n x0 (some ((r1.2.2 + 6), 0)) x1a x1n x1c ((x1n : Nat) : Int) 0 h4 (r1.2.2 + 11))
    else none)) := F46_eq' go1 n Y x0 x1a x1n x1c h nx

noncomputable def c47 : Code := (Try.f47.body).getD .skip

noncomputable def r47 : List ResultVar := Try.f47.results.toList

noncomputable def F47_L1' (W J : StepF (AV × AHeap × Nat) → StepF (AV × AHeap × Nat)) (call : YldF → CallF) (Y : YldF) (lf : Nat) (n0 : Nat) (x0 : Option (Nat × Nat)) (x1 : AV) (x5a : Option (Nat × Nat)) (x5n : Nat) (x5c : Bool) (x6 : Int) (x7 : Int) (h : AHeap) (nx : Nat) : Option (AV × AHeap × Nat) :=
  goK W J drawK (machOf Try.prog) call Y (keepT 47) lf c47 [1, 1, 1, 0, 1, 0, 9] [n0] (retK (machOf Try.prog) ⟨c47, 57, r47, keepT 47⟩) ⟨57, mkL [(0, (.ptr x0)), (1, x1), (5, (.slice x5a x5n x5c)), (6, (.int .i64 x6)), (7, (.int .i64 x7))]⟩ h nx

noncomputable def F47_L1 (call : YldF → CallF) (Y : YldF) (lf : Nat) (n0 : Nat) (x0 : Option (Nat × Nat)) (x1 : AV) (x5a : Option (Nat × Nat)) (x5n : Nat) (x5c : Bool) (x6 : Int) (x7 : Int) (h : AHeap) (nx : Nat) : Option (AV × AHeap × Nat) := F47_L1' go1 go1 call Y lf n0 x0 x1 x5a x5n x5c x6 x7 h nx

noncomputable def F47_J2' (W J : StepF (AV × AHeap × Nat) → StepF (AV × AHeap × Nat)) (call : YldF → CallF) (Y : YldF) (lf : Nat) (n0 : Nat) (x0 : Option (Nat × Nat)) (x1 : AV) (x5a : Option (Nat × Nat)) (x5n : Nat) (x5c : Bool) (x6 : Int) (x7 : Int) (x8 : Bool) (h : AHeap) (nx : Nat) : Option (AV × AHeap × Nat) :=
  goK W J drawK (machOf Try.prog) call Y (keepT 47) lf c47 [1, 1, 1, 0, 1, 0, 0, 1, 0, 0, 1] [n0] (retK (machOf Try.prog) ⟨c47, 57, r47, keepT 47⟩) ⟨57, mkL [(0, (.ptr x0)), (1, x1), (5, (.slice x5a x5n x5c)), (6, (.int .i64 x6)), (7, (.int .i64 x7)), (8, (.bool x8))]⟩ h nx

noncomputable def F47_J2 (call : YldF → CallF) (Y : YldF) (lf : Nat) (n0 : Nat) (x0 : Option (Nat × Nat)) (x1 : AV) (x5a : Option (Nat × Nat)) (x5n : Nat) (x5c : Bool) (x6 : Int) (x7 : Int) (x8 : Bool) (h : AHeap) (nx : Nat) : Option (AV × AHeap × Nat) := F47_J2' go1 go1 call Y lf n0 x0 x1 x5a x5n x5c x6 x7 x8 h nx

theorem F47_L1_eq' (J : StepF (AV × AHeap × Nat) → StepF (AV × AHeap × Nat)) (call : YldF → CallF) (Y : YldF) (lf : Nat) (n0 : Nat) (x0 : Option (Nat × Nat)) (x1 : AV) (x5a : Option (Nat × Nat)) (x5n : Nat) (x5c : Bool) (x6 : Int) (x7 : Int) (h : AHeap) (nx : Nat) : F47_L1' go1 J call Y lf (n0 + 1) x0 x1 x5a x5n x5c x6 x7 h nx =
    (x0).bind fun p1 =>
    (ldA h p1.1 p1.2).bind fun v2 =>
    (asSl v2).bind fun s3 =>
    if (decide ((x7 : Int) ≤ ((s3.2.1 : Nat) : Int))) = true then
    ((x0).bind fun p4 =>
    (ldA h p4.1 p4.2).bind fun v5 =>
    (asSl v5).bind fun s6 =>
    if (decide ((x7 : Int) < ((s6.2.1 : Nat) : Int))) = true then
    ((x0).bind fun p7 =>
    (ldA h p7.1 p7.2).bind fun v8 =>
    (asSl v8).bind fun s9 =>
    (s9.1).bind fun p10 =>
    if 0 ≤ (x7 : Int) ∧ x7 < ((s9.2.1 : Nat) : Int) then
    ((ldA h p10.1 (p10.2 + Int.toNat x7 * 1)).bind fun v11 =>
    (asI .u8 v11).bind fun n12 =>
    (asCal x1).bind fun q14 =>
    (callC (call Y) Y q14.1 (q14.2.1 ++ [(.int .u8 n12)] ++ q14.2.2) h (nx + 26)).bind fun r13 =>
    (asB r13.1).bind fun t15 =>
    F47_J2' J J call Y lf n0 x0 (x1) x5a x5n x5c x6 x7 t15 r13.2.1 r13.2.2)
    else none)
    else
    (F47_J2' J J call Y lf n0 x0 (x1) x5a x5n x5c x6 x7 false h (nx + 26)))
    else
    (some ((.slice x5a x5n x5c), h, (nx + 9))) := by kernel_rfl

theorem F47_L1_eq (call : YldF → CallF) (Y : YldF) (lf : Nat) (n0 : Nat) (x0 : Option (Nat × Nat)) (x1 : AV) (x5a : Option (Nat × Nat)) (x5n : Nat) (x5c : Bool) (x6 : Int) (x7 : Int) (h : AHeap) (nx : Nat) : F47_L1 call Y lf (n0 + 1) x0 x1 x5a x5n x5c x6 x7 h nx =
    (x0).bind fun p1 =>
    (ldA h p1.1 p1.2).bind fun v2 =>
    (asSl v2).bind fun s3 =>
    if (decide ((x7 : Int) ≤ ((s3.2.1 : Nat) : Int))) = true then
    ((x0).bind fun p4 =>
    (ldA h p4.1 p4.2).bind fun v5 =>
    (asSl v5).bind fun s6 =>
    if (decide ((x7 : Int) < ((s6.2.1 : Nat) : Int))) = true then
    ((x0).bind fun p7 =>
    (ldA h p7.1 p7.2).bind fun v8 =>
    (asSl v8).bind fun s9 =>
    (s9.1).bind fun p10 =>
    if 0 ≤ (x7 : Int) ∧ x7 < ((s9.2.1 : Nat) : Int) then
    ((ldA h p10.1 (p10.2 + Int.toNat x7 * 1)).bind fun v11 =>
    (asI .u8 v11).bind fun n12 =>
    (asCal x1).bind fun q14 =>
    (callC (call Y) Y q14.1 (q14.2.1 ++ [(.int .u8 n12)] ++ q14.2.2) h (nx + 26)).bind fun r13 =>
    (asB r13.1).bind fun t15 =>
    F47_J2 call Y lf n0 x0 (x1) x5a x5n x5c x6 x7 t15 r13.2.1 r13.2.2)
    else none)
    else
    (F47_J2 call Y lf n0 x0 (x1) x5a x5n x5c x6 x7 false h (nx + 26)))
    else
    (some ((.slice x5a x5n x5c), h, (nx + 9))) := F47_L1_eq' go1 call Y lf n0 x0 x1 x5a x5n x5c x6 x7 h nx

theorem F47_L1_zero (call : YldF → CallF) (Y : YldF) (lf : Nat) (x0 : Option (Nat × Nat)) (x1 : AV) (x5a : Option (Nat × Nat)) (x5n : Nat) (x5c : Bool) (x6 : Int) (x7 : Int) (h : AHeap) (nx : Nat) : F47_L1 call Y lf 0 x0 x1 x5a x5n x5c x6 x7 h nx = none := by kernel_rfl

theorem F47_J2_eq' (J : StepF (AV × AHeap × Nat) → StepF (AV × AHeap × Nat)) (call : YldF → CallF) (Y : YldF) (lf : Nat) (n0 : Nat) (x0 : Option (Nat × Nat)) (x1 : AV) (x5a : Option (Nat × Nat)) (x5n : Nat) (x5c : Bool) (x6 : Int) (x7 : Int) (x8 : Bool) (h : AHeap) (nx : Nat) : F47_J2' go1 J call Y lf n0 x0 x1 x5a x5n x5c x6 x7 x8 h nx =
    if x8 = true then
    (if (decide ((x6 : Int) < 0)) = true then
    (F47_L1' J J call Y lf n0 x0 (x1) x5a x5n x5c x7 (wrapA .i64 (x7 + 1)) h (nx + 11))
    else
    (if (!x8) = true then
    (if (decide ((x6 : Int) ≥ 0)) = true then
    (let h1 := AHeap.put h (nx + 17) (some ⟨[(.int .i64 x6), (.int .i64 x7)], 2, true⟩)
    (srcS h1 (some ((nx + 17), 0)) 1 2).bind fun q2 =>
    (appD h1 x5a x5n x5c 2 16 (nx + 18) q2).bind fun e3 =>
    let h4 := AHeap.puts h1 e3.sets
    F47_L1' J J call Y lf n0 x0 (x1) e3.a e3.n e3.c (-1) (wrapA .i64 (x7 + 1)) h4 (nx + 24))
    else
    (F47_L1' J J call Y lf n0 x0 (x1) x5a x5n x5c x6 (wrapA .i64 (x7 + 1)) h (nx + 16)))
    else
    (F47_L1' J J call Y lf n0 x0 (x1) x5a x5n x5c x6 (wrapA .i64 (x7 + 1)) h (nx + 16))))
    else
    (if (!x8) = true then
    (if (decide ((x6 : Int) ≥ 0)) = true then
    (let h5 := AHeap.put h (nx + 17) (some ⟨[(.int .i64 x6), (.int .i64 x7)], 2, true⟩)
    (srcS h5 (some ((nx + 17), 0)) 1 2).bind fun q6 =>
    (appD h5 x5a x5n x5c 2 16 (nx + 18) q6).bind fun e7 =>
    let h8 := AHeap.puts h5 e7.sets
    F47_L1' J J call Y lf n0 x0 (x1) e7.a e7.n e7.c (-1) (wrapA .i64 (x7 + 1)) h8 (nx + 24))
    else
    (F47_L1' J J call Y lf n0 x0 (x1) x5a x5n x5c x6 (wrapA .i64 (x7 + 1)) h (nx + 16)))
    else
    (F47_L1' J J call Y lf n0 x0 (x1) x5a x5n x5c x6 (wrapA .i64 (x7 + 1)) h (nx + 16))) := by kernel_rfl

theorem F47_J2_eq (call : YldF → CallF) (Y : YldF) (lf : Nat) (n0 : Nat) (x0 : Option (Nat × Nat)) (x1 : AV) (x5a : Option (Nat × Nat)) (x5n : Nat) (x5c : Bool) (x6 : Int) (x7 : Int) (x8 : Bool) (h : AHeap) (nx : Nat) : F47_J2 call Y lf n0 x0 x1 x5a x5n x5c x6 x7 x8 h nx =
    if x8 = true then
    (if (decide ((x6 : Int) < 0)) = true then
    (F47_L1 call Y lf n0 x0 (x1) x5a x5n x5c x7 (wrapA .i64 (x7 + 1)) h (nx + 11))
    else
    (if (!x8) = true then
    (if (decide ((x6 : Int) ≥ 0)) = true then
    (let h1 := AHeap.put h (nx + 17) (some ⟨[(.int .i64 x6), (.int .i64 x7)], 2, true⟩)
    (srcS h1 (some ((nx + 17), 0)) 1 2).bind fun q2 =>
    (appD h1 x5a x5n x5c 2 16 (nx + 18) q2).bind fun e3 =>
    let h4 := AHeap.puts h1 e3.sets
    F47_L1 call Y lf n0 x0 (x1) e3.a e3.n e3.c (-1) (wrapA .i64 (x7 + 1)) h4 (nx + 24))
    else
    (F47_L1 call Y lf n0 x0 (x1) x5a x5n x5c x6 (wrapA .i64 (x7 + 1)) h (nx + 16)))
    else
    (F47_L1 call Y lf n0 x0 (x1) x5a x5n x5c x6 (wrapA .i64 (x7 + 1)) h (nx + 16))))
    else
    (if (!x8) = true then
    (if (decide ((x6 : Int) ≥ 0)) = true then
    (let h5 := AHeap.put h (nx + 17) (some ⟨[(.int .i64 x6), (.int .i64 x7)], 2, true⟩)
    (srcS h5 (some ((nx + 17), 0)) 1 2).bind fun q6 =>
    (appD h5 x5a x5n x5c 2 16 (nx + 18) q6).bind fun e7 =>
    let h8 := AHeap.puts h5 e7.sets
    F47_L1 call Y lf n0 x0 (x1) e7.a e7.n e7.c (-1) (wrapA .i64 (x7 + 1)) h8 (nx + 24))
    else
    (F47_L1 call Y lf n0 x0 (x1) x5a x5n x5c x6 (wrapA .i64 (x7 + 1)) h (nx + 16)))
    else
    (F47_L1 call Y lf n0 x0 (x1) x5a x5n x5c x6 (wrapA .i64 (x7 + 1)) h (nx + 16))) := F47_J2_eq' go1 call Y lf n0 x0 x1 x5a x5n x5c x6 x7 x8 h nx

theorem F47_eq' (J : StepF (AV × AHeap × Nat) → StepF (AV × AHeap × Nat)) (n : Nat) (Y : YldF) (x0 : Option (Nat × Nat)) (x1 : AV) (h : AHeap) (nx : Nat) : rootJ J Try.prog keepT (callP Try.prog keepT n) Y n 47 [(.ptr x0), x1] h nx =
    F47_L1' J J (callP Try.prog keepT n) Y n n x0 (x1) none 0 false (-1) 0 h (nx + 4) := by kernel_rfl

/-- (*quickset/space.space).runs -/
theorem F47_eq (n : Nat) (Y : YldF) (x0 : Option (Nat × Nat)) (x1 : AV) (h : AHeap) (nx : Nat) : callP Try.prog keepT (n + 1) Y 47 [(.ptr x0), x1] h nx =
    F47_L1 (callP Try.prog keepT n) Y n n x0 (x1) none 0 false (-1) 0 h (nx + 4) := F47_eq' go1 n Y x0 x1 h nx

noncomputable def c48 : Code := (Try.f48.body).getD .skip

noncomputable def r48 : List ResultVar := Try.f48.results.toList

theorem F48_eq' (J : StepF (AV × AHeap × Nat) → StepF (AV × AHeap × Nat)) (n : Nat) (Y : YldF) (x0 : Int) (h : AHeap) (nx : Nat) : rootJ J Try.prog keepT (callP Try.prog keepT n) Y n 48 [(.int .u8 x0)] h nx =
    some ((.bool ((x0 : Int) == 1)), h, (nx + 4)) := by kernel_rfl

/-- quickset/space.Condense$1 -/
theorem F48_eq (n : Nat) (Y : YldF) (x0 : Int) (h : AHeap) (nx : Nat) : callP Try.prog keepT (n + 1) Y 48 [(.int .u8 x0)] h nx =
    some ((.bool ((x0 : Int) == 1)), h, (nx + 4)) := F48_eq' go1 n Y x0 h nx

noncomputable def c49 : Code := (Try.f49.body).getD .skip

noncomputable def r49 : List ResultVar := Try.f49.results.toList

theorem F49_eq' (J : StepF (AV × AHeap × Nat) → StepF (AV × AHeap × Nat)) (n : Nat) (Y : YldF) (x0 : Int) (h : AHeap) (nx : Nat) : rootJ J Try.prog keepT (callP Try.prog keepT n) Y n 49 [(.int .u8 x0)] h nx =
    some ((.bool ((x0 : Int) == 0)), h, (nx + 4)) := by kernel_rfl

/-- quickset/space.Replay$1 -/
theorem F49_eq (n : Nat) (Y : YldF) (x0 : Int) (h : AHeap) (nx : Nat) : callP Try.prog keepT (n + 1) Y 49 [(.int .u8 x0)] h nx =
    some ((.bool ((x0 : Int) == 0)), h, (nx + 4)) := F49_eq' go1 n Y x0 h nx

noncomputable def c50 : Code := (Try.f50.body).getD .skip

noncomputable def r50 : List ResultVar := Try.f50.results.toList

theorem F50_eq' (J : StepF (AV × AHeap × Nat) → StepF (AV × AHeap × Nat)) (n : Nat) (Y : YldF) (x0_0 : Int) (x0_1 : Int) (h : AHeap) (nx : Nat) : rootJ J Try.prog keepT (callP Try.prog keepT n) Y n 50 [(.agg [(.int .i64 x0_0), (.int .i64 x0_1)])] h nx =
    let h1 := AHeap.put h nx (some ⟨[(.int .i64 x0_0), (.int .i64 x0_1)], 2, true⟩)
    (ldA h1 nx 0).bind fun v2 =>
    (asI .i64 v2).bind fun n3 =>
    if (decide ((n3 : Int) ≥ 0)) = true then
    ((ldA h1 nx 0).bind fun v4 =>
    (asI .i64 v4).bind fun n5 =>
    (ldA h1 nx 1).bind fun v6 =>
    (asI .i64 v6).bind fun n7 =>
    if (decide ((n5 : Int) < n7)) = true then
    ((ldA h1 nx 1).bind fun v8 =>
    (asI .i64 v8).bind fun n9 =>
    some ((.bool (decide ((n9 : Int) ≤ 1048576))), h1, (nx + 18)))
    else
    (some ((.bool false), h1, (nx + 18))))
    else
    (some ((.bool false), h1, (nx + 18))) := by kernel_rfl

/-- quickset/span.one -/
theorem F50_eq (n : Nat) (Y : YldF) (x0_0 : Int) (x0_1 : Int) (h : AHeap) (nx : Nat) : callP Try.prog keepT (n + 1) Y 50 [(.agg [(.int .i64 x0_0), (.int .i64 x0_1)])] h nx =
    let h1 := AHeap.put h nx (some ⟨[(.int .i64 x0_0), (.int .i64 x0_1)], 2, true⟩)
    (ldA h1 nx 0).bind fun v2 =>
    (asI .i64 v2).bind fun n3 =>
    if (decide ((n3 : Int) ≥ 0)) = true then
    ((ldA h1 nx 0).bind fun v4 =>
    (asI .i64 v4).bind fun n5 =>
    (ldA h1 nx 1).bind fun v6 =>
    (asI .i64 v6).bind fun n7 =>
    if (decide ((n5 : Int) < n7)) = true then
    ((ldA h1 nx 1).bind fun v8 =>
    (asI .i64 v8).bind fun n9 =>
    some ((.bool (decide ((n9 : Int) ≤ 1048576))), h1, (nx + 18)))
    else
    (some ((.bool false), h1, (nx + 18))))
    else
    (some ((.bool false), h1, (nx + 18))) := F50_eq' go1 n Y x0_0 x0_1 h nx

noncomputable def c51 : Code := (Try.f51.body).getD .skip

noncomputable def r51 : List ResultVar := Try.f51.results.toList

noncomputable def F51_J1' (W J : StepF (AV × AHeap × Nat) → StepF (AV × AHeap × Nat)) (call : YldF → CallF) (Y : YldF) (lf : Nat) (x0 : Option (Nat × Nat)) (x1 : Int) (x4 : Option (Nat × Nat)) (h : AHeap) (nx : Nat) : Option (AV × AHeap × Nat) :=
  goK W J drawK (machOf Try.prog) call Y (keepT 51) lf c51 [1, 1] [] (retK (machOf Try.prog) ⟨c51, 72, r51, keepT 51⟩) ⟨72, mkL [(0, (.ptr x0)), (1, (.int .i64 x1)), (4, (.ptr x4))]⟩ h nx

noncomputable def F51_J1 (call : YldF → CallF) (Y : YldF) (lf : Nat) (x0 : Option (Nat × Nat)) (x1 : Int) (x4 : Option (Nat × Nat)) (h : AHeap) (nx : Nat) : Option (AV × AHeap × Nat) := F51_J1' go1 go1 call Y lf x0 x1 x4 h nx

noncomputable def F51_L2' (W J : StepF (AV × AHeap × Nat) → StepF (AV × AHeap × Nat)) (call : YldF → CallF) (Y : YldF) (lf : Nat) (n0 : Nat) (x0 : Option (Nat × Nat)) (x1 : Int) (x4 : Option (Nat × Nat)) (x5 : Int) (x24a : Option (Nat × Nat)) (x24n : Nat) (x24c : Bool) (x25 : Int) (x26 : Int) (h : AHeap) (nx : Nat) : Option (AV × AHeap × Nat) :=
  goK W J drawK (machOf Try.prog) call Y (keepT 51) lf c51 [1, 1, 1, 0, 1, 0, 9] [n0] (retK (machOf Try.prog) ⟨c51, 72, r51, keepT 51⟩) ⟨72, mkL [(0, (.ptr x0)), (1, (.int .i64 x1)), (4, (.ptr x4)), (5, (.int .i64 x5)), (24, (.slice x24a x24n x24c)), (25, (.int .i64 x25)), (26, (.int .i64 x26))]⟩ h nx

noncomputable def F51_L2 (call : YldF → CallF) (Y : YldF) (lf : Nat) (n0 : Nat) (x0 : Option (Nat × Nat)) (x1 : Int) (x4 : Option (Nat × Nat)) (x5 : Int) (x24a : Option (Nat × Nat)) (x24n : Nat) (x24c : Bool) (x25 : Int) (x26 : Int) (h : AHeap) (nx : Nat) : Option (AV × AHeap × Nat) := F51_L2' go1 go1 call Y lf n0 x0 x1 x4 x5 x24a x24n x24c x25 x26 h nx

noncomputable def F51_J3' (W J : StepF (AV × AHeap × Nat) → StepF (AV × AHeap × Nat)) (call : YldF → CallF) (Y : YldF) (lf : Nat) (n0 : Nat) (x0 : Option (Nat × Nat)) (x1 : Int) (x4 : Option (Nat × Nat)) (x5 : Int) (x6 : Int) (x24a : Option (Nat × Nat)) (x24n : Nat) (x24c : Bool) (x25 : Int) (x26 : Int) (h : AHeap) (nx : Nat) : Option (AV × AHeap × Nat) :=
  goK W J drawK (machOf Try.prog) call Y (keepT 51) lf c51 [1, 1, 1, 0, 1, 0, 0, 1, 1, 0, 0, 1, 1] [n0] (retK (machOf Try.prog) ⟨c51, 72, r51, keepT 51⟩) ⟨72, mkL [(0, (.ptr x0)), (1, (.int .i64 x1)), (4, (.ptr x4)), (5, (.int .i64 x5)), (6, (.int .i64 x6)), (24, (.slice x24a x24n x24c)), (25, (.int .i64 x25)), (26, (.int .i64 x26))]⟩ h nx

noncomputable def F51_J3 (call : YldF → CallF) (Y : YldF) (lf : Nat) (n0 : Nat) (x0 : Option (Nat × Nat)) (x1 : Int) (x4 : Option (Nat × Nat)) (x5 : Int) (x6 : Int) (x24a : Option (Nat × Nat)) (x24n : Nat) (x24c : Bool) (x25 : Int) (x26 : Int) (h : AHeap) (nx : Nat) : Option (AV × AHeap × Nat) := F51_J3' go1 go1 call Y lf n0 x0 x1 x4 x5 x6 x24a x24n x24c x25 x26 h nx

theorem F51_J1_eq' (J : StepF (AV × AHeap × Nat) → StepF (AV × AHeap × Nat)) (call : YldF → CallF) (Y : YldF) (lf : Nat) (x0 : Option (Nat × Nat)) (x1 : Int) (x4 : Option (Nat × Nat)) (h : AHeap) (nx : Nat) : F51_J1' go1 J call Y lf x0 x1 x4 h nx =
    (x0).bind fun p1 =>
    (ldA h p1.1 p1.2).bind fun v2 =>
    (asSl v2).bind fun s3 =>
    F51_L2' J J call Y lf lf x0 x1 x4 0 s3.1 s3.2.1 s3.2.2 ((s3.2.1 : Nat) : Int) 0 h (nx + 7) := by kernel_rfl

theorem F51_J1_eq (call : YldF → CallF) (Y : YldF) (lf : Nat) (x0 : Option (Nat × Nat)) (x1 : Int) (x4 : Option (Nat × Nat)) (h : AHeap) (nx : Nat) : F51_J1 call Y lf x0 x1 x4 h nx =
    (x0).bind fun p1 =>
    (ldA h p1.1 p1.2).bind fun v2 =>
    (asSl v2).bind fun s3 =>
    F51_L2 call Y lf lf x0 x1 x4 0 s3.1 s3.2.1 s3.2.2 ((s3.2.1 : Nat) : Int) 0 h (nx + 7) := F51_J1_eq' go1 call Y lf x0 x1 x4 h nx

theorem F51_L2_eq' (J : StepF (AV × AHeap × Nat) → StepF (AV × AHeap × Nat)) (call : YldF → CallF) (Y : YldF) (lf : Nat) (n0 : Nat) (x0 : Option (Nat × Nat)) (x1 : Int) (x4 : Option (Nat × Nat)) (x5 : Int) (x24a : Option (Nat × Nat)) (x24n : Nat) (x24c : Bool) (x25 : Int) (x26 : Int) (h : AHeap) (nx : Nat) : F51_L2' go1 J call Y lf (n0 + 1) x0 x1 x4 x5 x24a x24n x24c x25 x26 h nx =
    if (decide ((x26 : Int) < x25)) = true then
    ((x24a).bind fun p1 =>
    if 0 ≤ (x26 : Int) ∧ x26 < ((x24n : Nat) : Int) then
    ((ldA h p1.1 (p1.2 + Int.toNat x26 * 1)).bind fun v2 =>
    (asI .u8 v2).bind fun n3 =>
    if ((n3 : Int) != 0) = true then
    (F51_J3' J J call Y lf n0 x0 x1 x4 0 x26 x24a x24n x24c x25 x26 h (nx + 12))
    else
    (F51_J3' J J call Y lf n0 x0 x1 x4 (wrapA .i64 (x5 + 1)) x26 x24a x24n x24c x25 x26 h (nx + 11)))
    else none)
    else
    ((x4).bind fun p4 =>
    (stA h p4.1 p4.2 (.agg [(.int .i64 8), (.int .i64 0), (.int .i64 0)]) 3).bind fun b5 =>
    let h6 := AHeap.put h p4.1 (some b5)
    (x4).bind fun p7 =>
    (ldR h6 p7.1 p7.2 3).bind fun l8 =>
    (asAgg 3 (AV.agg l8)).bind fun d9 =>
    (asI .i64 (d9.getD 0 .bad)).bind fun n10 =>
    (asI .i64 (d9.getD 1 .bad)).bind fun n11 =>
    (asI .i64 (d9.getD 2 .bad)).bind fun n12 =>
    some ((.agg [(.int .i64 n10), (.int .i64 n11), (.int .i64 n12)]), h6, (nx + 3))) := by kernel_rfl

theorem F51_L2_eq (call : YldF → CallF) (Y : YldF) (lf : Nat) (n0 : Nat) (x0 : Option (Nat × Nat)) (x1 : Int) (x4 : Option (Nat × Nat)) (x5 : Int) (x24a : Option (Nat × Nat)) (x24n : Nat) (x24c : Bool) (x25 : Int) (x26 : Int) (h : AHeap) (nx : Nat) : F51_L2 call Y lf (n0 + 1) x0 x1 x4 x5 x24a x24n x24c x25 x26 h nx =
    if (decide ((x26 : Int) < x25)) = true then
    ((x24a).bind fun p1 =>
    if 0 ≤ (x26 : Int) ∧ x26 < ((x24n : Nat) : Int) then
    ((ldA h p1.1 (p1.2 + Int.toNat x26 * 1)).bind fun v2 =>
    (asI .u8 v2).bind fun n3 =>
    if ((n3 : Int) != 0) = true then
    (F51_J3 call Y lf n0 x0 x1 x4 0 x26 x24a x24n x24c x25 x26 h (nx + 12))
    else
    (F51_J3 call Y lf n0 x0 x1 x4 (wrapA .i64 (x5 + 1)) x26 x24a x24n x24c x25 x26 h (nx + 11)))
    else none)
    else
    ((x4).bind fun p4 =>
    (stA h p4.1 p4.2 (.agg [(.int .i64 8), (.int .i64 0), (.int .i64 0)]) 3).bind fun b5 =>
    let h6 := AHeap.put h p4.1 (some b5)
    (x4).bind fun p7 =>
    (ldR h6 p7.1 p7.2 3).bind fun l8 =>
    (asAgg 3 (AV.agg l8)).bind fun d9 =>
    (asI .i64 (d9.getD 0 .bad)).bind fun n10 =>
    (asI .i64 (d9.getD 1 .bad)).bind fun n11 =>
    (asI .i64 (d9.getD 2 .bad)).bind fun n12 =>
    some ((.agg [(.int .i64 n10), (.int .i64 n11), (.int .i64 n12)]), h6, (nx + 3))) := F51_L2_eq' go1 call Y lf n0 x0 x1 x4 x5 x24a x24n x24c x25 x26 h nx

theorem F51_L2_zero (call : YldF → CallF) (Y : YldF) (lf : Nat) (x0 : Option (Nat × Nat)) (x1 : Int) (x4 : Option (Nat × Nat)) (x5 : Int) (x24a : Option (Nat × Nat)) (x24n : Nat) (x24c : Bool) (x25 : Int) (x26 : Int) (h : AHeap) (nx : Nat) : F51_L2 call Y lf 0 x0 x1 x4 x5 x24a x24n x24c x25 x26 h nx = none := by kernel_rfl

theorem F51_J3_eq' (J : StepF (AV × AHeap × Nat) → StepF (AV × AHeap × Nat)) (call : YldF → CallF) (Y : YldF) (lf : Nat) (n0 : Nat) (x0 : Option (Nat × Nat)) (x1 : Int) (x4 : Option (Nat × Nat)) (x5 : Int) (x6 : Int) (x24a : Option (Nat × Nat)) (x24n : Nat) (x24c : Bool) (x25 : Int) (x26 : Int) (h : AHeap) (nx : Nat) : F51_J3' go1 J call Y lf n0 x0 x1 x4 x5 x6 x24a x24n x24c x25 x26 h nx =
    if ((x5 : Int) == x1) = true then
    (let h1 := AHeap.put h (nx + 10) (some ⟨[(.int .i64 0), (.int .i64 0)], 2, true⟩)
    (stA h1 (nx + 10) 0 (.agg [(.int .i64 (wrapA .i64 ((wrapA .i64 (x6 + 1)) - x1))), (.int .i64 (wrapA .i64 (x6 + 1)))]) 2).bind fun b2 =>
    let h3 := AHeap.put h1 (nx + 10) (some b2)
    (ldR h3 (nx + 10) 0 2).bind fun l4 =>
    (asAgg 2 (AV.agg l4)).bind fun d5 =>
    (asI .i64 (d5.getD 0 .bad)).bind fun n6 =>
    (asI .i64 (d5.getD 1 .bad)).bind fun n7 =>
    (call Y 62 [(.ptr x0), (.agg [(.int .i64 n6), (.int .i64 n7)]), (.int .u8 1)] h3 (nx + 15)).bind fun r8 =>
    (asTup 0 r8.1).bind fun d9 =>
    (x0).bind fun p10 =>
    (ldA r8.2.1 p10.1 (p10.2 + 1)).bind fun v11 =>
    (asI .i64 v11).bind fun n12 =>
    (x0).bind fun p13 =>
    (stA r8.2.1 p13.1 (p13.2 + 1) (.int .i64 (wrapA .i64 (n12 - x1))) 1).bind fun b14 =>
    let h15 := AHeap.put r8.2.1 p13.1 (some b14)
    (x0).bind fun p16 =>
    (ldA h15 p16.1 (p16.2 + 2)).bind fun v17 =>
    (asSl v17).bind fun s18 =>
    (ldR h15 (nx + 10) 0 2).bind fun l19 =>
    (asAgg 2 (AV.agg l19)).bind fun d20 =>
    (asI .i64 (d20.getD 0 .bad)).bind fun n21 =>
    (asI .i64 (d20.getD 1 .bad)).bind fun n22 =>
    let h23 := AHeap.put h15 (r8.2.2 + 16) (some ⟨[(.bool false), (.int .i64 n21), (.int .i64 n22)], 3, true⟩)
    (srcS h23 (some ((r8.2.2 + 16), 0)) 1 3).bind fun q24 =>
    (appD h23 s18.1 s18.2.1 s18.2.2 3 24 (r8.2.2 + 17) q24).bind fun e25 =>
    let h26 := AHeap.puts h23 e25.sets
    (x0).bind fun p27 =>
    (stA h26 p27.1 (p27.2 + 2) (.slice e25.a e25.n e25.c) 1).bind fun b28 =>
    let h29 := AHeap.put h26 p27.1 (some b28)
    ifApart [([(r8.2.2 + 16)], [p16.1])]
    ((ldA h29 (nx + 10) 0).bind fun v30 =>
    (asI .i64 v30).bind fun n31 =>
    (x4).bind fun p32 =>
    (stA h29 p32.1 p32.2 (.agg [(.int .i64 0), (.int .i64 n31), (.int .i64 0)]) 3).bind fun b33 =>
    let h34 := AHeap.put h29 p32.1 (some b33)
    (x4).bind fun p35 =>
    (ldR h34 p35.1 p35.2 3).bind fun l36 =>
    (asAgg 3 (AV.agg l36)).bind fun d37 =>
    (asI .i64 (d37.getD 0 .bad)).bind fun n38 =>
    (asI .i64 (d37.getD 1 .bad)).bind fun n39 =>
    (asI .i64 (d37.getD 2 .bad)).bind fun n40 =>
    some ((.agg [(.int .i64 n38), (.int .i64 n39), (.int .i64 n40)]), h34, (r8.2.2 + 25))))
    else
    (F51_L2' J J call Y lf n0 x0 x1 x4 x5 x24a x24n x24c x25 (wrapA .i64 (x26 + 1)) h (nx + 5)) := by kernel_rfl

theorem F51_J3_eq (call : YldF → CallF) (Y : YldF) (lf : Nat) (n0 : Nat) (x0 : Option (Nat × Nat)) (x1 : Int) (x4 : Option (Nat × Nat)) (x5 : Int) (x6 : Int) (x24a : Option (Nat × Nat)) (x24n : Nat) (x24c : Bool) (x25 : Int) (x26 : Int) (h : AHeap) (nx : Nat) : F51_J3 call Y lf n0 x0 x1 x4 x5 x6 x24a x24n x24c x25 x26 h nx =
    if ((x5 : Int) == x1) = true then
    (let h1 := AHeap.put h (nx + 10) (some ⟨[(.int .i64 0), (.int .i64 0)], 2, true⟩)
    (stA h1 (nx + 10) 0 (.agg [(.int .i64 (wrapA .i64 ((wrapA .i64 (x6 + 1)) - x1))), (.int .i64 (wrapA .i64 (x6 + 1)))]) 2).bind fun b2 =>
    let h3 := AHeap.put h1 (nx + 10) (some b2)
    (ldR h3 (nx + 10) 0 2).bind fun l4 =>
    (asAgg 2 (AV.agg l4)).bind fun d5 =>
    (asI .i64 (d5.getD 0 .bad)).bind fun n6 =>
    (asI .i64 (d5.getD 1 .bad)).bind fun n7 =>
    (call Y 62 [(.ptr x0), (.agg [(.int .i64 n6), (.int .i64 n7)]), (.int .u8 1)] h3 (nx + 15)).bind fun r8 =>
    (asTup 0 r8.1).bind fun d9 =>
    (x0).bind fun p10 =>
    (ldA r8.2.1 p10.1 (p10.2 + 1)).bind fun v11 =>
    (asI .i64 v11).bind fun n12 =>
    (x0).bind fun p13 =>
    (stA r8.2.1 p13.1 (p13.2 + 1) (.int .i64 (wrapA .i64 (n12 - x1))) 1).bind fun b14 =>
    let h15 := AHeap.put r8.2.1 p13.1 (some b14)
    (x0).bind fun p16 =>
    (ldA h15 p16.1 (p16.2 + 2)).bind fun v17 =>
    (asSl v17).bind fun s18 =>
    (ldR h15 (nx + 10) 0 2).bind fun l19 =>
    (asAgg 2 (AV.agg l19)).bind fun d20 =>
    (asI .i64 (d20.getD 0 .bad)).bind fun n21 =>
    (asI .i64 (d20.getD 1 .bad)).bind fun n22 =>
    let h23 := AHeap.put h15 (r8.2.2 + 16) (some ⟨[(.bool false), (.int .i64 n21), (.int .i64 n22)], 3, true⟩)
    (srcS h23 (some ((r8.2.2 + 16), 0)) 1 3).bind fun q24 =>
    (appD h23 s18.1 s18.2.1 s18.2.2 3 24 (r8.2.2 + 17) q24).bind fun e25 =>
    let h26 := AHeap.puts h23 e25.sets
    (x0).bind fun p27 =>
    (stA h26 p27.1 (p27.2 + 2) (.slice e25.a e25.n e25.c) 1).bind fun b28 =>
    let h29 := AHeap.put h26 p27.1 (some b28)
    ifApart [([(r8.2.2 + 16)], [p16.1])]
    ((ldA h29 (nx + 10) 0).bind fun v30 =>
    (asI .i64 v30).bind fun n31 =>
    (x4).bind fun p32 =>
    (stA h29 p32.1 p32.2 (.agg [(.int .i64 0), (.int .i64 n31), (.int .i64 0)]) 3).bind fun b33 =>
    let h34 := AHeap.put h29 p32.1 (some b33)
    (x4).bind fun p35 =>
    (ldR h34 p35.1 p35.2 3).bind fun l36 =>
    (asAgg 3 (AV.agg l36)).bind fun d37 =>
    (asI .i64 (d37.getD 0 .bad)).bind fun n38 =>
    (asI .i64 (d37.getD 1 .bad)).bind fun n39 =>
    (asI .i64 (d37.getD 2 .bad)).bind fun n40 =>
    some ((.agg [(.int .i64 n38), (.int .i64 n39), (.int .i64 n40)]), h34, (r8.2.2 + 25))))
    else
    (F51_L2 call Y lf n0 x0 x1 x4 x5 x24a x24n x24c x25 (wrapA .i64 (x26 + 1)) h (nx + 5)) := F51_J3_eq' go1 call Y lf n0 x0 x1 x4 x5 x6 x24a x24n x24c x25 x26 h nx

theorem F51_eq' (J : StepF (AV × AHeap × Nat) → StepF (AV × AHeap × Nat)) (n : Nat) (Y : YldF) (x0 : Option (Nat × Nat)) (x1 : Int) (h : AHeap) (nx : Nat) : rootJ J Try.prog keepT (callP Try.prog keepT n) Y n 51 [(.ptr x0), (.int .i64 x1)] h nx =
    let h1 := AHeap.put h nx (some ⟨[(.int .i64 0), (.int .i64 0), (.int .i64 0)], 3, true⟩)
    if (decide ((x1 : Int) < 1)) = true then
    ((stA h1 nx 0 (.agg [(.int .i64 2), (.int .i64 0), (.int .i64 0)]) 3).bind fun b2 =>
    let h3 := AHeap.put h1 nx (some b2)
    (ldR h3 nx 0 3).bind fun l4 =>
    (asAgg 3 (AV.agg l4)).bind fun d5 =>
    (asI .i64 (d5.getD 0 .bad)).bind fun n6 =>
    (asI .i64 (d5.getD 1 .bad)).bind fun n7 =>
    (asI .i64 (d5.getD 2 .bad)).bind fun n8 =>
    some ((.agg [(.int .i64 n6), (.int .i64 n7), (.int .i64 n8)]), h3, (nx + 14)))
    else
    ((x0).bind fun p9 =>
    (ldA h1 p9.1 p9.2).bind fun v10 =>
    (asSl v10).bind fun s11 =>
    if (decide ((x1 : Int) > ((s11.2.1 : Nat) : Int))) = true then
    ((stA h1 nx 0 (.agg [(.int .i64 2), (.int .i64 0), (.int .i64 0)]) 3).bind fun b12 =>
    let h13 := AHeap.put h1 nx (some b12)
    (ldR h13 nx 0 3).bind fun l14 =>
    (asAgg 3 (AV.agg l14)).bind fun d15 =>
    (asI .i64 (d15.getD 0 .bad)).bind fun n16 =>
    (asI .i64 (d15.getD 1 .bad)).bind fun n17 =>
    (asI .i64 (d15.getD 2 .bad)).bind fun n18 =>
    some ((.agg [(.int .i64 n16), (.int .i64 n17), (.int .i64 n18)]), h13, (nx + 14)))
    else
    (F51_J1' J J (callP Try.prog keepT n) Y n x0 x1 (some (nx, 0)) h1 (nx + 12))) := by kernel_rfl

/-- (*quickset/space.space).take -/
theorem F51_eq (n : Nat) (Y : YldF) (x0 : Option (Nat × Nat)) (x1 : Int) (h : AHeap) (nx : Nat) : callP Try.prog keepT (n + 1) Y 51 [(.ptr x0), (.int .i64 x1)] h nx =
    let h1 := AHeap.put h nx (some ⟨[(.int .i64 0), (.int .i64 0), (.int .i64 0)], 3, true⟩)
    if (decide ((x1 : Int) < 1)) = true then
    ((stA h1 nx 0 (.agg [(.int .i64 2), (.int .i64 0), (.int .i64 0)]) 3).bind fun b2 =>
    let h3 := AHeap.put h1 nx (some b2)
    (ldR h3 nx 0 3).bind fun l4 =>
    (asAgg 3 (AV.agg l4)).bind fun d5 =>
    (asI .i64 (d5.getD 0 .bad)).bind fun n6 =>
    (asI .i64 (d5.getD 1 .bad)).bind fun n7 =>
    (asI .i64 (d5.getD 2 .bad)).bind fun n8 =>
    some ((.agg [(.int .i64 n6), (.int .i64 n7), (.int .i64 n8)]), h3, (nx + 14)))
    else
    ((x0).bind fun p9 =>
    (ldA h1 p9.1 p9.2).bind fun v10 =>
    (asSl v10).bind fun s11 =>
    if (decide ((x1 : Int) > ((s11.2.1 : Nat) : Int))) = true then
    ((stA h1 nx 0 (.agg [(.int .i64 2), (.int .i64 0), (.int .i64 0)]) 3).bind fun b12 =>
    let h13 := AHeap.put h1 nx (some b12)
    (ldR h13 nx 0 3).bind fun l14 =>
    (asAgg 3 (AV.agg l14)).bind fun d15 =>
    (asI .i64 (d15.getD 0 .bad)).bind fun n16 =>
    (asI .i64 (d15.getD 1 .bad)).bind fun n17 =>
    (asI .i64 (d15.getD 2 .bad)).bind fun n18 =>
    some ((.agg [(.int .i64 n16), (.int .i64 n17), (.int .i64 n18)]), h13, (nx + 14)))
    else
    (F51_J1 (callP Try.prog keepT n) Y n x0 x1 (some (nx, 0)) h1 (nx + 12))) := F51_eq' go1 n Y x0 x1 h nx

noncomputable def c52 : Code := (Try.f52.body).getD .skip

noncomputable def r52 : List ResultVar := Try.f52.results.toList

noncomputable def F52_J1' (W J : StepF (AV × AHeap × Nat) → StepF (AV × AHeap × Nat)) (call : YldF → CallF) (Y : YldF) (lf : Nat) (x0 : Option (Nat × Nat)) (x3 : Option (Nat × Nat)) (h : AHeap) (nx : Nat) : Option (AV × AHeap × Nat) :=
  goK W J drawK (machOf Try.prog) call Y (keepT 52) lf c52 [1, 1] [] (retK (machOf Try.prog) ⟨c52, 52, r52, keepT 52⟩) ⟨52, mkL [(0, (.ptr x0)), (3, (.ptr x3))]⟩ h nx

noncomputable def F52_J1 (call : YldF → CallF) (Y : YldF) (lf : Nat) (x0 : Option (Nat × Nat)) (x3 : Option (Nat × Nat)) (h : AHeap) (nx : Nat) : Option (AV × AHeap × Nat) := F52_J1' go1 go1 call Y lf x0 x3 h nx

theorem F52_J1_eq' (J : StepF (AV × AHeap × Nat) → StepF (AV × AHeap × Nat)) (call : YldF → CallF) (Y : YldF) (lf : Nat) (x0 : Option (Nat × Nat)) (x3 : Option (Nat × Nat)) (h : AHeap) (nx : Nat) : F52_J1' go1 J call Y lf x0 x3 h nx =
    (x3).bind fun p1 =>
    (ldA h p1.1 (p1.2 + 1)).bind fun v2 =>
    (asI .i64 v2).bind fun n3 =>
    (x3).bind fun p4 =>
    (ldA h p4.1 (p4.2 + 1)).bind fun v5 =>
    (asI .i64 v5).bind fun n6 =>
    (x3).bind fun p7 =>
    (ldA h p7.1 (p7.2 + 2)).bind fun v8 =>
    (asI .i64 v8).bind fun n9 =>
    let h10 := AHeap.put h (nx + 8) (some ⟨[(.int .i64 0), (.int .i64 0)], 2, true⟩)
    (stA h10 (nx + 8) 0 (.agg [(.int .i64 n3), (.int .i64 (wrapA .i64 (n6 + n9)))]) 2).bind fun b11 =>
    let h12 := AHeap.put h10 (nx + 8) (some b11)
    (ldR h12 (nx + 8) 0 2).bind fun l13 =>
    (asAgg 2 (AV.agg l13)).bind fun d14 =>
    (asI .i64 (d14.getD 0 .bad)).bind fun n15 =>
    (asI .i64 (d14.getD 1 .bad)).bind fun n16 =>
    (call Y 61 [(.ptr x0), (.agg [(.int .i64 n15), (.int .i64 n16)]), (.int .u8 1)] h12 (nx + 14)).bind fun r17 =>
    (asB r17.1).bind fun t18 =>
    if (!t18) = true then
    (some ((.int .i64 6), r17.2.1, (r17.2.2 + 1)))
    else
    ((ldR r17.2.1 (nx + 8) 0 2).bind fun l19 =>
    (asAgg 2 (AV.agg l19)).bind fun d20 =>
    (asI .i64 (d20.getD 0 .bad)).bind fun n21 =>
    (asI .i64 (d20.getD 1 .bad)).bind fun n22 =>
    (call Y 62 [(.ptr x0), (.agg [(.int .i64 n21), (.int .i64 n22)]), (.int .u8 2)] r17.2.1 (r17.2.2 + 3)).bind fun r23 =>
    (asTup 0 r23.1).bind fun d24 =>
    some ((.int .i64 0), r23.2.1, (r23.2.2 + 1))) := by kernel_rfl

theorem F52_J1_eq (call : YldF → CallF) (Y : YldF) (lf : Nat) (x0 : Option (Nat × Nat)) (x3 : Option (Nat × Nat)) (h : AHeap) (nx : Nat) : F52_J1 call Y lf x0 x3 h nx =
    (x3).bind fun p1 =>
    (ldA h p1.1 (p1.2 + 1)).bind fun v2 =>
    (asI .i64 v2).bind fun n3 =>
    (x3).bind fun p4 =>
    (ldA h p4.1 (p4.2 + 1)).bind fun v5 =>
    (asI .i64 v5).bind fun n6 =>
    (x3).bind fun p7 =>
    (ldA h p7.1 (p7.2 + 2)).bind fun v8 =>
    (asI .i64 v8).bind fun n9 =>
    let h10 := AHeap.put h (nx + 8) (some ⟨[(.int .i64 0), (.int .i64 0)], 2, true⟩)
    (stA h10 (nx + 8) 0 (.agg [(.int .i64 n3), (.int .i64 (wrapA .i64 (n6 + n9)))]) 2).bind fun b11 =>
    let h12 := AHeap.put h10 (nx + 8) (some b11)
    (ldR h12 (nx + 8) 0 2).bind fun l13 =>
    (asAgg 2 (AV.agg l13)).bind fun d14 =>
    (asI .i64 (d14.getD 0 .bad)).bind fun n15 =>
    (asI .i64 (d14.getD 1 .bad)).bind fun n16 =>
    (call Y 61 [(.ptr x0), (.agg [(.int .i64 n15), (.int .i64 n16)]), (.int .u8 1)] h12 (nx + 14)).bind fun r17 =>
    (asB r17.1).bind fun t18 =>
    if (!t18) = true then
    (some ((.int .i64 6), r17.2.1, (r17.2.2 + 1)))
    else
    ((ldR r17.2.1 (nx + 8) 0 2).bind fun l19 =>
    (asAgg 2 (AV.agg l19)).bind fun d20 =>
    (asI .i64 (d20.getD 0 .bad)).bind fun n21 =>
    (asI .i64 (d20.getD 1 .bad)).bind fun n22 =>
    (call Y 62 [(.ptr x0), (.agg [(.int .i64 n21), (.int .i64 n22)]), (.int .u8 2)] r17.2.1 (r17.2.2 + 3)).bind fun r23 =>
    (asTup 0 r23.1).bind fun d24 =>
    some ((.int .i64 0), r23.2.1, (r23.2.2 + 1))) := F52_J1_eq' go1 call Y lf x0 x3 h nx

theorem F52_eq' (J : StepF (AV × AHeap × Nat) → StepF (AV × AHeap × Nat)) (n : Nat) (Y : YldF) (x0 : Option (Nat × Nat)) (x1_0 : Int) (x1_1 : Int) (x1_2 : Int) (h : AHeap) (nx : Nat) : rootJ J Try.prog keepT (callP Try.prog keepT n) Y n 52 [(.ptr x0), (.agg [(.int .i64 x1_0), (.int .i64 x1_1), (.int .i64 x1_2)])] h nx =
    let h1 := AHeap.put h nx (some ⟨[(.int .i64 x1_0), (.int .i64 x1_1), (.int .i64 x1_2)], 3, true⟩)
    (ldA h1 nx 1).bind fun v2 =>
    (asI .i64 v2).bind fun n3 =>
    if (decide ((n3 : Int) < 0)) = true then
    (some ((.int .i64 2), h1, (nx + 34)))
    else
    ((ldA h1 nx 2).bind fun v4 =>
    (asI .i64 v4).bind fun n5 =>
    if (decide ((n5 : Int) < 1)) = true then
    (some ((.int .i64 2), h1, (nx + 34)))
    else
    ((ldA h1 nx 2).bind fun v6 =>
    (asI .i64 v6).bind fun n7 =>
    (x0).bind fun p8 =>
    (ldA h1 p8.1 p8.2).bind fun v9 =>
    (asSl v9).bind fun s10 =>
    if (decide ((n7 : Int) > ((s10.2.1 : Nat) : Int))) = true then
    (some ((.int .i64 2), h1, (nx + 34)))
    else
    ((ldA h1 nx 1).bind fun v11 =>
    (asI .i64 v11).bind fun n12 =>
    (x0).bind fun p13 =>
    (ldA h1 p13.1 p13.2).bind fun v14 =>
    (asSl v14).bind fun s15 =>
    (ldA h1 nx 2).bind fun v16 =>
    (asI .i64 v16).bind fun n17 =>
    if (decide ((n12 : Int) > (wrapA .i64 (((s15.2.1 : Nat) : Int) - n17)))) = true then
    (some ((.int .i64 2), h1, (nx + 34)))
    else
    (F52_J1' J J (callP Try.prog keepT n) Y n x0 (some (nx, 0)) h1 (nx + 33))))) := by kernel_rfl

/-- (*quickset/space.space).give -/
theorem F52_eq (n : Nat) (Y : YldF) (x0 : Option (Nat × Nat)) (x1_0 : Int) (x1_1 : Int) (x1_2 : Int) (h : AHeap) (nx : Nat) : callP Try.prog keepT (n + 1) Y 52 [(.ptr x0), (.agg [(.int .i64 x1_0), (.int .i64 x1_1), (.int .i64 x1_2)])] h nx =
    let h1 := AHeap.put h nx (some ⟨[(.int .i64 x1_0), (.int .i64 x1_1), (.int .i64 x1_2)], 3, true⟩)
    (ldA h1 nx 1).bind fun v2 =>
    (asI .i64 v2).bind fun n3 =>
    if (decide ((n3 : Int) < 0)) = true then
    (some ((.int .i64 2), h1, (nx + 34)))
    else
    ((ldA h1 nx 2).bind fun v4 =>
    (asI .i64 v4).bind fun n5 =>
    if (decide ((n5 : Int) < 1)) = true then
    (some ((.int .i64 2), h1, (nx + 34)))
    else
    ((ldA h1 nx 2).bind fun v6 =>
    (asI .i64 v6).bind fun n7 =>
    (x0).bind fun p8 =>
    (ldA h1 p8.1 p8.2).bind fun v9 =>
    (asSl v9).bind fun s10 =>
    if (decide ((n7 : Int) > ((s10.2.1 : Nat) : Int))) = true then
    (some ((.int .i64 2), h1, (nx + 34)))
    else
    ((ldA h1 nx 1).bind fun v11 =>
    (asI .i64 v11).bind fun n12 =>
    (x0).bind fun p13 =>
    (ldA h1 p13.1 p13.2).bind fun v14 =>
    (asSl v14).bind fun s15 =>
    (ldA h1 nx 2).bind fun v16 =>
    (asI .i64 v16).bind fun n17 =>
    if (decide ((n12 : Int) > (wrapA .i64 (((s15.2.1 : Nat) : Int) - n17)))) = true then
    (some ((.int .i64 2), h1, (nx + 34)))
    else
    (F52_J1 (callP Try.prog keepT n) Y n x0 (some (nx, 0)) h1 (nx + 33))))) := F52_eq' go1 n Y x0 x1_0 x1_1 x1_2 h nx

noncomputable def c53 : Code := (Try.f53.body).getD .skip

noncomputable def r53 : List ResultVar := Try.f53.results.toList

noncomputable def F53_L1' (W J : StepF (AV × AHeap × Nat) → StepF (AV × AHeap × Nat)) (call : YldF → CallF) (Y : YldF) (lf : Nat) (n0 : Nat) (x0 : Option (Nat × Nat)) (x7a : Option (Nat × Nat)) (x7n : Nat) (x7c : Bool) (x8 : Int) (x9 : Int) (h : AHeap) (nx : Nat) : Option (AV × AHeap × Nat) :=
  goK W J drawK (machOf Try.prog) call Y (keepT 53) lf c53 [0, 1, 0, 9] [n0] (retK (machOf Try.prog) ⟨c53, 59, r53, keepT 53⟩) ⟨59, mkL [(0, (.ptr x0)), (7, (.slice x7a x7n x7c)), (8, (.int .i64 x8)), (9, (.int .i64 x9))]⟩ h nx

noncomputable def F53_L1 (call : YldF → CallF) (Y : YldF) (lf : Nat) (n0 : Nat) (x0 : Option (Nat × Nat)) (x7a : Option (Nat × Nat)) (x7n : Nat) (x7c : Bool) (x8 : Int) (x9 : Int) (h : AHeap) (nx : Nat) : Option (AV × AHeap × Nat) := F53_L1' go1 go1 call Y lf n0 x0 x7a x7n x7c x8 x9 h nx

noncomputable def F53_L2' (W J : StepF (AV × AHeap × Nat) → StepF (AV × AHeap × Nat)) (call : YldF → CallF) (Y : YldF) (lf : Nat) (n0 : Nat) (x0 : Option (Nat × Nat)) (x43a : Option (Nat × Nat)) (x43n : Nat) (x43c : Bool) (x44 : Int) (x45 : Int) (h : AHeap) (nx : Nat) : Option (AV × AHeap × Nat) :=
  goK W J drawK (machOf Try.prog) call Y (keepT 53) lf c53 [1, 1, 0, 9] [n0] (retK (machOf Try.prog) ⟨c53, 59, r53, keepT 53⟩) ⟨59, mkL [(0, (.ptr x0)), (43, (.slice x43a x43n x43c)), (44, (.int .i64 x44)), (45, (.int .i64 x45))]⟩ h nx

noncomputable def F53_L2 (call : YldF → CallF) (Y : YldF) (lf : Nat) (n0 : Nat) (x0 : Option (Nat × Nat)) (x43a : Option (Nat × Nat)) (x43n : Nat) (x43c : Bool) (x44 : Int) (x45 : Int) (h : AHeap) (nx : Nat) : Option (AV × AHeap × Nat) := F53_L2' go1 go1 call Y lf n0 x0 x43a x43n x43c x44 x45 h nx

theorem F53_L1_eq' (J : StepF (AV × AHeap × Nat) → StepF (AV × AHeap × Nat)) (call : YldF → CallF) (Y : YldF) (lf : Nat) (n0 : Nat) (x0 : Option (Nat × Nat)) (x7a : Option (Nat × Nat)) (x7n : Nat) (x7c : Bool) (x8 : Int) (x9 : Int) (h : AHeap) (nx : Nat) : F53_L1' go1 J call Y lf (n0 + 1) x0 x7a x7n x7c x8 x9 h nx =
    if (decide ((x9 : Int) < x8)) = true then
    ((x7a).bind fun p1 =>
    if 0 ≤ (x9 : Int) ∧ x9 < ((x7n : Nat) : Int) then
    ((ldR h p1.1 (p1.2 + Int.toNat x9 * 2) 2).bind fun l2 =>
    (asAgg 2 (AV.agg l2)).bind fun d3 =>
    (asI .i64 (d3.getD 0 .bad)).bind fun n4 =>
    (asI .i64 (d3.getD 1 .bad)).bind fun n5 =>
    let h6 := AHeap.put h (nx + 3) (some ⟨[(.int .i64 0), (.int .i64 0)], 2, true⟩)
    (stA h6 (nx + 3) 0 (.agg [(.int .i64 n4), (.int .i64 n5)]) 2).bind fun b7 =>
    let h8 := AHeap.put h6 (nx + 3) (some b7)
    (ldR h8 (nx + 3) 0 2).bind fun l9 =>
    (asAgg 2 (AV.agg l9)).bind fun d10 =>
    (asI .i64 (d10.getD 0 .bad)).bind fun n11 =>
    (asI .i64 (d10.getD 1 .bad)).bind fun n12 =>
    (call Y 62 [(.ptr x0), (.agg [(.int .i64 n11), (.int .i64 n12)]), (.int .u8 0)] h8 (nx + 8)).bind fun r13 =>
    (asTup 0 r13.1).bind fun d14 =>
    (x0).bind fun p15 =>
    (ldA r13.2.1 p15.1 (p15.2 + 1)).bind fun v16 =>
    (asI .i64 v16).bind fun n17 =>
    (ldA r13.2.1 (nx + 3) 1).bind fun v18 =>
    (asI .i64 v18).bind fun n19 =>
    (ldA r13.2.1 (nx + 3) 0).bind fun v20 =>
    (asI .i64 v20).bind fun n21 =>
    (x0).bind fun p22 =>
    (stA r13.2.1 p22.1 (p22.2 + 1) (.int .i64 (wrapA .i64 (n17 + (wrapA .i64 (n19 - n21))))) 1).bind fun b23 =>
    let h24 := AHeap.put r13.2.1 p22.1 (some b23)
    (x0).bind fun p25 =>
    (ldA h24 p25.1 (p25.2 + 2)).bind fun v26 =>
    (asSl v26).bind fun s27 =>
    (ldR h24 (nx + 3) 0 2).bind fun l28 =>
    (asAgg 2 (AV.agg l28)).bind fun d29 =>
    (asI .i64 (d29.getD 0 .bad)).bind fun n30 =>
    (asI .i64 (d29.getD 1 .bad)).bind fun n31 =>
    let h32 := AHeap.put h24 (r13.2.2 + 20) (some ⟨[(.bool true), (.int .i64 n30), (.int .i64 n31)], 3, true⟩)
    (srcS h32 (some ((r13.2.2 + 20), 0)) 1 3).bind fun q33 =>
    (appD h32 s27.1 s27.2.1 s27.2.2 3 24 (r13.2.2 + 21) q33).bind fun e34 =>
    let h35 := AHeap.puts h32 e34.sets
    (x0).bind fun p36 =>
    (stA h35 p36.1 (p36.2 + 2) (.slice e34.a e34.n e34.c) 1).bind fun b37 =>
    let h38 := AHeap.put h35 p36.1 (some b37)
    ifApart [([(r13.2.2 + 20)], [p25.1])]
    (F53_L1' J J call Y lf n0 x0 x7a x7n x7c x8 (wrapA .i64 (x9 + 1)) h38 (r13.2.2 + 27)))
    else none)
    else
    ((x0).bind fun p39 =>
    (ldA h p39.1 p39.2).bind fun v40 =>
    (asSl v40).bind fun s41 =>
    F53_L2' J J call Y lf lf x0 s41.1 s41.2.1 s41.2.2 ((s41.2.1 : Nat) : Int) 0 h (nx + 7)) := by kernel_rfl

theorem F53_L1_eq (call : YldF → CallF) (Y : YldF) (lf : Nat) (n0 : Nat) (x0 : Option (Nat × Nat)) (x7a : Option (Nat × Nat)) (x7n : Nat) (x7c : Bool) (x8 : Int) (x9 : Int) (h : AHeap) (nx : Nat) : F53_L1 call Y lf (n0 + 1) x0 x7a x7n x7c x8 x9 h nx =
    if (decide ((x9 : Int) < x8)) = true then
    ((x7a).bind fun p1 =>
    if 0 ≤ (x9 : Int) ∧ x9 < ((x7n : Nat) : Int) then
    ((ldR h p1.1 (p1.2 + Int.toNat x9 * 2) 2).bind fun l2 =>
    (asAgg 2 (AV.agg l2)).bind fun d3 =>
    (asI .i64 (d3.getD 0 .bad)).bind fun n4 =>
    (asI .i64 (d3.getD 1 .bad)).bind fun n5 =>
    let h6 := AHeap.put h (nx + 3) (some ⟨[(.int .i64 0), (.int .i64 0)], 2, true⟩)
    (stA h6 (nx + 3) 0 (.agg [(.int .i64 n4), (.int .i64 n5)]) 2).bind fun b7 =>
    let h8 := AHeap.put h6 (nx + 3) (some b7)
    (ldR h8 (nx + 3) 0 2).bind fun l9 =>
    (asAgg 2 (AV.agg l9)).bind fun d10 =>
    (asI .i64 (d10.getD 0 .bad)).bind fun n11 =>
    (asI .i64 (d10.getD 1 .bad)).bind fun n12 =>
    (call Y 62 [(.ptr x0), (.agg [(.int .i64 n11), (.int .i64 n12)]), (.int .u8 0)] h8 (nx + 8)).bind fun r13 =>
    (asTup 0 r13.1).bind fun d14 =>
    (x0).bind fun p15 =>
    (ldA r13.2.1 p15.1 (p15.2 + 1)).bind fun v16 =>
    (asI .i64 v16).bind fun n17 =>
    (ldA r13.2.1 (nx + 3) 1).bind fun v18 =>
    (asI .i64 v18).bind fun n19 =>
    (ldA r13.2.1 (nx + 3) 0).bind fun v20 =>
    (asI .i64 v20).bind fun n21 =>
    (x0).bind fun p22 =>
    (stA r13.2.1 p22.1 (p22.2 + 1) (.int .i64 (wrapA .i64 (n17 + (wrapA .i64 (n19 - n21))))) 1).bind fun b23 =>
    let h24 := AHeap.put r13.2.1 p22.1 (some b23)
    (x0).bind fun p25 =>
    (ldA h24 p25.1 (p25.2 + 2)).bind fun v26 =>
    (asSl v26).bind fun s27 =>
    (ldR h24 (nx + 3) 0 2).bind fun l28 =>
    (asAgg 2 (AV.agg l28)).bind fun d29 =>
    (asI .i64 (d29.getD 0 .bad)).bind fun n30 =>
    (asI .i64 (d29.getD 1 .bad)).bind fun n31 =>
    let h32 := AHeap.put h24 (r13.2.2 + 20) (some ⟨[(.bool true), (.int .i64 n30), (.int .i64 n31)], 3, true⟩)
    (srcS h32 (some ((r13.2.2 + 20), 0)) 1 3).bind fun q33 =>
    (appD h32 s27.1 s27.2.1 s27.2.2 3 24 (r13.2.2 + 21) q33).bind fun e34 =>
    let h35 := AHeap.puts h32 e34.sets
    (x0).bind fun p36 =>
    (stA h35 p36.1 (p36.2 + 2) (.slice e34.a e34.n e34.c) 1).bind fun b37 =>
    let h38 := AHeap.put h35 p36.1 (some b37)
    ifApart [([(r13.2.2 + 20)], [p25.1])]
    (F53_L1 call Y lf n0 x0 x7a x7n x7c x8 (wrapA .i64 (x9 + 1)) h38 (r13.2.2 + 27)))
    else none)
    else
    ((x0).bind fun p39 =>
    (ldA h p39.1 p39.2).bind fun v40 =>
    (asSl v40).bind fun s41 =>
    F53_L2 call Y lf lf x0 s41.1 s41.2.1 s41.2.2 ((s41.2.1 : Nat) : Int) 0 h (nx + 7)) := F53_L1_eq' go1 call Y lf n0 x0 x7a x7n x7c x8 x9 h nx

theorem F53_L1_zero (call : YldF → CallF) (Y : YldF) (lf : Nat) (x0 : Option (Nat × Nat)) (x7a : Option (Nat × Nat)) (x7n : Nat) (x7c : Bool) (x8 : Int) (x9 : Int) (h : AHeap) (nx : Nat) : F53_L1 call Y lf 0 x0 x7a x7n x7c x8 x9 h nx = none := by kernel_rfl

theorem F53_L2_eq' (J : StepF (AV × AHeap × Nat) → StepF (AV × AHeap × Nat)) (call : YldF → CallF) (Y : YldF) (lf : Nat) (n0 : Nat) (x0 : Option (Nat × Nat)) (x43a : Option (Nat × Nat)) (x43n : Nat) (x43c : Bool) (x44 : Int) (x45 : Int) (h : AHeap) (nx : Nat) : F53_L2' go1 J call Y lf (n0 + 1) x0 x43a x43n x43c x44 x45 h nx =
    if (decide ((x45 : Int) < x44)) = true then
    ((x43a).bind fun p1 =>
    if 0 ≤ (x45 : Int) ∧ x45 < ((x43n : Nat) : Int) then
    ((ldA h p1.1 (p1.2 + Int.toNat x45 * 1)).bind fun v2 =>
    (asI .u8 v2).bind fun n3 =>
    if ((n3 : Int) == 2) = true then
    ((x0).bind fun p4 =>
    (ldA h p4.1 p4.2).bind fun v5 =>
    (asSl v5).bind fun s6 =>
    (s6.1).bind fun p7 =>
    if 0 ≤ (x45 : Int) ∧ x45 < ((s6.2.1 : Nat) : Int) then
    ((stA h p7.1 (p7.2 + Int.toNat x45 * 1) (.int .u8 3) 1).bind fun b8 =>
    let h9 := AHeap.put h p7.1 (some b8)
    F53_L2' J J call Y lf n0 x0 x43a x43n x43c x44 (wrapA .i64 (x45 + 1)) h9 (nx + 17))
    else none)
    else
    (F53_L2' J J call Y lf n0 x0 x43a x43n x43c x44 (wrapA .i64 (x45 + 1)) h (nx + 10)))
    else none)
    else
    (some ((.tuple []), h, (nx + 1))) := by kernel_rfl

theorem F53_L2_eq (call : YldF → CallF) (Y : YldF) (lf : Nat) (n0 : Nat) (x0 : Option (Nat × Nat)) (x43a : Option (Nat × Nat)) (x43n : Nat) (x43c : Bool) (x44 : Int) (x45 : Int) (h : AHeap) (nx : Nat) : F53_L2 call Y lf (n0 + 1) x0 x43a x43n x43c x44 x45 h nx =
    if (decide ((x45 : Int) < x44)) = true then
    ((x43a).bind fun p1 =>
    if 0 ≤ (x45 : Int) ∧ x45 < ((x43n : Nat) : Int) then
    ((ldA h p1.1 (p1.2 + Int.toNat x45 * 1)).bind fun v2 =>
    (asI .u8 v2).bind fun n3 =>
    if ((n3 : Int) == 2) = true then
    ((x0).bind fun p4 =>
    (ldA h p4.1 p4.2).bind fun v5 =>
    (asSl v5).bind fun s6 =>
    (s6.1).bind fun p7 =>
    if 0 ≤ (x45 : Int) ∧ x45 < ((s6.2.1 : Nat) : Int) then
    ((stA h p7.1 (p7.2 + Int.toNat x45 * 1) (.int .u8 3) 1).bind fun b8 =>
    let h9 := AHeap.put h p7.1 (some b8)
    F53_L2 call Y lf n0 x0 x43a x43n x43c x44 (wrapA .i64 (x45 + 1)) h9 (nx + 17))
    else none)
    else
    (F53_L2 call Y lf n0 x0 x43a x43n x43c x44 (wrapA .i64 (x45 + 1)) h (nx + 10)))
    else none)
    else
    (some ((.tuple []), h, (nx + 1))) := F53_L2_eq' go1 call Y lf n0 x0 x43a x43n x43c x44 x45 h nx

theorem F53_L2_zero (call : YldF → CallF) (Y : YldF) (lf : Nat) (x0 : Option (Nat × Nat)) (x43a : Option (Nat × Nat)) (x43n : Nat) (x43c : Bool) (x44 : Int) (x45 : Int) (h : AHeap) (nx : Nat) : F53_L2 call Y lf 0 x0 x43a x43n x43c x44 x45 h nx = none := by kernel_rfl

theorem F53_eq' (J : StepF (AV × AHeap × Nat) → StepF (AV × AHeap × Nat)) (n : Nat) (Y : YldF) (x0 : Option (Nat × Nat)) (h : AHeap) (nx : Nat) : rootJ J Try.prog keepT (callP Try.prog keepT n) Y n 53 [(.ptr x0)] h nx =
    ((callP Try.prog keepT n) Y 47 [(.ptr x0), (.fn 63 [] [])] h (nx + 4)).bind fun r1 =>
    (asSl r1.1).bind fun s2 =>
    F53_L1' J J (callP Try.prog keepT n) Y n n x0 s2.1 s2.2.1 s2.2.2 ((s2.2.1 : Nat) : Int) 0 r1.2.1 r1.2.2 := by kernel_rfl

/-- (*quickset/space.space).commit -/
theorem F53_eq (n : Nat) (Y : YldF) (x0 : Option (Nat × Nat)) (h : AHeap) (nx : Nat) : callP Try.prog keepT (n + 1) Y 53 [(.ptr x0)] h nx =
    ((callP Try.prog keepT n) Y 47 [(.ptr x0), (.fn 63 [] [])] h (nx + 4)).bind fun r1 =>
    (asSl r1.1).bind fun s2 =>
    F53_L1 (callP Try.prog keepT n) Y n n x0 s2.1 s2.2.1 s2.2.2 ((s2.2.1 : Nat) : Int) 0 r1.2.1 r1.2.2 := F53_eq' go1 n Y x0 h nx

noncomputable def c54 : Code := (Try.f54.body).getD .skip

noncomputable def r54 : List ResultVar := Try.f54.results.toList

noncomputable def F54_J1' (W J : StepF (AV × AHeap × Nat) → StepF (AV × AHeap × Nat)) (call : YldF → CallF) (Y : YldF) (lf : Nat) (x0 : Option (Nat × Nat)) (x3 : Option (Nat × Nat)) (h : AHeap) (nx : Nat) : Option (AV × AHeap × Nat) :=
  goK W J drawK (machOf Try.prog) call Y (keepT 54) lf c54 [1, 1] [] (retK (machOf Try.prog) ⟨c54, 58, r54, keepT 54⟩) ⟨58, mkL [(0, (.ptr x0)), (3, (.ptr x3))]⟩ h nx

noncomputable def F54_J1 (call : YldF → CallF) (Y : YldF) (lf : Nat) (x0 : Option (Nat × Nat)) (x3 : Option (Nat × Nat)) (h : AHeap) (nx : Nat) : Option (AV × AHeap × Nat) := F54_J1' go1 go1 call Y lf x0 x3 h nx

noncomputable def F54_J2' (W J : StepF (AV × AHeap × Nat) → StepF (AV × AHeap × Nat)) (call : YldF → CallF) (Y : YldF) (lf : Nat) (x3 : Option (Nat × Nat)) (h : AHeap) (nx : Nat) : Option (AV × AHeap × Nat) :=
  goK W J drawK (machOf Try.prog) call Y (keepT 54) lf c54 [1, 1, 0, 1, 0, 1, 0, 1] [] (retK (machOf Try.prog) ⟨c54, 58, r54, keepT 54⟩) ⟨58, mkL [(3, (.ptr x3))]⟩ h nx

noncomputable def F54_J2 (call : YldF → CallF) (Y : YldF) (lf : Nat) (x3 : Option (Nat × Nat)) (h : AHeap) (nx : Nat) : Option (AV × AHeap × Nat) := F54_J2' go1 go1 call Y lf x3 h nx

theorem F54_J1_eq' (J : StepF (AV × AHeap × Nat) → StepF (AV × AHeap × Nat)) (call : YldF → CallF) (Y : YldF) (lf : Nat) (x0 : Option (Nat × Nat)) (x3 : Option (Nat × Nat)) (h : AHeap) (nx : Nat) : F54_J1' go1 J call Y lf x0 x3 h nx =
    (x3).bind fun p1 =>
    (ldA h p1.1 p1.2).bind fun v2 =>
    (asI .i64 v2).bind fun n3 =>
    if ((n3 : Int) == 1) = true then
    (if ((n3 : Int) == 1) = true then
    ((x3).bind fun p4 =>
    (ldA h p4.1 (p4.2 + 1)).bind fun v5 =>
    (asI .i64 v5).bind fun n6 =>
    if (decide ((n6 : Int) < 0)) = true then
    (some ((.int .i64 2), h, (nx + 18)))
    else
    ((x3).bind fun p7 =>
    (ldA h p7.1 (p7.2 + 1)).bind fun v8 =>
    (asI .i64 v8).bind fun n9 =>
    (x0).bind fun p10 =>
    (ldA h p10.1 p10.2).bind fun v11 =>
    (asSl v11).bind fun s12 =>
    if (decide ((n9 : Int) ≥ ((s12.2.1 : Nat) : Int))) = true then
    (some ((.int .i64 2), h, (nx + 18)))
    else
    (F54_J2' J J call Y lf x3 h (nx + 17))))
    else
    (some ((.int .i64 0), h, (nx + 5))))
    else
    (if ((n3 : Int) == 2) = true then
    (if ((n3 : Int) == 2) = true then
    ((x3).bind fun p13 =>
    (ldA h p13.1 (p13.2 + 1)).bind fun v14 =>
    (asI .i64 v14).bind fun n15 =>
    if (decide ((n15 : Int) < 0)) = true then
    (some ((.int .i64 2), h, (nx + 20)))
    else
    ((x3).bind fun p16 =>
    (ldA h p16.1 (p16.2 + 1)).bind fun v17 =>
    (asI .i64 v17).bind fun n18 =>
    (x0).bind fun p19 =>
    (ldA h p19.1 p19.2).bind fun v20 =>
    (asSl v20).bind fun s21 =>
    if (decide ((n18 : Int) ≥ ((s21.2.1 : Nat) : Int))) = true then
    (some ((.int .i64 2), h, (nx + 20)))
    else
    (F54_J2' J J call Y lf x3 h (nx + 19))))
    else
    (some ((.int .i64 0), h, (nx + 7))))
    else
    (if ((n3 : Int) == 5) = true then
    (if ((n3 : Int) == 5) = true then
    ((x3).bind fun p22 =>
    (ldA h p22.1 (p22.2 + 1)).bind fun v23 =>
    (asI .i64 v23).bind fun n24 =>
    if (decide ((n24 : Int) < 0)) = true then
    (some ((.int .i64 2), h, (nx + 22)))
    else
    ((x3).bind fun p25 =>
    (ldA h p25.1 (p25.2 + 1)).bind fun v26 =>
    (asI .i64 v26).bind fun n27 =>
    (x0).bind fun p28 =>
    (ldA h p28.1 p28.2).bind fun v29 =>
    (asSl v29).bind fun s30 =>
    if (decide ((n27 : Int) ≥ ((s30.2.1 : Nat) : Int))) = true then
    (some ((.int .i64 2), h, (nx + 22)))
    else
    (F54_J2' J J call Y lf x3 h (nx + 21))))
    else
    (some ((.int .i64 0), h, (nx + 9))))
    else
    (if ((n3 : Int) == 6) = true then
    ((x3).bind fun p31 =>
    (ldA h p31.1 (p31.2 + 1)).bind fun v32 =>
    (asI .i64 v32).bind fun n33 =>
    if (decide ((n33 : Int) < 0)) = true then
    (some ((.int .i64 2), h, (nx + 24)))
    else
    ((x3).bind fun p34 =>
    (ldA h p34.1 (p34.2 + 1)).bind fun v35 =>
    (asI .i64 v35).bind fun n36 =>
    (x0).bind fun p37 =>
    (ldA h p37.1 p37.2).bind fun v38 =>
    (asSl v38).bind fun s39 =>
    if (decide ((n36 : Int) ≥ ((s39.2.1 : Nat) : Int))) = true then
    (some ((.int .i64 2), h, (nx + 24)))
    else
    (F54_J2' J J call Y lf x3 h (nx + 23))))
    else
    (some ((.int .i64 0), h, (nx + 11)))))) := by kernel_rfl

theorem F54_J1_eq (call : YldF → CallF) (Y : YldF) (lf : Nat) (x0 : Option (Nat × Nat)) (x3 : Option (Nat × Nat)) (h : AHeap) (nx : Nat) : F54_J1 call Y lf x0 x3 h nx =
    (x3).bind fun p1 =>
    (ldA h p1.1 p1.2).bind fun v2 =>
    (asI .i64 v2).bind fun n3 =>
    if ((n3 : Int) == 1) = true then
    (if ((n3 : Int) == 1) = true then
    ((x3).bind fun p4 =>
    (ldA h p4.1 (p4.2 + 1)).bind fun v5 =>
    (asI .i64 v5).bind fun n6 =>
    if (decide ((n6 : Int) < 0)) = true then
    (some ((.int .i64 2), h, (nx + 18)))
    else
    ((x3).bind fun p7 =>
    (ldA h p7.1 (p7.2 + 1)).bind fun v8 =>
    (asI .i64 v8).bind fun n9 =>
    (x0).bind fun p10 =>
    (ldA h p10.1 p10.2).bind fun v11 =>
    (asSl v11).bind fun s12 =>
    if (decide ((n9 : Int) ≥ ((s12.2.1 : Nat) : Int))) = true then
    (some ((.int .i64 2), h, (nx + 18)))
    else
    (F54_J2 call Y lf x3 h (nx + 17))))
    else
    (some ((.int .i64 0), h, (nx + 5))))
    else
    (if ((n3 : Int) == 2) = true then
    (if ((n3 : Int) == 2) = true then
    ((x3).bind fun p13 =>
    (ldA h p13.1 (p13.2 + 1)).bind fun v14 =>
    (asI .i64 v14).bind fun n15 =>
    if (decide ((n15 : Int) < 0)) = true then
    (some ((.int .i64 2), h, (nx + 20)))
    else
    ((x3).bind fun p16 =>
    (ldA h p16.1 (p16.2 + 1)).bind fun v17 =>
    (asI .i64 v17).bind fun n18 =>
    (x0).bind fun p19 =>
    (ldA h p19.1 p19.2).bind fun v20 =>
    (asSl v20).bind fun s21 =>
    if (decide ((n18 : Int) ≥ ((s21.2.1 : Nat) : Int))) = true then
    (some ((.int .i64 2), h, (nx + 20)))
    else
    (F54_J2 call Y lf x3 h (nx + 19))))
    else
    (some ((.int .i64 0), h, (nx + 7))))
    else
    (if ((n3 : Int) == 5) = true then
    (if ((n3 : Int) == 5) = true then
    ((x3).bind fun p22 =>
    (ldA h p22.1 (p22.2 + 1)).bind fun v23 =>
    (asI .i64 v23).bind fun n24 =>
    if (decide ((n24 : Int) < 0)) = true then
    (some ((.int .i64 2), h, (nx + 22)))
    else
    ((x3).bind fun p25 =>
    (ldA h p25.1 (p25.2 + 1)).bind fun v26 =>
    (asI .i64 v26).bind fun n27 =>
    (x0).bind fun p28 =>
    (ldA h p28.1 p28.2).bind fun v29 =>
    (asSl v29).bind fun s30 =>
    if (decide ((n27 : Int) ≥ ((s30.2.1 : Nat) : Int))) = true then
    (some ((.int .i64 2), h, (nx + 22)))
    else
    (F54_J2 call Y lf x3 h (nx + 21))))
    else
    (some ((.int .i64 0), h, (nx + 9))))
    else
    (if ((n3 : Int) == 6) = true then
    ((x3).bind fun p31 =>
    (ldA h p31.1 (p31.2 + 1)).bind fun v32 =>
    (asI .i64 v32).bind fun n33 =>
    if (decide ((n33 : Int) < 0)) = true then
    (some ((.int .i64 2), h, (nx + 24)))
    else
    ((x3).bind fun p34 =>
    (ldA h p34.1 (p34.2 + 1)).bind fun v35 =>
    (asI .i64 v35).bind fun n36 =>
    (x0).bind fun p37 =>
    (ldA h p37.1 p37.2).bind fun v38 =>
    (asSl v38).bind fun s39 =>
    if (decide ((n36 : Int) ≥ ((s39.2.1 : Nat) : Int))) = true then
    (some ((.int .i64 2), h, (nx + 24)))
    else
    (F54_J2 call Y lf x3 h (nx + 23))))
    else
    (some ((.int .i64 0), h, (nx + 11)))))) := F54_J1_eq' go1 call Y lf x0 x3 h nx

theorem F54_J2_eq' (J : StepF (AV × AHeap × Nat) → StepF (AV × AHeap × Nat)) (call : YldF → CallF) (Y : YldF) (lf : Nat) (x3 : Option (Nat × Nat)) (h : AHeap) (nx : Nat) : F54_J2' go1 J call Y lf x3 h nx =
    (x3).bind fun p1 =>
    (ldA h p1.1 p1.2).bind fun v2 =>
    (asI .i64 v2).bind fun n3 =>
    if ((n3 : Int) == 1) = true then
    ((x3).bind fun p4 =>
    (ldA h p4.1 (p4.2 + 3)).bind fun v5 =>
    (asSl v5).bind fun s6 =>
    if ((((s6.2.1 : Nat) : Int) : Int) != 128) = true then
    (some ((.int .i64 1), h, (nx + 15)))
    else
    (some ((.int .i64 0), h, (nx + 15))))
    else
    ((x3).bind fun p7 =>
    (ldA h p7.1 p7.2).bind fun v8 =>
    (asI .i64 v8).bind fun n9 =>
    if ((n9 : Int) == 6) = true then
    ((x3).bind fun p10 =>
    (ldA h p10.1 (p10.2 + 3)).bind fun v11 =>
    (asSl v11).bind fun s12 =>
    if ((((s12.2.1 : Nat) : Int) : Int) != 128) = true then
    (some ((.int .i64 1), h, (nx + 15)))
    else
    (some ((.int .i64 0), h, (nx + 15))))
    else
    (some ((.int .i64 0), h, (nx + 15)))) := by kernel_rfl

theorem F54_J2_eq (call : YldF → CallF) (Y : YldF) (lf : Nat) (x3 : Option (Nat × Nat)) (h : AHeap) (nx : Nat) : F54_J2 call Y lf x3 h nx =
    (x3).bind fun p1 =>
    (ldA h p1.1 p1.2).bind fun v2 =>
    (asI .i64 v2).bind fun n3 =>
    if ((n3 : Int) == 1) = true then
    ((x3).bind fun p4 =>
    (ldA h p4.1 (p4.2 + 3)).bind fun v5 =>
    (asSl v5).bind fun s6 =>
    if ((((s6.2.1 : Nat) : Int) : Int) != 128) = true then
    (some ((.int .i64 1), h, (nx + 15)))
    else
    (some ((.int .i64 0), h, (nx + 15))))
    else
    ((x3).bind fun p7 =>
    (ldA h p7.1 p7.2).bind fun v8 =>
    (asI .i64 v8).bind fun n9 =>
    if ((n9 : Int) == 6) = true then
    ((x3).bind fun p10 =>
    (ldA h p10.1 (p10.2 + 3)).bind fun v11 =>
    (asSl v11).bind fun s12 =>
    if ((((s12.2.1 : Nat) : Int) : Int) != 128) = true then
    (some ((.int .i64 1), h, (nx + 15)))
    else
    (some ((.int .i64 0), h, (nx + 15))))
    else
    (some ((.int .i64 0), h, (nx + 15)))) := F54_J2_eq' go1 call Y lf x3 h nx

theorem F54_eq' (J : StepF (AV × AHeap × Nat) → StepF (AV × AHeap × Nat)) (n : Nat) (Y : YldF) (x0 : Option (Nat × Nat)) (x1_0 : Int) (x1_1 : Int) (x1_2 : Int) (x1_3a : Option (Nat × Nat)) (x1_3n : Nat) (x1_3c : Bool) (h : AHeap) (nx : Nat) : rootJ J Try.prog keepT (callP Try.prog keepT n) Y n 54 [(.ptr x0), (.agg [(.int .i64 x1_0), (.int .i64 x1_1), (.int .i64 x1_2), (.slice x1_3a x1_3n x1_3c)])] h nx =
    let h1 := AHeap.put h nx (some ⟨[(.int .i64 x1_0), (.int .i64 x1_1), (.int .i64 x1_2), (.slice x1_3a x1_3n x1_3c)], 4, true⟩)
    (ldA h1 nx 0).bind fun v2 =>
    (asI .i64 v2).bind fun n3 =>
    if (decide ((n3 : Int) < 1)) = true then
    (some ((.int .i64 3), h1, (nx + 12)))
    else
    ((ldA h1 nx 0).bind fun v4 =>
    (asI .i64 v4).bind fun n5 =>
    if (decide ((n5 : Int) > 8)) = true then
    (some ((.int .i64 3), h1, (nx + 12)))
    else
    ((x0).bind fun p6 =>
    (ldA h1 p6.1 (p6.2 + 2)).bind fun v7 =>
    (asB v7).bind fun t8 =>
    if t8 = true then
    ((ldA h1 nx 0).bind fun v9 =>
    (asI .i64 v9).bind fun n10 =>
    if ((n10 : Int) != 8) = true then
    (some ((.int .i64 13), h1, (nx + 22)))
    else
    (F54_J1' J J (callP Try.prog keepT n) Y n x0 (some (nx, 0)) h1 (nx + 21)))
    else
    (F54_J1' J J (callP Try.prog keepT n) Y n x0 (some (nx, 0)) h1 (nx + 21)))) := by kernel_rfl

/-- (*quickset/drive.Drive).fault -/
theorem F54_eq (n : Nat) (Y : YldF) (x0 : Option (Nat × Nat)) (x1_0 : Int) (x1_1 : Int) (x1_2 : Int) (x1_3a : Option (Nat × Nat)) (x1_3n : Nat) (x1_3c : Bool) (h : AHeap) (nx : Nat) : callP Try.prog keepT (n + 1) Y 54 [(.ptr x0), (.agg [(.int .i64 x1_0), (.int .i64 x1_1), (.int .i64 x1_2), (.slice x1_3a x1_3n x1_3c)])] h nx =
    let h1 := AHeap.put h nx (some ⟨[(.int .i64 x1_0), (.int .i64 x1_1), (.int .i64 x1_2), (.slice x1_3a x1_3n x1_3c)], 4, true⟩)
    (ldA h1 nx 0).bind fun v2 =>
    (asI .i64 v2).bind fun n3 =>
    if (decide ((n3 : Int) < 1)) = true then
    (some ((.int .i64 3), h1, (nx + 12)))
    else
    ((ldA h1 nx 0).bind fun v4 =>
    (asI .i64 v4).bind fun n5 =>
    if (decide ((n5 : Int) > 8)) = true then
    (some ((.int .i64 3), h1, (nx + 12)))
    else
    ((x0).bind fun p6 =>
    (ldA h1 p6.1 (p6.2 + 2)).bind fun v7 =>
    (asB v7).bind fun t8 =>
    if t8 = true then
    ((ldA h1 nx 0).bind fun v9 =>
    (asI .i64 v9).bind fun n10 =>
    if ((n10 : Int) != 8) = true then
    (some ((.int .i64 13), h1, (nx + 22)))
    else
    (F54_J1 (callP Try.prog keepT n) Y n x0 (some (nx, 0)) h1 (nx + 21)))
    else
    (F54_J1 (callP Try.prog keepT n) Y n x0 (some (nx, 0)) h1 (nx + 21)))) := F54_eq' go1 n Y x0 x1_0 x1_1 x1_2 x1_3a x1_3n x1_3c h nx

noncomputable def c55 : Code := (Try.f55.body).getD .skip

noncomputable def r55 : List ResultVar := Try.f55.results.toList

theorem F55_eq' (J : StepF (AV × AHeap × Nat) → StepF (AV × AHeap × Nat)) (n : Nat) (Y : YldF) (x0a : Option (Nat × Nat)) (x0n : Nat) (x0c : Bool) (h : AHeap) (nx : Nat) : rootJ J Try.prog keepT (callP Try.prog keepT n) Y n 55 [(.slice x0a x0n x0c)] h nx =
    if (Option.isNone x0a) = true then
    (some ((.slice none 0 false), h, (nx + 4)))
    else
    (let h1 := AHeap.put h (nx + 3) (some ⟨[], 1, true⟩)
    (srcS h1 x0a x0n 1).bind fun q2 =>
    (appD h1 (some ((nx + 3), 0)) 0 true 1 1 (nx + 5) q2).bind fun e3 =>
    let h4 := AHeap.puts h1 e3.sets
    some ((.slice e3.a e3.n e3.c), h4, (nx + 7))) := by kernel_rfl

/-- slices.Clone[[]byte,byte] -/
theorem F55_eq (n : Nat) (Y : YldF) (x0a : Option (Nat × Nat)) (x0n : Nat) (x0c : Bool) (h : AHeap) (nx : Nat) : callP Try.prog keepT (n + 1) Y 55 [(.slice x0a x0n x0c)] h nx =
    if (Option.isNone x0a) = true then
    (some ((.slice none 0 false), h, (nx + 4)))
    else
    (let h1 := AHeap.put h (nx + 3) (some ⟨[], 1, true⟩)
    (srcS h1 x0a x0n 1).bind fun q2 =>
    (appD h1 (some ((nx + 3), 0)) 0 true 1 1 (nx + 5) q2).bind fun e3 =>
    let h4 := AHeap.puts h1 e3.sets
    some ((.slice e3.a e3.n e3.c), h4, (nx + 7))) := F55_eq' go1 n Y x0a x0n x0c h nx

noncomputable def c56 : Code := (Try.f56.body).getD .skip

noncomputable def r56 : List ResultVar := Try.f56.results.toList

noncomputable def F56_R1' (W J : StepF (AV × AHeap × Nat) → StepF (AV × AHeap × Nat)) (call : YldF → CallF) (Y : YldF) (lf : Nat) (n0 : Nat) (x3 : Option (Nat × Nat)) (x4 : Option (Nat × Nat)) (y0 : Int) (y1_0 : Int) (y1_1a : Option (Nat × Nat)) (y1_1n : Nat) (y1_1c : Bool) (h : AHeap) (nx : Nat) : Option (AV × AHeap × Nat) :=
  goK W J drawK (machOf Try.prog) call Y (keepT 56) lf c56 [1, 0, 1, 0, 8] [n0] (retK (machOf Try.prog) ⟨c56, 44, r56, keepT 56⟩) (putPs ⟨44, mkL [(3, (.ptr x3)), (4, (.ptr x4))]⟩ [(.int .i64 y0), (.agg [(.int .i64 y1_0), (.slice y1_1a y1_1n y1_1c)])] [13, 14] 0) h nx

noncomputable def F56_R1 (call : YldF → CallF) (Y : YldF) (lf : Nat) (n0 : Nat) (x3 : Option (Nat × Nat)) (x4 : Option (Nat × Nat)) (y0 : Int) (y1_0 : Int) (y1_1a : Option (Nat × Nat)) (y1_1n : Nat) (y1_1c : Bool) (h : AHeap) (nx : Nat) : Option (AV × AHeap × Nat) := F56_R1' go1 go1 call Y lf n0 x3 x4 y0 y1_0 y1_1a y1_1n y1_1c h nx

theorem F56_R1_eq' (J : StepF (AV × AHeap × Nat) → StepF (AV × AHeap × Nat)) (call : YldF → CallF) (Y : YldF) (lf : Nat) (n0 : Nat) (x3 : Option (Nat × Nat)) (x4 : Option (Nat × Nat)) (y0 : Int) (y1_0 : Int) (y1_1a : Option (Nat × Nat)) (y1_1n : Nat) (y1_1c : Bool) (h : AHeap) (nx : Nat) : F56_R1' go1 J call Y lf n0 x3 x4 y0 y1_0 y1_1a y1_1n y1_1c h nx =
    let h1 := AHeap.put h nx (some ⟨[(.int .i64 0), (.slice none 0 false)], 2, true⟩)
    (stA h1 nx 0 (.agg [(.int .i64 y1_0), (.slice y1_1a y1_1n y1_1c)]) 2).bind fun b2 =>
    let h3 := AHeap.put h1 nx (some b2)
    if isReady h3 n0 LB = true then
    (let h4 := AHeap.put h3 n0 (some ⟨[], LB + 1, true⟩)
    (ldA h4 nx 0).bind fun v5 =>
    (asI .i64 v5).bind fun n6 =>
    (x3).bind fun p7 =>
    (ldA h4 p7.1 p7.2).bind fun v8 =>
    (asI .i64 v8).bind fun n9 =>
    if ((n6 : Int) == n9) = true then
    ((ldA h4 nx 1).bind fun v10 =>
    (asSl v10).bind fun s11 =>
    (call Y 55 [(.slice s11.1 s11.2.1 s11.2.2)] h4 (nx + 11)).bind fun r12 =>
    (asSl r12.1).bind fun s13 =>
    (x4).bind fun p14 =>
    (stA r12.2.1 p14.1 p14.2 (.agg [(.int .i64 0), (.slice s13.1 s13.2.1 s13.2.2)]) 2).bind fun b15 =>
    let h16 := AHeap.put r12.2.1 p14.1 (some b15)
    if isReady h16 n0 (LB + 1) = true then some (.bool false, AHeap.put h16 n0 (some ⟨[], LB + 2, true⟩), r12.2.2) else none)
    else
    (if isReady h4 n0 (LB + 1) = true then some (.bool true, AHeap.put h4 n0 (some ⟨[], LB, true⟩), (nx + 6)) else none))
    else none := by kernel_rfl

theorem F56_R1_eq (call : YldF → CallF) (Y : YldF) (lf : Nat) (n0 : Nat) (x3 : Option (Nat × Nat)) (x4 : Option (Nat × Nat)) (y0 : Int) (y1_0 : Int) (y1_1a : Option (Nat × Nat)) (y1_1n : Nat) (y1_1c : Bool) (h : AHeap) (nx : Nat) : F56_R1 call Y lf n0 x3 x4 y0 y1_0 y1_1a y1_1n y1_1c h nx =
    let h1 := AHeap.put h nx (some ⟨[(.int .i64 0), (.slice none 0 false)], 2, true⟩)
    (stA h1 nx 0 (.agg [(.int .i64 y1_0), (.slice y1_1a y1_1n y1_1c)]) 2).bind fun b2 =>
    let h3 := AHeap.put h1 nx (some b2)
    if isReady h3 n0 LB = true then
    (let h4 := AHeap.put h3 n0 (some ⟨[], LB + 1, true⟩)
    (ldA h4 nx 0).bind fun v5 =>
    (asI .i64 v5).bind fun n6 =>
    (x3).bind fun p7 =>
    (ldA h4 p7.1 p7.2).bind fun v8 =>
    (asI .i64 v8).bind fun n9 =>
    if ((n6 : Int) == n9) = true then
    ((ldA h4 nx 1).bind fun v10 =>
    (asSl v10).bind fun s11 =>
    (call Y 55 [(.slice s11.1 s11.2.1 s11.2.2)] h4 (nx + 11)).bind fun r12 =>
    (asSl r12.1).bind fun s13 =>
    (x4).bind fun p14 =>
    (stA r12.2.1 p14.1 p14.2 (.agg [(.int .i64 0), (.slice s13.1 s13.2.1 s13.2.2)]) 2).bind fun b15 =>
    let h16 := AHeap.put r12.2.1 p14.1 (some b15)
    if isReady h16 n0 (LB + 1) = true then some (.bool false, AHeap.put h16 n0 (some ⟨[], LB + 2, true⟩), r12.2.2) else none)
    else
    (if isReady h4 n0 (LB + 1) = true then some (.bool true, AHeap.put h4 n0 (some ⟨[], LB, true⟩), (nx + 6)) else none))
    else none := F56_R1_eq' go1 call Y lf n0 x3 x4 y0 y1_0 y1_1a y1_1n y1_1c h nx

theorem F56_eq' (J : StepF (AV × AHeap × Nat) → StepF (AV × AHeap × Nat)) (n : Nat) (Y : YldF) (x0 : Option (Nat × Nat)) (x1 : Int) (h : AHeap) (nx : Nat) : rootJ J Try.prog keepT (callP Try.prog keepT n) Y n 56 [(.ptr x0), (.int .i64 x1)] h nx =
    let h1 := AHeap.put h nx (some ⟨[(.int .i64 x1)], 1, true⟩)
    let h2 := AHeap.put h1 (nx + 1) (some ⟨[(.int .i64 0), (.slice none 0 false)], 2, true⟩)
    (x0).bind fun p3 =>
    (ldA h2 p3.1 (p3.2 + 1)).bind fun v4 =>
    (asSl v4).bind fun s5 =>
    ((callP Try.prog keepT n) Y 64 [(.slice s5.1 s5.2.1 s5.2.2)] h2 (nx + 7)).bind fun r6 =>
    (asFn r6.1).bind fun q7 =>
    ((callP Try.prog keepT n) (YX r6.2.2 (fun a8 h9 c10 => if Nat.beq a8.length 2 = true then
    ((asI .i64 (a8.getD 0 .bad)).bind fun n11 =>
    (asAgg 2 (a8.getD 1 .bad)).bind fun d12 =>
    (asI .i64 (d12.getD 0 .bad)).bind fun n13 =>
    (asSl (d12.getD 1 .bad)).bind fun s14 =>
    F56_R1' J J (callP Try.prog keepT n) Y n r6.2.2 (some (nx, 0)) (some ((nx + 1), 0)) n11 n13 s14.1 s14.2.1 s14.2.2 h9 c10)
    else none) Y) q7.1 (q7.2.1 ++ [.yld r6.2.2] ++ q7.2.2) (AHeap.put r6.2.1 r6.2.2 (some ⟨[], LB, true⟩)) (r6.2.2 + 1)).bind fun r15 =>
    (r15.2.1 r6.2.2).bind fun b16 =>
    if Nat.beq b16.es LB = true then
    (let h17 := AHeap.put r15.2.1 r6.2.2 none
    (x0).bind fun p22 =>
    (ldA h17 p22.1 p22.2).bind fun v23 =>
    (asSl v23).bind fun s24 =>
    (ldA h17 nx 0).bind fun v25 =>
    (asI .i64 v25).bind fun n26 =>
    (s24.1).bind fun p27 =>
    if 0 ≤ (n26 : Int) ∧ n26 < ((s24.2.1 : Nat) : Int) then
    ((ldR h17 p27.1 (p27.2 + Int.toNat n26 * 2) 2).bind fun l28 =>
    (asAgg 2 (AV.agg l28)).bind fun d29 =>
    (asSl (d29.getD 0 .bad)).bind fun s30 =>
    (asB (d29.getD 1 .bad)).bind fun t31 =>
    let h32 := AHeap.put h17 (r15.2.2 + 7) (some ⟨[(.slice none 0 false), (.bool false)], 2, true⟩)
    (stA h32 (r15.2.2 + 7) 0 (.agg [(.slice s30.1 s30.2.1 s30.2.2), (.bool t31)]) 2).bind fun b33 =>
    let h34 := AHeap.put h32 (r15.2.2 + 7) (some b33)
    ifApart [([(r15.2.2 + 7)], [p22.1]), ([(r15.2.2 + 7)], [nx]), ([(r15.2.2 + 7)], [p27.1])]
    ((ldA h34 (r15.2.2 + 7) 1).bind fun v35 =>
    (asB v35).bind fun t36 =>
    if t36 = true then
    ((stA h34 (nx + 1) 0 (.agg [(.int .i64 12), (.slice none 0 false)]) 2).bind fun b37 =>
    let h38 := AHeap.put h34 (nx + 1) (some b37)
    (ldR h38 (nx + 1) 0 2).bind fun l39 =>
    (asAgg 2 (AV.agg l39)).bind fun d40 =>
    (asI .i64 (d40.getD 0 .bad)).bind fun n41 =>
    (asSl (d40.getD 1 .bad)).bind fun s42 =>
    some ((.agg [(.int .i64 n41), (.slice s42.1 s42.2.1 s42.2.2)]), h38, (r15.2.2 + 14)))
    else
    ((ldA h34 (r15.2.2 + 7) 0).bind fun v43 =>
    (asSl v43).bind fun s44 =>
    if (Option.isNone s44.1) = true then
    (if (decide (0 ≤ (128 : Int)) && decide ((128 : Int) ≤ 128) && decide (((1 : Nat) : Int) * 128 ≤ 281474976710656) && decide ((128 : Int) ≤ 9223372036854775807) && 1 != 0) = true then
    (let h45 := AHeap.put h34 (r15.2.2 + 16) (some ⟨(madeA [(.int .u8 0)] (Int.toNat 128 * 1)), 1, true⟩)
    (stA h45 (nx + 1) 0 (.agg [(.int .i64 0), (.slice (some ((r15.2.2 + 16), 0)) (Int.toNat 128) true)]) 2).bind fun b46 =>
    let h47 := AHeap.put h45 (nx + 1) (some b46)
    (ldR h47 (nx + 1) 0 2).bind fun l48 =>
    (asAgg 2 (AV.agg l48)).bind fun d49 =>
    (asI .i64 (d49.getD 0 .bad)).bind fun n50 =>
    (asSl (d49.getD 1 .bad)).bind fun s51 =>
    some ((.agg [(.int .i64 n50), (.slice s51.1 s51.2.1 s51.2.2)]), h47, (r15.2.2 + 19)))
    else none)
    else
    ((ldA h34 (r15.2.2 + 7) 0).bind fun v52 =>
    (asSl v52).bind fun s53 =>
    ((callP Try.prog keepT n) Y 55 [(.slice s53.1 s53.2.1 s53.2.2)] h34 (r15.2.2 + 21)).bind fun r54 =>
    (asSl r54.1).bind fun s55 =>
    (stA r54.2.1 (nx + 1) 0 (.agg [(.int .i64 0), (.slice s55.1 s55.2.1 s55.2.2)]) 2).bind fun b56 =>
    let h57 := AHeap.put r54.2.1 (nx + 1) (some b56)
    (ldR h57 (nx + 1) 0 2).bind fun l58 =>
    (asAgg 2 (AV.agg l58)).bind fun d59 =>
    (asI .i64 (d59.getD 0 .bad)).bind fun n60 =>
    (asSl (d59.getD 1 .bad)).bind fun s61 =>
    some ((.agg [(.int .i64 n60), (.slice s61.1 s61.2.1 s61.2.2)]), h57, r54.2.2)))))
    else none)
    else
    (if Nat.beq b16.es (LB + 2) = true then
    (let h17 := AHeap.put r15.2.1 r6.2.2 none
    (ldR h17 (nx + 1) 0 2).bind fun l18 =>
    (asAgg 2 (AV.agg l18)).bind fun d19 =>
    (asI .i64 (d19.getD 0 .bad)).bind fun n20 =>
    (asSl (d19.getD 1 .bad)).bind fun s21 =>
    some ((.agg [(.int .i64 n20), (.slice s21.1 s21.2.1 s21.2.2)]), h17, r15.2.2))
    else
    (none)) := by kernel_rfl

/-- (*quickset/drive.Drive).get -/
theorem F56_eq (n : Nat) (Y : YldF) (x0 : Option (Nat × Nat)) (x1 : Int) (h : AHeap) (nx : Nat) : callP Try.prog keepT (n + 1) Y 56 [(.ptr x0), (.int .i64 x1)] h nx =
    let h1 := AHeap.put h nx (some ⟨[(.int .i64 x1)], 1, true⟩)
    let h2 := AHeap.put h1 (nx + 1) (some ⟨[(.int .i64 0), (.slice none 0 false)], 2, true⟩)
    (x0).bind fun p3 =>
    (ldA h2 p3.1 (p3.2 + 1)).bind fun v4 =>
    (asSl v4).bind fun s5 =>
    ((callP Try.prog keepT n) Y 64 [(.slice s5.1 s5.2.1 s5.2.2)] h2 (nx + 7)).bind fun r6 =>
    (asFn r6.1).bind fun q7 =>
    ((callP Try.prog keepT n) (YX r6.2.2 (fun a8 h9 c10 => if Nat.beq a8.length 2 = true then
    ((asI .i64 (a8.getD 0 .bad)).bind fun n11 =>
    (asAgg 2 (a8.getD 1 .bad)).bind fun d12 =>
    (asI .i64 (d12.getD 0 .bad)).bind fun n13 =>
    (asSl (d12.getD 1 .bad)).bind fun s14 =>
    F56_R1 (callP Try.prog keepT n) Y n r6.2.2 (some (nx, 0)) (some ((nx + 1), 0)) n11 n13 s14.1 s14.2.1 s14.2.2 h9 c10)
    else none) Y) q7.1 (q7.2.1 ++ [.yld r6.2.2] ++ q7.2.2) (AHeap.put r6.2.1 r6.2.2 (some ⟨[], LB, true⟩)) (r6.2.2 + 1)).bind fun r15 =>
    (r15.2.1 r6.2.2).bind fun b16 =>
    if Nat.beq b16.es LB = true then
    (let h17 := AHeap.put r15.2.1 r6.2.2 none
    (x0).bind fun p22 =>
    (ldA h17 p22.1 p22.2).bind fun v23 =>
    (asSl v23).bind fun s24 =>
    (ldA h17 nx 0).bind fun v25 =>
    (asI .i64 v25).bind fun n26 =>
    (s24.1).bind fun p27 =>
    if 0 ≤ (n26 : Int) ∧ n26 < ((s24.2.1 : Nat) : Int) then
    ((ldR h17 p27.1 (p27.2 + Int.toNat n26 * 2) 2).bind fun l28 =>
    (asAgg 2 (AV.agg l28)).bind fun d29 =>
    (asSl (d29.getD 0 .bad)).bind fun s30 =>
    (asB (d29.getD 1 .bad)).bind fun t31 =>
    let h32 := AHeap.put h17 (r15.2.2 + 7) (some ⟨[(.slice none 0 false), (.bool false)], 2, true⟩)
    (stA h32 (r15.2.2 + 7) 0 (.agg [(.slice s30.1 s30.2.1 s30.2.2), (.bool t31)]) 2).bind fun b33 =>
    let h34 := AHeap.put h32 (r15.2.2 + 7) (some b33)
    ifApart [([(r15.2.2 + 7)], [p22.1]), ([(r15.2.2 + 7)], [nx]), ([(r15.2.2 + 7)], [p27.1])]
    ((ldA h34 (r15.2.2 + 7) 1).bind fun v35 =>
    (asB v35).bind fun t36 =>
    if t36 = true then
    ((stA h34 (nx + 1) 0 (.agg [(.int .i64 12), (.slice none 0 false)]) 2).bind fun b37 =>
    let h38 := AHeap.put h34 (nx + 1) (some b37)
    (ldR h38 (nx + 1) 0 2).bind fun l39 =>
    (asAgg 2 (AV.agg l39)).bind fun d40 =>
    (asI .i64 (d40.getD 0 .bad)).bind fun n41 =>
    (asSl (d40.getD 1 .bad)).bind fun s42 =>
    some ((.agg [(.int .i64 n41), (.slice s42.1 s42.2.1 s42.2.2)]), h38, (r15.2.2 + 14)))
    else
    ((ldA h34 (r15.2.2 + 7) 0).bind fun v43 =>
    (asSl v43).bind fun s44 =>
    if (Option.isNone s44.1) = true then
    (if (decide (0 ≤ (128 : Int)) && decide ((128 : Int) ≤ 128) && decide (((1 : Nat) : Int) * 128 ≤ 281474976710656) && decide ((128 : Int) ≤ 9223372036854775807) && 1 != 0) = true then
    (let h45 := AHeap.put h34 (r15.2.2 + 16) (some ⟨(madeA [(.int .u8 0)] (Int.toNat 128 * 1)), 1, true⟩)
    (stA h45 (nx + 1) 0 (.agg [(.int .i64 0), (.slice (some ((r15.2.2 + 16), 0)) (Int.toNat 128) true)]) 2).bind fun b46 =>
    let h47 := AHeap.put h45 (nx + 1) (some b46)
    (ldR h47 (nx + 1) 0 2).bind fun l48 =>
    (asAgg 2 (AV.agg l48)).bind fun d49 =>
    (asI .i64 (d49.getD 0 .bad)).bind fun n50 =>
    (asSl (d49.getD 1 .bad)).bind fun s51 =>
    some ((.agg [(.int .i64 n50), (.slice s51.1 s51.2.1 s51.2.2)]), h47, (r15.2.2 + 19)))
    else none)
    else
    ((ldA h34 (r15.2.2 + 7) 0).bind fun v52 =>
    (asSl v52).bind fun s53 =>
    ((callP Try.prog keepT n) Y 55 [(.slice s53.1 s53.2.1 s53.2.2)] h34 (r15.2.2 + 21)).bind fun r54 =>
    (asSl r54.1).bind fun s55 =>
    (stA r54.2.1 (nx + 1) 0 (.agg [(.int .i64 0), (.slice s55.1 s55.2.1 s55.2.2)]) 2).bind fun b56 =>
    let h57 := AHeap.put r54.2.1 (nx + 1) (some b56)
    (ldR h57 (nx + 1) 0 2).bind fun l58 =>
    (asAgg 2 (AV.agg l58)).bind fun d59 =>
    (asI .i64 (d59.getD 0 .bad)).bind fun n60 =>
    (asSl (d59.getD 1 .bad)).bind fun s61 =>
    some ((.agg [(.int .i64 n60), (.slice s61.1 s61.2.1 s61.2.2)]), h57, r54.2.2)))))
    else none)
    else
    (if Nat.beq b16.es (LB + 2) = true then
    (let h17 := AHeap.put r15.2.1 r6.2.2 none
    (ldR h17 (nx + 1) 0 2).bind fun l18 =>
    (asAgg 2 (AV.agg l18)).bind fun d19 =>
    (asI .i64 (d19.getD 0 .bad)).bind fun n20 =>
    (asSl (d19.getD 1 .bad)).bind fun s21 =>
    some ((.agg [(.int .i64 n20), (.slice s21.1 s21.2.1 s21.2.2)]), h17, r15.2.2))
    else
    (none)) := F56_eq' go1 n Y x0 x1 h nx

noncomputable def c57 : Code := (Try.f57.body).getD .skip

noncomputable def r57 : List ResultVar := Try.f57.results.toList

noncomputable def F57_L1' (W J : StepF (AV × AHeap × Nat) → StepF (AV × AHeap × Nat)) (call : YldF → CallF) (Y : YldF) (lf : Nat) (n0 : Nat) (x0 : Option (Nat × Nat)) (x1 : AV) (x9a : Option (Nat × Nat)) (x9n : Nat) (x9c : Bool) (x10 : Int) (x11 : Int) (h : AHeap) (nx : Nat) : Option (AV × AHeap × Nat) :=
  goK W J drawK (machOf Try.prog) call Y (keepT 57) lf c57 [0, 1, 0, 9] [n0] (retK (machOf Try.prog) ⟨c57, 33, r57, keepT 57⟩) ⟨33, mkL [(0, (.ptr x0)), (1, x1), (9, (.slice x9a x9n x9c)), (10, (.int .i64 x10)), (11, (.int .i64 x11))]⟩ h nx

noncomputable def F57_L1 (call : YldF → CallF) (Y : YldF) (lf : Nat) (n0 : Nat) (x0 : Option (Nat × Nat)) (x1 : AV) (x9a : Option (Nat × Nat)) (x9n : Nat) (x9c : Bool) (x10 : Int) (x11 : Int) (h : AHeap) (nx : Nat) : Option (AV × AHeap × Nat) := F57_L1' go1 go1 call Y lf n0 x0 x1 x9a x9n x9c x10 x11 h nx

theorem F57_L1_eq' (J : StepF (AV × AHeap × Nat) → StepF (AV × AHeap × Nat)) (call : YldF → CallF) (Y : YldF) (lf : Nat) (n0 : Nat) (x0 : Option (Nat × Nat)) (x1 : AV) (x9a : Option (Nat × Nat)) (x9n : Nat) (x9c : Bool) (x10 : Int) (x11 : Int) (h : AHeap) (nx : Nat) : F57_L1' go1 J call Y lf (n0 + 1) x0 x1 x9a x9n x9c x10 x11 h nx =
    if (decide ((x11 : Int) < x10)) = true then
    ((x9a).bind fun p1 =>
    if 0 ≤ (x11 : Int) ∧ x11 < ((x9n : Nat) : Int) then
    ((ldR h p1.1 (p1.2 + Int.toNat x11 * 2) 2).bind fun l2 =>
    (asAgg 2 (AV.agg l2)).bind fun d3 =>
    (asI .i64 (d3.getD 0 .bad)).bind fun n4 =>
    (asSl (d3.getD 1 .bad)).bind fun s5 =>
    let h6 := AHeap.put h (nx + 4) (some ⟨[(.int .i64 0), (.slice none 0 false)], 2, true⟩)
    (stA h6 (nx + 4) 0 (.agg [(.int .i64 n4), (.slice s5.1 s5.2.1 s5.2.2)]) 2).bind fun b7 =>
    let h8 := AHeap.put h6 (nx + 4) (some b7)
    (asCal x1).bind fun q10 =>
    (callC (call Y) Y q10.1 (q10.2.1 ++ [(.int .i64 x11)] ++ q10.2.2) h8 (nx + 10)).bind fun r9 =>
    (asB r9.1).bind fun t11 =>
    if t11 = true then
    ((x0).bind fun p12 =>
    (ldA r9.2.1 p12.1 p12.2).bind fun v13 =>
    (asSl v13).bind fun s14 =>
    (ldA r9.2.1 (nx + 4) 0).bind fun v15 =>
    (asI .i64 v15).bind fun n16 =>
    (ldA r9.2.1 (nx + 4) 1).bind fun v17 =>
    (asSl v17).bind fun s18 =>
    (s14.1).bind fun p19 =>
    if 0 ≤ (n16 : Int) ∧ n16 < ((s14.2.1 : Nat) : Int) then
    ((stA r9.2.1 p19.1 (p19.2 + Int.toNat n16 * 2) (.agg [(.slice s18.1 s18.2.1 s18.2.2), (.bool false)]) 2).bind fun b20 =>
    let h21 := AHeap.put r9.2.1 p19.1 (some b20)
    F57_L1' J J call Y lf n0 x0 (x1) x9a x9n x9c x10 (wrapA .i64 (x11 + 1)) h21 (r9.2.2 + 13))
    else none)
    else
    (F57_L1' J J call Y lf n0 x0 (x1) x9a x9n x9c x10 (wrapA .i64 (x11 + 1)) r9.2.1 (r9.2.2 + 2)))
    else none)
    else
    ((x0).bind fun p22 =>
    (stA h p22.1 (p22.2 + 1) (.slice none 0 false) 1).bind fun b23 =>
    let h24 := AHeap.put h p22.1 (some b23)
    some ((.tuple []), h24, (nx + 5))) := by kernel_rfl

theorem F57_L1_eq (call : YldF → CallF) (Y : YldF) (lf : Nat) (n0 : Nat) (x0 : Option (Nat × Nat)) (x1 : AV) (x9a : Option (Nat × Nat)) (x9n : Nat) (x9c : Bool) (x10 : Int) (x11 : Int) (h : AHeap) (nx : Nat) : F57_L1 call Y lf (n0 + 1) x0 x1 x9a x9n x9c x10 x11 h nx =
    if (decide ((x11 : Int) < x10)) = true then
    ((x9a).bind fun p1 =>
    if 0 ≤ (x11 : Int) ∧ x11 < ((x9n : Nat) : Int) then
    ((ldR h p1.1 (p1.2 + Int.toNat x11 * 2) 2).bind fun l2 =>
    (asAgg 2 (AV.agg l2)).bind fun d3 =>
    (asI .i64 (d3.getD 0 .bad)).bind fun n4 =>
    (asSl (d3.getD 1 .bad)).bind fun s5 =>
    let h6 := AHeap.put h (nx + 4) (some ⟨[(.int .i64 0), (.slice none 0 false)], 2, true⟩)
    (stA h6 (nx + 4) 0 (.agg [(.int .i64 n4), (.slice s5.1 s5.2.1 s5.2.2)]) 2).bind fun b7 =>
    let h8 := AHeap.put h6 (nx + 4) (some b7)
    (asCal x1).bind fun q10 =>
    (callC (call Y) Y q10.1 (q10.2.1 ++ [(.int .i64 x11)] ++ q10.2.2) h8 (nx + 10)).bind fun r9 =>
    (asB r9.1).bind fun t11 =>
    if t11 = true then
    ((x0).bind fun p12 =>
    (ldA r9.2.1 p12.1 p12.2).bind fun v13 =>
    (asSl v13).bind fun s14 =>
    (ldA r9.2.1 (nx + 4) 0).bind fun v15 =>
    (asI .i64 v15).bind fun n16 =>
    (ldA r9.2.1 (nx + 4) 1).bind fun v17 =>
    (asSl v17).bind fun s18 =>
    (s14.1).bind fun p19 =>
    if 0 ≤ (n16 : Int) ∧ n16 < ((s14.2.1 : Nat) : Int) then
    ((stA r9.2.1 p19.1 (p19.2 + Int.toNat n16 * 2) (.agg [(.slice s18.1 s18.2.1 s18.2.2), (.bool false)]) 2).bind fun b20 =>
    let h21 := AHeap.put r9.2.1 p19.1 (some b20)
    F57_L1 call Y lf n0 x0 (x1) x9a x9n x9c x10 (wrapA .i64 (x11 + 1)) h21 (r9.2.2 + 13))
    else none)
    else
    (F57_L1 call Y lf n0 x0 (x1) x9a x9n x9c x10 (wrapA .i64 (x11 + 1)) r9.2.1 (r9.2.2 + 2)))
    else none)
    else
    ((x0).bind fun p22 =>
    (stA h p22.1 (p22.2 + 1) (.slice none 0 false) 1).bind fun b23 =>
    let h24 := AHeap.put h p22.1 (some b23)
    some ((.tuple []), h24, (nx + 5))) := F57_L1_eq' go1 call Y lf n0 x0 x1 x9a x9n x9c x10 x11 h nx

theorem F57_L1_zero (call : YldF → CallF) (Y : YldF) (lf : Nat) (x0 : Option (Nat × Nat)) (x1 : AV) (x9a : Option (Nat × Nat)) (x9n : Nat) (x9c : Bool) (x10 : Int) (x11 : Int) (h : AHeap) (nx : Nat) : F57_L1 call Y lf 0 x0 x1 x9a x9n x9c x10 x11 h nx = none := by kernel_rfl

theorem F57_eq' (J : StepF (AV × AHeap × Nat) → StepF (AV × AHeap × Nat)) (n : Nat) (Y : YldF) (x0 : Option (Nat × Nat)) (x1 : AV) (h : AHeap) (nx : Nat) : rootJ J Try.prog keepT (callP Try.prog keepT n) Y n 57 [(.ptr x0), x1] h nx =
    (x0).bind fun p1 =>
    (ldA h p1.1 (p1.2 + 1)).bind fun v2 =>
    (asSl v2).bind fun s3 =>
    F57_L1' J J (callP Try.prog keepT n) Y n n x0 (x1) s3.1 s3.2.1 s3.2.2 ((s3.2.1 : Nat) : Int) 0 h (nx + 6) := by kernel_rfl

/-- (*quickset/drive.Drive).settle -/
theorem F57_eq (n : Nat) (Y : YldF) (x0 : Option (Nat × Nat)) (x1 : AV) (h : AHeap) (nx : Nat) : callP Try.prog keepT (n + 1) Y 57 [(.ptr x0), x1] h nx =
    (x0).bind fun p1 =>
    (ldA h p1.1 (p1.2 + 1)).bind fun v2 =>
    (asSl v2).bind fun s3 =>
    F57_L1 (callP Try.prog keepT n) Y n n x0 (x1) s3.1 s3.2.1 s3.2.2 ((s3.2.1 : Nat) : Int) 0 h (nx + 6) := F57_eq' go1 n Y x0 x1 h nx

noncomputable def c58 : Code := (Try.f58.body).getD .skip

noncomputable def r58 : List ResultVar := Try.f58.results.toList

theorem F58_eq' (J : StepF (AV × AHeap × Nat) → StepF (AV × AHeap × Nat)) (n : Nat) (Y : YldF) (x0 : Int) (h : AHeap) (nx : Nat) : rootJ J Try.prog keepT (callP Try.prog keepT n) Y n 58 [(.int .i64 x0)] h nx =
    some ((.bool true), h, (nx + 2)) := by kernel_rfl

/-- (*quickset/drive.Drive).Do$1 -/
theorem F58_eq (n : Nat) (Y : YldF) (x0 : Int) (h : AHeap) (nx : Nat) : callP Try.prog keepT (n + 1) Y 58 [(.int .i64 x0)] h nx =
    some ((.bool true), h, (nx + 2)) := F58_eq' go1 n Y x0 h nx

noncomputable def c59 : Code := (Try.f59.body).getD .skip

noncomputable def r59 : List ResultVar := Try.f59.results.toList

theorem F59_eq' (J : StepF (AV × AHeap × Nat) → StepF (AV × AHeap × Nat)) (n : Nat) (Y : YldF) (x0 : Int) (x1 : Option (Nat × Nat)) (h : AHeap) (nx : Nat) : rootJ J Try.prog keepT (callP Try.prog keepT n) Y n 59 [(.int .i64 x0), (.ptr x1)] h nx =
    (x1).bind fun p1 =>
    (ldA h p1.1 (p1.2 + 2)).bind fun v2 =>
    (asI .i64 v2).bind fun n3 =>
    if ((Int.tmod x0 62) : Int) < 0 then none else
    (some ((.bool (((bits .and .i64 (Int.fdiv n3 ((2:Int) ^ min (Int.toNat (Int.tmod x0 62)) (IntKind.bits .i64))) 1) : Int) == 1)), h, (nx + 9))) := by kernel_rfl

/-- (*quickset/drive.Drive).Do$2 -/
theorem F59_eq (n : Nat) (Y : YldF) (x0 : Int) (x1 : Option (Nat × Nat)) (h : AHeap) (nx : Nat) : callP Try.prog keepT (n + 1) Y 59 [(.int .i64 x0), (.ptr x1)] h nx =
    (x1).bind fun p1 =>
    (ldA h p1.1 (p1.2 + 2)).bind fun v2 =>
    (asI .i64 v2).bind fun n3 =>
    if ((Int.tmod x0 62) : Int) < 0 then none else
    (some ((.bool (((bits .and .i64 (Int.fdiv n3 ((2:Int) ^ min (Int.toNat (Int.tmod x0 62)) (IntKind.bits .i64))) 1) : Int) == 1)), h, (nx + 9))) := F59_eq' go1 n Y x0 x1 h nx

noncomputable def c60 : Code := (Try.f60.body).getD .skip

noncomputable def r60 : List ResultVar := Try.f60.results.toList

noncomputable def F60_L1' (W J : StepF (AV × AHeap × Nat) → StepF (AV × AHeap × Nat)) (call : YldF → CallF) (Y : YldF) (lf : Nat) (n0 : Nat) (x1a : Option (Nat × Nat)) (x1n : Nat) (x1c : Bool) (x4 : Option (Nat × Nat)) (x6 : Option (Nat × Nat)) (h : AHeap) (nx : Nat) : Option (AV × AHeap × Nat) :=
  goK W J drawK (machOf Try.prog) call Y (keepT 60) lf c60 [1, 1, 1, 0, 0, 9] [n0] (retK (machOf Try.prog) ⟨c60, 45, r60, keepT 60⟩) ⟨45, mkL [(1, (.slice x1a x1n x1c)), (4, (.ptr x4)), (6, (.ptr x6))]⟩ h nx

noncomputable def F60_L1 (call : YldF → CallF) (Y : YldF) (lf : Nat) (n0 : Nat) (x1a : Option (Nat × Nat)) (x1n : Nat) (x1c : Bool) (x4 : Option (Nat × Nat)) (x6 : Option (Nat × Nat)) (h : AHeap) (nx : Nat) : Option (AV × AHeap × Nat) := F60_L1' go1 go1 call Y lf n0 x1a x1n x1c x4 x6 h nx

theorem F60_L1_eq' (J : StepF (AV × AHeap × Nat) → StepF (AV × AHeap × Nat)) (call : YldF → CallF) (Y : YldF) (lf : Nat) (n0 : Nat) (x1a : Option (Nat × Nat)) (x1n : Nat) (x1c : Bool) (x4 : Option (Nat × Nat)) (x6 : Option (Nat × Nat)) (h : AHeap) (nx : Nat) : F60_L1' go1 J call Y lf (n0 + 1) x1a x1n x1c x4 x6 h nx =
    if (decide ((((x1n : Nat) : Int) : Int) > 0)) = true then
    ((x6).bind fun p1 =>
    (ldR h p1.1 p1.2 4).bind fun l2 =>
    (x1a).bind fun p3 =>
    if 0 ≤ (0 : Int) ∧ 0 < ((x1n : Nat) : Int) then
    ((ldA h p3.1 (p3.2 + Int.toNat 0 * 1)).bind fun v4 =>
    (asI .u8 v4).bind fun n5 =>
    (x1a).bind fun p6 =>
    if 0 ≤ (1 : Int) ∧ 1 < ((x1n : Nat) : Int) then
    ((ldA h p6.1 (p6.2 + Int.toNat 1 * 1)).bind fun v7 =>
    (asI .u8 v7).bind fun n8 =>
    (x1a).bind fun p9 =>
    if 0 ≤ (2 : Int) ∧ 2 < ((x1n : Nat) : Int) then
    ((ldA h p9.1 (p9.2 + Int.toNat 2 * 1)).bind fun v10 =>
    (asI .u8 v10).bind fun n11 =>
    (x1a).bind fun p12 =>
    if 0 ≤ (3 : Int) ∧ 3 < ((x1n : Nat) : Int) then
    ((ldA h p12.1 (p12.2 + Int.toNat 3 * 1)).bind fun v13 =>
    (asI .u8 v13).bind fun n14 =>
    (call Y 66 [(.agg l2), (.int .i64 (bits .or .i64 (bits .or .i64 (bits .or .i64 (wrapA .i64 n5) (wrapA .i64 ((wrapA .i64 n8) * (2:Int) ^ min (Int.toNat 8) (IntKind.bits .i64)))) (wrapA .i64 ((wrapA .i64 n11) * (2:Int) ^ min (Int.toNat 16) (IntKind.bits .i64)))) (wrapA .i64 ((wrapA .i64 n14) * (2:Int) ^ min (Int.toNat 24) (IntKind.bits .i64)))))] h (nx + 28)).bind fun r15 =>
    (asRow r15.1).bind fun d16 =>
    (x6).bind fun p17 =>
    (stA r15.2.1 p17.1 p17.2 (.agg d16) 4).bind fun b18 =>
    let h19 := AHeap.put r15.2.1 p17.1 (some b18)
    (cutA h19 x1a x1n x1c 1 (some (.int .i64 4)) none none).bind fun s20 =>
    F60_L1' J J call Y lf n0 s20.1 s20.2.1 s20.2.2 x4 x6 h19 (r15.2.2 + 3))
    else none)
    else none)
    else none)
    else none)
    else
    ((x6).bind fun p21 =>
    (ldR h p21.1 p21.2 4).bind fun l22 =>
    (call Y 67 [(.agg l22)] h (nx + 7)).bind fun r23 =>
    (asAgg 4 r23.1).bind fun d24 =>
    (asI .i64 (d24.getD 0 .bad)).bind fun n25 =>
    (asI .i64 (d24.getD 1 .bad)).bind fun n26 =>
    (asI .i64 (d24.getD 2 .bad)).bind fun n27 =>
    (asI .i64 (d24.getD 3 .bad)).bind fun n28 =>
    (x4).bind fun p29 =>
    (stA r23.2.1 p29.1 p29.2 (.agg [(.int .i64 n25), (.int .i64 n26), (.int .i64 n27), (.int .i64 n28)]) 4).bind fun b30 =>
    let h31 := AHeap.put r23.2.1 p29.1 (some b30)
    (x4).bind fun p32 =>
    (ldR h31 p32.1 p32.2 4).bind fun l33 =>
    (asAgg 4 (AV.agg l33)).bind fun d34 =>
    (asI .i64 (d34.getD 0 .bad)).bind fun n35 =>
    (asI .i64 (d34.getD 1 .bad)).bind fun n36 =>
    (asI .i64 (d34.getD 2 .bad)).bind fun n37 =>
    (asI .i64 (d34.getD 3 .bad)).bind fun n38 =>
    some ((.tuple [(.agg [(.int .i64 n35), (.int .i64 n36), (.int .i64 n37), (.int .i64 n38)]), (.int .i64 0)]), h31, r23.2.2)) := by kernel_rfl

theorem F60_L1_eq (call : YldF → CallF) (Y : YldF) (lf : Nat) (n0 : Nat) (x1a : Option (Nat × Nat)) (x1n : Nat) (x1c : Bool) (x4 : Option (Nat × Nat)) (x6 : Option (Nat × Nat)) (h : AHeap) (nx : Nat) : F60_L1 call Y lf (n0 + 1) x1a x1n x1c x4 x6 h nx =
    if (decide ((((x1n : Nat) : Int) : Int) > 0)) = true then
    ((x6).bind fun p1 =>
    (ldR h p1.1 p1.2 4).bind fun l2 =>
    (x1a).bind fun p3 =>
    if 0 ≤ (0 : Int) ∧ 0 < ((x1n : Nat) : Int) then
    ((ldA h p3.1 (p3.2 + Int.toNat 0 * 1)).bind fun v4 =>
    (asI .u8 v4).bind fun n5 =>
    (x1a).bind fun p6 =>
    if 0 ≤ (1 : Int) ∧ 1 < ((x1n : Nat) : Int) then
    ((ldA h p6.1 (p6.2 + Int.toNat 1 * 1)).bind fun v7 =>
    (asI .u8 v7).bind fun n8 =>
    (x1a).bind fun p9 =>
    if 0 ≤ (2 : Int) ∧ 2 < ((x1n : Nat) : Int) then
    ((ldA h p9.1 (p9.2 + Int.toNat 2 * 1)).bind fun v10 =>
    (asI .u8 v10).bind fun n11 =>
    (x1a).bind fun p12 =>
    if 0 ≤ (3 : Int) ∧ 3 < ((x1n : Nat) : Int) then
    ((ldA h p12.1 (p12.2 + Int.toNat 3 * 1)).bind fun v13 =>
    (asI .u8 v13).bind fun n14 =>
    (call Y 66 [(.agg l2), (.int .i64 (bits .or .i64 (bits .or .i64 (bits .or .i64 (wrapA .i64 n5) (wrapA .i64 ((wrapA .i64 n8) * (2:Int) ^ min (Int.toNat 8) (IntKind.bits .i64)))) (wrapA .i64 ((wrapA .i64 n11) * (2:Int) ^ min (Int.toNat 16) (IntKind.bits .i64)))) (wrapA .i64 ((wrapA .i64 n14) * (2:Int) ^ min (Int.toNat 24) (IntKind.bits .i64)))))] h (nx + 28)).bind fun r15 =>
    (asRow r15.1).bind fun d16 =>
    (x6).bind fun p17 =>
    (stA r15.2.1 p17.1 p17.2 (.agg d16) 4).bind fun b18 =>
    let h19 := AHeap.put r15.2.1 p17.1 (some b18)
    (cutA h19 x1a x1n x1c 1 (some (.int .i64 4)) none none).bind fun s20 =>
    F60_L1 call Y lf n0 s20.1 s20.2.1 s20.2.2 x4 x6 h19 (r15.2.2 + 3))
    else none)
    else none)
    else none)
    else none)
    else
    ((x6).bind fun p21 =>
    (ldR h p21.1 p21.2 4).bind fun l22 =>
    (call Y 67 [(.agg l22)] h (nx + 7)).bind fun r23 =>
    (asAgg 4 r23.1).bind fun d24 =>
    (asI .i64 (d24.getD 0 .bad)).bind fun n25 =>
    (asI .i64 (d24.getD 1 .bad)).bind fun n26 =>
    (asI .i64 (d24.getD 2 .bad)).bind fun n27 =>
    (asI .i64 (d24.getD 3 .bad)).bind fun n28 =>
    (x4).bind fun p29 =>
    (stA r23.2.1 p29.1 p29.2 (.agg [(.int .i64 n25), (.int .i64 n26), (.int .i64 n27), (.int .i64 n28)]) 4).bind fun b30 =>
    let h31 := AHeap.put r23.2.1 p29.1 (some b30)
    (x4).bind fun p32 =>
    (ldR h31 p32.1 p32.2 4).bind fun l33 =>
    (asAgg 4 (AV.agg l33)).bind fun d34 =>
    (asI .i64 (d34.getD 0 .bad)).bind fun n35 =>
    (asI .i64 (d34.getD 1 .bad)).bind fun n36 =>
    (asI .i64 (d34.getD 2 .bad)).bind fun n37 =>
    (asI .i64 (d34.getD 3 .bad)).bind fun n38 =>
    some ((.tuple [(.agg [(.int .i64 n35), (.int .i64 n36), (.int .i64 n37), (.int .i64 n38)]), (.int .i64 0)]), h31, r23.2.2)) := F60_L1_eq' go1 call Y lf n0 x1a x1n x1c x4 x6 h nx

theorem F60_L1_zero (call : YldF → CallF) (Y : YldF) (lf : Nat) (x1a : Option (Nat × Nat)) (x1n : Nat) (x1c : Bool) (x4 : Option (Nat × Nat)) (x6 : Option (Nat × Nat)) (h : AHeap) (nx : Nat) : F60_L1 call Y lf 0 x1a x1n x1c x4 x6 h nx = none := by kernel_rfl

theorem F60_eq' (J : StepF (AV × AHeap × Nat) → StepF (AV × AHeap × Nat)) (n : Nat) (Y : YldF) (x0_0 : Int) (x0_1 : Int) (x0_2 : Int) (x0_3 : Int) (x1a : Option (Nat × Nat)) (x1n : Nat) (x1c : Bool) (h : AHeap) (nx : Nat) : rootJ J Try.prog keepT (callP Try.prog keepT n) Y n 60 [(.agg [(.int .i64 x0_0), (.int .i64 x0_1), (.int .i64 x0_2), (.int .i64 x0_3)]), (.slice x1a x1n x1c)] h nx =
    let h1 := AHeap.put h nx (some ⟨[(.int .i64 x0_0), (.int .i64 x0_1), (.int .i64 x0_2), (.int .i64 x0_3)], 4, true⟩)
    let h2 := AHeap.put h1 (nx + 1) (some ⟨[(.int .i64 0), (.int .i64 0), (.int .i64 0), (.int .i64 0)], 4, true⟩)
    if (((Int.tmod ((x1n : Nat) : Int) 4) : Int) != 0) = true then
    ((stA h2 (nx + 1) 0 (.agg [(.int .i64 0), (.int .i64 0), (.int .i64 0), (.int .i64 0)]) 4).bind fun b3 =>
    let h4 := AHeap.put h2 (nx + 1) (some b3)
    (ldR h4 (nx + 1) 0 4).bind fun l5 =>
    (asAgg 4 (AV.agg l5)).bind fun d6 =>
    (asI .i64 (d6.getD 0 .bad)).bind fun n7 =>
    (asI .i64 (d6.getD 1 .bad)).bind fun n8 =>
    (asI .i64 (d6.getD 2 .bad)).bind fun n9 =>
    (asI .i64 (d6.getD 3 .bad)).bind fun n10 =>
    some ((.tuple [(.agg [(.int .i64 n7), (.int .i64 n8), (.int .i64 n9), (.int .i64 n10)]), (.int .i64 4)]), h4, (nx + 10)))
    else
    ((ldR h2 nx 0 4).bind fun l11 =>
    (asAgg 4 (AV.agg l11)).bind fun d12 =>
    (asI .i64 (d12.getD 0 .bad)).bind fun n13 =>
    (asI .i64 (d12.getD 1 .bad)).bind fun n14 =>
    (asI .i64 (d12.getD 2 .bad)).bind fun n15 =>
    (asI .i64 (d12.getD 3 .bad)).bind fun n16 =>
    ((callP Try.prog keepT n) Y 65 [(.agg [(.int .i64 n13), (.int .i64 n14), (.int .i64 n15), (.int .i64 n16)])] h2 (nx + 11)).bind fun r17 =>
    (asRow r17.1).bind fun d18 =>
    let h19 := AHeap.put r17.2.1 (nx + 9) (some ⟨[(.int .i64 0), (.int .i64 0), (.int .i64 0), (.int .i64 0)], 1, true⟩)
    (stA h19 (nx + 9) 0 (.agg d18) 4).bind fun b20 =>
    let h21 := AHeap.put h19 (nx + 9) (some b20)
    F60_L1' J J (callP Try.prog keepT n) Y n n x1a x1n x1c (some ((nx + 1), 0)) (some ((nx + 9), 0)) h21 r17.2.2) := by kernel_rfl

/-- quickset/flet.More -/
theorem F60_eq (n : Nat) (Y : YldF) (x0_0 : Int) (x0_1 : Int) (x0_2 : Int) (x0_3 : Int) (x1a : Option (Nat × Nat)) (x1n : Nat) (x1c : Bool) (h : AHeap) (nx : Nat) : callP Try.prog keepT (n + 1) Y 60 [(.agg [(.int .i64 x0_0), (.int .i64 x0_1), (.int .i64 x0_2), (.int .i64 x0_3)]), (.slice x1a x1n x1c)] h nx =
    let h1 := AHeap.put h nx (some ⟨[(.int .i64 x0_0), (.int .i64 x0_1), (.int .i64 x0_2), (.int .i64 x0_3)], 4, true⟩)
    let h2 := AHeap.put h1 (nx + 1) (some ⟨[(.int .i64 0), (.int .i64 0), (.int .i64 0), (.int .i64 0)], 4, true⟩)
    if (((Int.tmod ((x1n : Nat) : Int) 4) : Int) != 0) = true then
    ((stA h2 (nx + 1) 0 (.agg [(.int .i64 0), (.int .i64 0), (.int .i64 0), (.int .i64 0)]) 4).bind fun b3 =>
    let h4 := AHeap.put h2 (nx + 1) (some b3)
    (ldR h4 (nx + 1) 0 4).bind fun l5 =>
    (asAgg 4 (AV.agg l5)).bind fun d6 =>
    (asI .i64 (d6.getD 0 .bad)).bind fun n7 =>
    (asI .i64 (d6.getD 1 .bad)).bind fun n8 =>
    (asI .i64 (d6.getD 2 .bad)).bind fun n9 =>
    (asI .i64 (d6.getD 3 .bad)).bind fun n10 =>
    some ((.tuple [(.agg [(.int .i64 n7), (.int .i64 n8), (.int .i64 n9), (.int .i64 n10)]), (.int .i64 4)]), h4, (nx + 10)))
    else
    ((ldR h2 nx 0 4).bind fun l11 =>
    (asAgg 4 (AV.agg l11)).bind fun d12 =>
    (asI .i64 (d12.getD 0 .bad)).bind fun n13 =>
    (asI .i64 (d12.getD 1 .bad)).bind fun n14 =>
    (asI .i64 (d12.getD 2 .bad)).bind fun n15 =>
    (asI .i64 (d12.getD 3 .bad)).bind fun n16 =>
    ((callP Try.prog keepT n) Y 65 [(.agg [(.int .i64 n13), (.int .i64 n14), (.int .i64 n15), (.int .i64 n16)])] h2 (nx + 11)).bind fun r17 =>
    (asRow r17.1).bind fun d18 =>
    let h19 := AHeap.put r17.2.1 (nx + 9) (some ⟨[(.int .i64 0), (.int .i64 0), (.int .i64 0), (.int .i64 0)], 1, true⟩)
    (stA h19 (nx + 9) 0 (.agg d18) 4).bind fun b20 =>
    let h21 := AHeap.put h19 (nx + 9) (some b20)
    F60_L1 (callP Try.prog keepT n) Y n n x1a x1n x1c (some ((nx + 1), 0)) (some ((nx + 9), 0)) h21 r17.2.2) := F60_eq' go1 n Y x0_0 x0_1 x0_2 x0_3 x1a x1n x1c h nx

noncomputable def c61 : Code := (Try.f61.body).getD .skip

noncomputable def r61 : List ResultVar := Try.f61.results.toList

noncomputable def F61_L1' (W J : StepF (AV × AHeap × Nat) → StepF (AV × AHeap × Nat)) (call : YldF → CallF) (Y : YldF) (lf : Nat) (n0 : Nat) (x2 : Int) (x17a : Option (Nat × Nat)) (x17n : Nat) (x17c : Bool) (x18 : Int) (x19 : Int) (h : AHeap) (nx : Nat) : Option (AV × AHeap × Nat) :=
  goK W J drawK (machOf Try.prog) call Y (keepT 61) lf c61 [1, 0, 1, 0, 9] [n0] (retK (machOf Try.prog) ⟨c61, 27, r61, keepT 61⟩) ⟨27, mkL [(2, (.int .u8 x2)), (17, (.slice x17a x17n x17c)), (18, (.int .i64 x18)), (19, (.int .i64 x19))]⟩ h nx

noncomputable def F61_L1 (call : YldF → CallF) (Y : YldF) (lf : Nat) (n0 : Nat) (x2 : Int) (x17a : Option (Nat × Nat)) (x17n : Nat) (x17c : Bool) (x18 : Int) (x19 : Int) (h : AHeap) (nx : Nat) : Option (AV × AHeap × Nat) := F61_L1' go1 go1 call Y lf n0 x2 x17a x17n x17c x18 x19 h nx

theorem F61_L1_eq' (J : StepF (AV × AHeap × Nat) → StepF (AV × AHeap × Nat)) (call : YldF → CallF) (Y : YldF) (lf : Nat) (n0 : Nat) (x2 : Int) (x17a : Option (Nat × Nat)) (x17n : Nat) (x17c : Bool) (x18 : Int) (x19 : Int) (h : AHeap) (nx : Nat) : F61_L1' go1 J call Y lf (n0 + 1) x2 x17a x17n x17c x18 x19 h nx =
    if (decide ((x19 : Int) < x18)) = true then
    ((x17a).bind fun p1 =>
    if 0 ≤ (x19 : Int) ∧ x19 < ((x17n : Nat) : Int) then
    ((ldA h p1.1 (p1.2 + Int.toNat x19 * 1)).bind fun v2 =>
    (asI .u8 v2).bind fun n3 =>
    if ((n3 : Int) != x2) = true then
    (some ((.bool false), h, (nx + 8)))
    else
    (F61_L1' J J call Y lf n0 x2 x17a x17n x17c x18 (wrapA .i64 (x19 + 1)) h (nx + 9)))
    else none)
    else
    (some ((.bool true), h, (nx + 2))) := by kernel_rfl

theorem F61_L1_eq (call : YldF → CallF) (Y : YldF) (lf : Nat) (n0 : Nat) (x2 : Int) (x17a : Option (Nat × Nat)) (x17n : Nat) (x17c : Bool) (x18 : Int) (x19 : Int) (h : AHeap) (nx : Nat) : F61_L1 call Y lf (n0 + 1) x2 x17a x17n x17c x18 x19 h nx =
    if (decide ((x19 : Int) < x18)) = true then
    ((x17a).bind fun p1 =>
    if 0 ≤ (x19 : Int) ∧ x19 < ((x17n : Nat) : Int) then
    ((ldA h p1.1 (p1.2 + Int.toNat x19 * 1)).bind fun v2 =>
    (asI .u8 v2).bind fun n3 =>
    if ((n3 : Int) != x2) = true then
    (some ((.bool false), h, (nx + 8)))
    else
    (F61_L1 call Y lf n0 x2 x17a x17n x17c x18 (wrapA .i64 (x19 + 1)) h (nx + 9)))
    else none)
    else
    (some ((.bool true), h, (nx + 2))) := F61_L1_eq' go1 call Y lf n0 x2 x17a x17n x17c x18 x19 h nx

theorem F61_L1_zero (call : YldF → CallF) (Y : YldF) (lf : Nat) (x2 : Int) (x17a : Option (Nat × Nat)) (x17n : Nat) (x17c : Bool) (x18 : Int) (x19 : Int) (h : AHeap) (nx : Nat) : F61_L1 call Y lf 0 x2 x17a x17n x17c x18 x19 h nx = none := by kernel_rfl

theorem F61_eq' (J : StepF (AV × AHeap × Nat) → StepF (AV × AHeap × Nat)) (n : Nat) (Y : YldF) (x0 : Option (Nat × Nat)) (x1_0 : Int) (x1_1 : Int) (x2 : Int) (h : AHeap) (nx : Nat) : rootJ J Try.prog keepT (callP Try.prog keepT n) Y n 61 [(.ptr x0), (.agg [(.int .i64 x1_0), (.int .i64 x1_1)]), (.int .u8 x2)] h nx =
    let h1 := AHeap.put h nx (some ⟨[(.int .i64 x1_0), (.int .i64 x1_1)], 2, true⟩)
    (x0).bind fun p2 =>
    (ldA h1 p2.1 p2.2).bind fun v3 =>
    (asSl v3).bind fun s4 =>
    (ldA h1 nx 0).bind fun v5 =>
    (asI .i64 v5).bind fun n6 =>
    (ldA h1 nx 1).bind fun v7 =>
    (asI .i64 v7).bind fun n8 =>
    (cutA h1 s4.1 s4.2.1 s4.2.2 1 (some (.int .i64 n6)) (some (.int .i64 n8)) none).bind fun s9 =>
    F61_L1' J J (callP Try.prog keepT n) Y n n x2 s9.1 s9.2.1 s9.2.2 ((s9.2.1 : Nat) : Int) 0 h1 (nx + 13) := by kernel_rfl

/-- (*quickset/space.space).all -/
theorem F61_eq (n : Nat) (Y : YldF) (x0 : Option (Nat × Nat)) (x1_0 : Int) (x1_1 : Int) (x2 : Int) (h : AHeap) (nx : Nat) : callP Try.prog keepT (n + 1) Y 61 [(.ptr x0), (.agg [(.int .i64 x1_0), (.int .i64 x1_1)]), (.int .u8 x2)] h nx =
    let h1 := AHeap.put h nx (some ⟨[(.int .i64 x1_0), (.int .i64 x1_1)], 2, true⟩)
    (x0).bind fun p2 =>
    (ldA h1 p2.1 p2.2).bind fun v3 =>
    (asSl v3).bind fun s4 =>
    (ldA h1 nx 0).bind fun v5 =>
    (asI .i64 v5).bind fun n6 =>
    (ldA h1 nx 1).bind fun v7 =>
    (asI .i64 v7).bind fun n8 =>
    (cutA h1 s4.1 s4.2.1 s4.2.2 1 (some (.int .i64 n6)) (some (.int .i64 n8)) none).bind fun s9 =>
    F61_L1 (callP Try.prog keepT n) Y n n x2 s9.1 s9.2.1 s9.2.2 ((s9.2.1 : Nat) : Int) 0 h1 (nx + 13) := F61_eq' go1 n Y x0 x1_0 x1_1 x2 h nx

noncomputable def c62 : Code := (Try.f62.body).getD .skip

noncomputable def r62 : List ResultVar := Try.f62.results.toList

noncomputable def F62_L1' (W J : StepF (AV × AHeap × Nat) → StepF (AV × AHeap × Nat)) (call : YldF → CallF) (Y : YldF) (lf : Nat) (n0 : Nat) (x0 : Option (Nat × Nat)) (x2 : Int) (x4 : Option (Nat × Nat)) (x6 : Int) (h : AHeap) (nx : Nat) : Option (AV × AHeap × Nat) :=
  goK W J drawK (machOf Try.prog) call Y (keepT 62) lf c62 [1, 1, 0, 9] [n0] (retK (machOf Try.prog) ⟨c62, 22, r62, keepT 62⟩) ⟨22, mkL [(0, (.ptr x0)), (2, (.int .u8 x2)), (4, (.ptr x4)), (6, (.int .i64 x6))]⟩ h nx

noncomputable def F62_L1 (call : YldF → CallF) (Y : YldF) (lf : Nat) (n0 : Nat) (x0 : Option (Nat × Nat)) (x2 : Int) (x4 : Option (Nat × Nat)) (x6 : Int) (h : AHeap) (nx : Nat) : Option (AV × AHeap × Nat) := F62_L1' go1 go1 call Y lf n0 x0 x2 x4 x6 h nx

theorem F62_L1_eq' (J : StepF (AV × AHeap × Nat) → StepF (AV × AHeap × Nat)) (call : YldF → CallF) (Y : YldF) (lf : Nat) (n0 : Nat) (x0 : Option (Nat × Nat)) (x2 : Int) (x4 : Option (Nat × Nat)) (x6 : Int) (h : AHeap) (nx : Nat) : F62_L1' go1 J call Y lf (n0 + 1) x0 x2 x4 x6 h nx =
    (x4).bind fun p1 =>
    (ldA h p1.1 (p1.2 + 1)).bind fun v2 =>
    (asI .i64 v2).bind fun n3 =>
    if (decide ((x6 : Int) < n3)) = true then
    ((x0).bind fun p4 =>
    (ldA h p4.1 p4.2).bind fun v5 =>
    (asSl v5).bind fun s6 =>
    (s6.1).bind fun p7 =>
    if 0 ≤ (x6 : Int) ∧ x6 < ((s6.2.1 : Nat) : Int) then
    ((stA h p7.1 (p7.2 + Int.toNat x6 * 1) (.int .u8 x2) 1).bind fun b8 =>
    let h9 := AHeap.put h p7.1 (some b8)
    F62_L1' J J call Y lf n0 x0 x2 x4 (wrapA .i64 (x6 + 1)) h9 (nx + 15))
    else none)
    else
    (some ((.tuple []), h, (nx + 4))) := by kernel_rfl

theorem F62_L1_eq (call : YldF → CallF) (Y : YldF) (lf : Nat) (n0 : Nat) (x0 : Option (Nat × Nat)) (x2 : Int) (x4 : Option (Nat × Nat)) (x6 : Int) (h : AHeap) (nx : Nat) : F62_L1 call Y lf (n0 + 1) x0 x2 x4 x6 h nx =
    (x4).bind fun p1 =>
    (ldA h p1.1 (p1.2 + 1)).bind fun v2 =>
    (asI .i64 v2).bind fun n3 =>
    if (decide ((x6 : Int) < n3)) = true then
    ((x0).bind fun p4 =>
    (ldA h p4.1 p4.2).bind fun v5 =>
    (asSl v5).bind fun s6 =>
    (s6.1).bind fun p7 =>
    if 0 ≤ (x6 : Int) ∧ x6 < ((s6.2.1 : Nat) : Int) then
    ((stA h p7.1 (p7.2 + Int.toNat x6 * 1) (.int .u8 x2) 1).bind fun b8 =>
    let h9 := AHeap.put h p7.1 (some b8)
    F62_L1 call Y lf n0 x0 x2 x4 (wrapA .i64 (x6 + 1)) h9 (nx + 15))
    else none)
    else
    (some ((.tuple []), h, (nx + 4))) := F62_L1_eq' go1 call Y lf n0 x0 x2 x4 x6 h nx

theorem F62_L1_zero (call : YldF → CallF) (Y : YldF) (lf : Nat) (x0 : Option (Nat × Nat)) (x2 : Int) (x4 : Option (Nat × Nat)) (x6 : Int) (h : AHeap) (nx : Nat) : F62_L1 call Y lf 0 x0 x2 x4 x6 h nx = none := by kernel_rfl

theorem F62_eq' (J : StepF (AV × AHeap × Nat) → StepF (AV × AHeap × Nat)) (n : Nat) (Y : YldF) (x0 : Option (Nat × Nat)) (x1_0 : Int) (x1_1 : Int) (x2 : Int) (h : AHeap) (nx : Nat) : rootJ J Try.prog keepT (callP Try.prog keepT n) Y n 62 [(.ptr x0), (.agg [(.int .i64 x1_0), (.int .i64 x1_1)]), (.int .u8 x2)] h nx =
    let h1 := AHeap.put h nx (some ⟨[(.int .i64 x1_0), (.int .i64 x1_1)], 2, true⟩)
    (ldA h1 nx 0).bind fun v2 =>
    (asI .i64 v2).bind fun n3 =>
    F62_L1' J J (callP Try.prog keepT n) Y n n x0 x2 (some (nx, 0)) n3 h1 (nx + 4) := by kernel_rfl

/-- (*quickset/space.space).set -/
theorem F62_eq (n : Nat) (Y : YldF) (x0 : Option (Nat × Nat)) (x1_0 : Int) (x1_1 : Int) (x2 : Int) (h : AHeap) (nx : Nat) : callP Try.prog keepT (n + 1) Y 62 [(.ptr x0), (.agg [(.int .i64 x1_0), (.int .i64 x1_1)]), (.int .u8 x2)] h nx =
    let h1 := AHeap.put h nx (some ⟨[(.int .i64 x1_0), (.int .i64 x1_1)], 2, true⟩)
    (ldA h1 nx 0).bind fun v2 =>
    (asI .i64 v2).bind fun n3 =>
    F62_L1 (callP Try.prog keepT n) Y n n x0 x2 (some (nx, 0)) n3 h1 (nx + 4) := F62_eq' go1 n Y x0 x1_0 x1_1 x2 h nx

noncomputable def c63 : Code := (Try.f63.body).getD .skip

noncomputable def r63 : List ResultVar := Try.f63.results.toList

theorem F63_eq' (J : StepF (AV × AHeap × Nat) → StepF (AV × AHeap × Nat)) (n : Nat) (Y : YldF) (x0 : Int) (h : AHeap) (nx : Nat) : rootJ J Try.prog keepT (callP Try.prog keepT n) Y n 63 [(.int .u8 x0)] h nx =
    some ((.bool ((x0 : Int) == 3)), h, (nx + 4)) := by kernel_rfl

/-- (*quickset/space.space).commit$1 -/
theorem F63_eq (n : Nat) (Y : YldF) (x0 : Int) (h : AHeap) (nx : Nat) : callP Try.prog keepT (n + 1) Y 63 [(.int .u8 x0)] h nx =
    some ((.bool ((x0 : Int) == 3)), h, (nx + 4)) := F63_eq' go1 n Y x0 h nx

noncomputable def c64 : Code := (Try.f64.body).getD .skip

noncomputable def r64 : List ResultVar := Try.f64.results.toList

theorem F64_eq' (J : StepF (AV × AHeap × Nat) → StepF (AV × AHeap × Nat)) (n : Nat) (Y : YldF) (x0a : Option (Nat × Nat)) (x0n : Nat) (x0c : Bool) (h : AHeap) (nx : Nat) : rootJ J Try.prog keepT (callP Try.prog keepT n) Y n 64 [(.slice x0a x0n x0c)] h nx =
    let h1 := AHeap.put h nx (some ⟨[(.slice x0a x0n x0c)], 1, true⟩)
    some ((.fn 68 [] [(.ptr (some (nx, 0)))]), h1, (nx + 4)) := by kernel_rfl

/-- slices.Backward[[]quickset/drive.put,quickset/drive.put] -/
theorem F64_eq (n : Nat) (Y : YldF) (x0a : Option (Nat × Nat)) (x0n : Nat) (x0c : Bool) (h : AHeap) (nx : Nat) : callP Try.prog keepT (n + 1) Y 64 [(.slice x0a x0n x0c)] h nx =
    let h1 := AHeap.put h nx (some ⟨[(.slice x0a x0n x0c)], 1, true⟩)
    some ((.fn 68 [] [(.ptr (some (nx, 0)))]), h1, (nx + 4)) := F64_eq' go1 n Y x0a x0n x0c h nx

noncomputable def c65 : Code := (Try.f65.body).getD .skip

noncomputable def r65 : List ResultVar := Try.f65.results.toList

theorem F65_eq' (J : StepF (AV × AHeap × Nat) → StepF (AV × AHeap × Nat)) (n : Nat) (Y : YldF) (x0_0 : Int) (x0_1 : Int) (x0_2 : Int) (x0_3 : Int) (h : AHeap) (nx : Nat) : rootJ J Try.prog keepT (callP Try.prog keepT n) Y n 65 [(.agg [(.int .i64 x0_0), (.int .i64 x0_1), (.int .i64 x0_2), (.int .i64 x0_3)])] h nx =
    let h1 := AHeap.put h nx (some ⟨[(.int .i64 x0_0), (.int .i64 x0_1), (.int .i64 x0_2), (.int .i64 x0_3)], 4, true⟩)
    let h2 := AHeap.put h1 (nx + 1) (some ⟨[(.int .i64 0), (.int .i64 0), (.int .i64 0), (.int .i64 0)], 1, true⟩)
    (ldA h2 nx 0).bind fun v3 =>
    (asI .i64 v3).bind fun n4 =>
    (ldA h2 nx 1).bind fun v5 =>
    (asI .i64 v5).bind fun n6 =>
    (ldA h2 nx 2).bind fun v7 =>
    (asI .i64 v7).bind fun n8 =>
    (ldA h2 nx 3).bind fun v9 =>
    (asI .i64 v9).bind fun n10 =>
    (stA h2 (nx + 1) 0 (.agg [(.int .i64 n4), (.int .i64 n6), (.int .i64 n8), (.int .i64 n10)]) 4).bind fun b11 =>
    let h12 := AHeap.put h2 (nx + 1) (some b11)
    (ldR h12 (nx + 1) 0 4).bind fun l13 =>
    some ((.agg l13), h12, (nx + 12)) := by kernel_rfl

/-- quickset/flet.of -/
theorem F65_eq (n : Nat) (Y : YldF) (x0_0 : Int) (x0_1 : Int) (x0_2 : Int) (x0_3 : Int) (h : AHeap) (nx : Nat) : callP Try.prog keepT (n + 1) Y 65 [(.agg [(.int .i64 x0_0), (.int .i64 x0_1), (.int .i64 x0_2), (.int .i64 x0_3)])] h nx =
    let h1 := AHeap.put h nx (some ⟨[(.int .i64 x0_0), (.int .i64 x0_1), (.int .i64 x0_2), (.int .i64 x0_3)], 4, true⟩)
    let h2 := AHeap.put h1 (nx + 1) (some ⟨[(.int .i64 0), (.int .i64 0), (.int .i64 0), (.int .i64 0)], 1, true⟩)
    (ldA h2 nx 0).bind fun v3 =>
    (asI .i64 v3).bind fun n4 =>
    (ldA h2 nx 1).bind fun v5 =>
    (asI .i64 v5).bind fun n6 =>
    (ldA h2 nx 2).bind fun v7 =>
    (asI .i64 v7).bind fun n8 =>
    (ldA h2 nx 3).bind fun v9 =>
    (asI .i64 v9).bind fun n10 =>
    (stA h2 (nx + 1) 0 (.agg [(.int .i64 n4), (.int .i64 n6), (.int .i64 n8), (.int .i64 n10)]) 4).bind fun b11 =>
    let h12 := AHeap.put h2 (nx + 1) (some b11)
    (ldR h12 (nx + 1) 0 4).bind fun l13 =>
    some ((.agg l13), h12, (nx + 12)) := F65_eq' go1 n Y x0_0 x0_1 x0_2 x0_3 h nx

noncomputable def c66 : Code := (Try.f66.body).getD .skip

noncomputable def r66 : List ResultVar := Try.f66.results.toList

noncomputable def F66_L1' (W J : StepF (AV × AHeap × Nat) → StepF (AV × AHeap × Nat)) (call : YldF → CallF) (Y : YldF) (lf : Nat) (n0 : Nat) (x1 : Int) (x2 : Option (Nat × Nat)) (x4 : Option (Nat × Nat)) (x6 : Int) (h : AHeap) (nx : Nat) : Option (AV × AHeap × Nat) :=
  goK W J drawK (machOf Try.prog) call Y (keepT 66) lf c66 [1, 0, 1, 0, 9] [n0] (retK (machOf Try.prog) ⟨c66, 20, r66, keepT 66⟩) ⟨20, mkL [(1, (.int .i64 x1)), (2, (.ptr x2)), (4, (.ptr x4)), (6, (.int .i64 x6))]⟩ h nx

noncomputable def F66_L1 (call : YldF → CallF) (Y : YldF) (lf : Nat) (n0 : Nat) (x1 : Int) (x2 : Option (Nat × Nat)) (x4 : Option (Nat × Nat)) (x6 : Int) (h : AHeap) (nx : Nat) : Option (AV × AHeap × Nat) := F66_L1' go1 go1 call Y lf n0 x1 x2 x4 x6 h nx

theorem F66_L1_eq' (J : StepF (AV × AHeap × Nat) → StepF (AV × AHeap × Nat)) (call : YldF → CallF) (Y : YldF) (lf : Nat) (n0 : Nat) (x1 : Int) (x2 : Option (Nat × Nat)) (x4 : Option (Nat × Nat)) (x6 : Int) (h : AHeap) (nx : Nat) : F66_L1' go1 J call Y lf (n0 + 1) x1 x2 x4 x6 h nx =
    if (decide ((x6 : Int) < 4)) = true then
    ((x2).bind fun p1 =>
    if 0 ≤ (x6 : Int) ∧ x6 < ((4 : Nat) : Int) then
    ((ldA h p1.1 (p1.2 + Int.toNat x6 * 1)).bind fun v2 =>
    (asI .i64 v2).bind fun n3 =>
    (x2).bind fun p4 =>
    if 0 ≤ (x6 : Int) ∧ x6 < ((4 : Nat) : Int) then
    ((stA h p4.1 (p4.2 + Int.toNat x6 * 1) (.int .i64 (wrapA .i64 (n3 + x1))) 1).bind fun b5 =>
    let h6 := AHeap.put h p4.1 (some b5)
    (x2).bind fun p7 =>
    if 0 ≤ (x6 : Int) ∧ x6 < ((4 : Nat) : Int) then
    ((ldA h6 p7.1 (p7.2 + Int.toNat x6 * 1)).bind fun v8 =>
    (asI .i64 v8).bind fun n9 =>
    F66_L1' J J call Y lf n0 n9 x2 x4 (wrapA .i64 (x6 + 1)) h6 (nx + 16))
    else none)
    else none)
    else none)
    else
    ((x2).bind fun p10 =>
    (ldR h p10.1 p10.2 4).bind fun l11 =>
    (x4).bind fun p12 =>
    (stA h p12.1 p12.2 (.agg l11) 4).bind fun b13 =>
    let h14 := AHeap.put h p12.1 (some b13)
    (x4).bind fun p15 =>
    (ldR h14 p15.1 p15.2 4).bind fun l16 =>
    some ((.agg l16), h14, (nx + 3))) := by kernel_rfl

theorem F66_L1_eq (call : YldF → CallF) (Y : YldF) (lf : Nat) (n0 : Nat) (x1 : Int) (x2 : Option (Nat × Nat)) (x4 : Option (Nat × Nat)) (x6 : Int) (h : AHeap) (nx : Nat) : F66_L1 call Y lf (n0 + 1) x1 x2 x4 x6 h nx =
    if (decide ((x6 : Int) < 4)) = true then
    ((x2).bind fun p1 =>
    if 0 ≤ (x6 : Int) ∧ x6 < ((4 : Nat) : Int) then
    ((ldA h p1.1 (p1.2 + Int.toNat x6 * 1)).bind fun v2 =>
    (asI .i64 v2).bind fun n3 =>
    (x2).bind fun p4 =>
    if 0 ≤ (x6 : Int) ∧ x6 < ((4 : Nat) : Int) then
    ((stA h p4.1 (p4.2 + Int.toNat x6 * 1) (.int .i64 (wrapA .i64 (n3 + x1))) 1).bind fun b5 =>
    let h6 := AHeap.put h p4.1 (some b5)
    (x2).bind fun p7 =>
    if 0 ≤ (x6 : Int) ∧ x6 < ((4 : Nat) : Int) then
    ((ldA h6 p7.1 (p7.2 + Int.toNat x6 * 1)).bind fun v8 =>
    (asI .i64 v8).bind fun n9 =>
    F66_L1 call Y lf n0 n9 x2 x4 (wrapA .i64 (x6 + 1)) h6 (nx + 16))
    else none)
    else none)
    else none)
    else
    ((x2).bind fun p10 =>
    (ldR h p10.1 p10.2 4).bind fun l11 =>
    (x4).bind fun p12 =>
    (stA h p12.1 p12.2 (.agg l11) 4).bind fun b13 =>
    let h14 := AHeap.put h p12.1 (some b13)
    (x4).bind fun p15 =>
    (ldR h14 p15.1 p15.2 4).bind fun l16 =>
    some ((.agg l16), h14, (nx + 3))) := F66_L1_eq' go1 call Y lf n0 x1 x2 x4 x6 h nx

theorem F66_L1_zero (call : YldF → CallF) (Y : YldF) (lf : Nat) (x1 : Int) (x2 : Option (Nat × Nat)) (x4 : Option (Nat × Nat)) (x6 : Int) (h : AHeap) (nx : Nat) : F66_L1 call Y lf 0 x1 x2 x4 x6 h nx = none := by kernel_rfl

theorem F66_eq' (J : StepF (AV × AHeap × Nat) → StepF (AV × AHeap × Nat)) (n : Nat) (Y : YldF) (x0 : List AV) (x1 : Int) (h : AHeap) (nx : Nat) : rootJ J Try.prog keepT (callP Try.prog keepT n) Y n 66 [(.agg x0), (.int .i64 x1)] h nx =
    if allOne x0 = true then
    (let h1 := AHeap.put h nx (some ⟨x0, 1, true⟩)
    let h2 := AHeap.put h1 (nx + 1) (some ⟨[(.int .i64 0), (.int .i64 0), (.int .i64 0), (.int .i64 0)], 1, true⟩)
    F66_L1' J J (callP Try.prog keepT n) Y n n x1 (some (nx, 0)) (some ((nx + 1), 0)) 0 h2 (nx + 3))
    else none := by kernel_rfl

/-- (quickset/flet.sums).word -/
theorem F66_eq (n : Nat) (Y : YldF) (x0 : List AV) (x1 : Int) (h : AHeap) (nx : Nat) : callP Try.prog keepT (n + 1) Y 66 [(.agg x0), (.int .i64 x1)] h nx =
    if allOne x0 = true then
    (let h1 := AHeap.put h nx (some ⟨x0, 1, true⟩)
    let h2 := AHeap.put h1 (nx + 1) (some ⟨[(.int .i64 0), (.int .i64 0), (.int .i64 0), (.int .i64 0)], 1, true⟩)
    F66_L1 (callP Try.prog keepT n) Y n n x1 (some (nx, 0)) (some ((nx + 1), 0)) 0 h2 (nx + 3))
    else none := F66_eq' go1 n Y x0 x1 h nx

noncomputable def c67 : Code := (Try.f67.body).getD .skip

noncomputable def r67 : List ResultVar := Try.f67.results.toList

theorem F67_eq' (J : StepF (AV × AHeap × Nat) → StepF (AV × AHeap × Nat)) (n : Nat) (Y : YldF) (x0 : List AV) (h : AHeap) (nx : Nat) : rootJ J Try.prog keepT (callP Try.prog keepT n) Y n 67 [(.agg x0)] h nx =
    if allOne x0 = true then
    (let h1 := AHeap.put h nx (some ⟨x0, 1, true⟩)
    let h2 := AHeap.put h1 (nx + 1) (some ⟨[(.int .i64 0), (.int .i64 0), (.int .i64 0), (.int .i64 0)], 4, true⟩)
    if 0 ≤ (0 : Int) ∧ 0 < ((4 : Nat) : Int) then
    ((ldA h2 nx (0 + Int.toNat 0 * 1)).bind fun v3 =>
    (asI .i64 v3).bind fun n4 =>
    if 0 ≤ (1 : Int) ∧ 1 < ((4 : Nat) : Int) then
    ((ldA h2 nx (0 + Int.toNat 1 * 1)).bind fun v5 =>
    (asI .i64 v5).bind fun n6 =>
    if 0 ≤ (2 : Int) ∧ 2 < ((4 : Nat) : Int) then
    ((ldA h2 nx (0 + Int.toNat 2 * 1)).bind fun v7 =>
    (asI .i64 v7).bind fun n8 =>
    if 0 ≤ (3 : Int) ∧ 3 < ((4 : Nat) : Int) then
    ((ldA h2 nx (0 + Int.toNat 3 * 1)).bind fun v9 =>
    (asI .i64 v9).bind fun n10 =>
    (stA h2 (nx + 1) 0 (.agg [(.int .i64 n4), (.int .i64 n6), (.int .i64 n8), (.int .i64 n10)]) 4).bind fun b11 =>
    let h12 := AHeap.put h2 (nx + 1) (some b11)
    (ldR h12 (nx + 1) 0 4).bind fun l13 =>
    (asAgg 4 (AV.agg l13)).bind fun d14 =>
    (asI .i64 (d14.getD 0 .bad)).bind fun n15 =>
    (asI .i64 (d14.getD 1 .bad)).bind fun n16 =>
    (asI .i64 (d14.getD 2 .bad)).bind fun n17 =>
    (asI .i64 (d14.getD 3 .bad)).bind fun n18 =>
    some ((.agg [(.int .i64 n15), (.int .i64 n16), (.int .i64 n17), (.int .i64 n18)]), h12, (nx + 12)))
    else none)
    else none)
    else none)
    else none)
    else none := by kernel_rfl

/-- (quickset/flet.sums).sum -/
theorem F67_eq (n : Nat) (Y : YldF) (x0 : List AV) (h : AHeap) (nx : Nat) : callP Try.prog keepT (n + 1) Y 67 [(.agg x0)] h nx =
    if allOne x0 = true then
    (let h1 := AHeap.put h nx (some ⟨x0, 1, true⟩)
    let h2 := AHeap.put h1 (nx + 1) (some ⟨[(.int .i64 0), (.int .i64 0), (.int .i64 0), (.int .i64 0)], 4, true⟩)
    if 0 ≤ (0 : Int) ∧ 0 < ((4 : Nat) : Int) then
    ((ldA h2 nx (0 + Int.toNat 0 * 1)).bind fun v3 =>
    (asI .i64 v3).bind fun n4 =>
    if 0 ≤ (1 : Int) ∧ 1 < ((4 : Nat) : Int) then
    ((ldA h2 nx (0 + Int.toNat 1 * 1)).bind fun v5 =>
    (asI .i64 v5).bind fun n6 =>
    if 0 ≤ (2 : Int) ∧ 2 < ((4 : Nat) : Int) then
    ((ldA h2 nx (0 + Int.toNat 2 * 1)).bind fun v7 =>
    (asI .i64 v7).bind fun n8 =>
    if 0 ≤ (3 : Int) ∧ 3 < ((4 : Nat) : Int) then
    ((ldA h2 nx (0 + Int.toNat 3 * 1)).bind fun v9 =>
    (asI .i64 v9).bind fun n10 =>
    (stA h2 (nx + 1) 0 (.agg [(.int .i64 n4), (.int .i64 n6), (.int .i64 n8), (.int .i64 n10)]) 4).bind fun b11 =>
    let h12 := AHeap.put h2 (nx + 1) (some b11)
    (ldR h12 (nx + 1) 0 4).bind fun l13 =>
    (asAgg 4 (AV.agg l13)).bind fun d14 =>
    (asI .i64 (d14.getD 0 .bad)).bind fun n15 =>
    (asI .i64 (d14.getD 1 .bad)).bind fun n16 =>
    (asI .i64 (d14.getD 2 .bad)).bind fun n17 =>
    (asI .i64 (d14.getD 3 .bad)).bind fun n18 =>
    some ((.agg [(.int .i64 n15), (.int .i64 n16), (.int .i64 n17), (.int .i64 n18)]), h12, (nx + 12)))
    else none)
    else none)
    else none)
    else none)
    else none := F67_eq' go1 n Y x0 h nx

noncomputable def c68 : Code := (Try.f68.body).getD .skip

noncomputable def r68 : List ResultVar := Try.f68.results.toList

noncomputable def F68_L1' (W J : StepF (AV × AHeap × Nat) → StepF (AV × AHeap × Nat)) (call : YldF → CallF) (Y : YldF) (lf : Nat) (n0 : Nat) (x0 : AV) (x1 : Option (Nat × Nat)) (x3 : Int) (h : AHeap) (nx : Nat) : Option (AV × AHeap × Nat) :=
  goK W J drawK (machOf Try.prog) call Y (keepT 68) lf c68 [1, 0, 9] [n0] (retK (machOf Try.prog) ⟨c68, 19, r68, keepT 68⟩) ⟨19, mkL [(0, x0), (1, (.ptr x1)), (3, (.int .i64 x3))]⟩ h nx

noncomputable def F68_L1 (call : YldF → CallF) (Y : YldF) (lf : Nat) (n0 : Nat) (x0 : AV) (x1 : Option (Nat × Nat)) (x3 : Int) (h : AHeap) (nx : Nat) : Option (AV × AHeap × Nat) := F68_L1' go1 go1 call Y lf n0 x0 x1 x3 h nx

theorem F68_L1_eq' (J : StepF (AV × AHeap × Nat) → StepF (AV × AHeap × Nat)) (call : YldF → CallF) (Y : YldF) (lf : Nat) (n0 : Nat) (x0 : AV) (x1 : Option (Nat × Nat)) (x3 : Int) (h : AHeap) (nx : Nat) : F68_L1' go1 J call Y lf (n0 + 1) x0 x1 x3 h nx =
    if (decide ((x3 : Int) ≥ 0)) = true then
    ((x1).bind fun p1 =>
    (ldA h p1.1 p1.2).bind fun v2 =>
    (asSl v2).bind fun s3 =>
    (s3.1).bind fun p4 =>
    if 0 ≤ (x3 : Int) ∧ x3 < ((s3.2.1 : Nat) : Int) then
    ((ldR h p4.1 (p4.2 + Int.toNat x3 * 2) 2).bind fun l5 =>
    (asAgg 2 (AV.agg l5)).bind fun d6 =>
    (asI .i64 (d6.getD 0 .bad)).bind fun n7 =>
    (asSl (d6.getD 1 .bad)).bind fun s8 =>
    (asCal x0).bind fun q10 =>
    (callC (call Y) Y q10.1 (q10.2.1 ++ [(.int .i64 x3), (.agg [(.int .i64 n7), (.slice s8.1 s8.2.1 s8.2.2)])] ++ q10.2.2) h (nx + 10)).bind fun r9 =>
    (asB r9.1).bind fun t11 =>
    if (!t11) = true then
    (some ((.tuple []), r9.2.1, r9.2.2))
    else
    (F68_L1' J J call Y lf n0 (x0) x1 (wrapA .i64 (x3 - 1)) r9.2.1 (r9.2.2 + 3)))
    else none)
    else
    (some ((.tuple []), h, (nx + 2))) := by kernel_rfl

theorem F68_L1_eq (call : YldF → CallF) (Y : YldF) (lf : Nat) (n0 : Nat) (x0 : AV) (x1 : Option (Nat × Nat)) (x3 : Int) (h : AHeap) (nx : Nat) : F68_L1 call Y lf (n0 + 1) x0 x1 x3 h nx =
    if (decide ((x3 : Int) ≥ 0)) = true then
    ((x1).bind fun p1 =>
    (ldA h p1.1 p1.2).bind fun v2 =>
    (asSl v2).bind fun s3 =>
    (s3.1).bind fun p4 =>
    if 0 ≤ (x3 : Int) ∧ x3 < ((s3.2.1 : Nat) : Int) then
    ((ldR h p4.1 (p4.2 + Int.toNat x3 * 2) 2).bind fun l5 =>
    (asAgg 2 (AV.agg l5)).bind fun d6 =>
    (asI .i64 (d6.getD 0 .bad)).bind fun n7 =>
    (asSl (d6.getD 1 .bad)).bind fun s8 =>
    (asCal x0).bind fun q10 =>
    (callC (call Y) Y q10.1 (q10.2.1 ++ [(.int .i64 x3), (.agg [(.int .i64 n7), (.slice s8.1 s8.2.1 s8.2.2)])] ++ q10.2.2) h (nx + 10)).bind fun r9 =>
    (asB r9.1).bind fun t11 =>
    if (!t11) = true then
    (some ((.tuple []), r9.2.1, r9.2.2))
    else
    (F68_L1 call Y lf n0 (x0) x1 (wrapA .i64 (x3 - 1)) r9.2.1 (r9.2.2 + 3)))
    else none)
    else
    (some ((.tuple []), h, (nx + 2))) := F68_L1_eq' go1 call Y lf n0 x0 x1 x3 h nx

theorem F68_L1_zero (call : YldF → CallF) (Y : YldF) (lf : Nat) (x0 : AV) (x1 : Option (Nat × Nat)) (x3 : Int) (h : AHeap) (nx : Nat) : F68_L1 call Y lf 0 x0 x1 x3 h nx = none := by kernel_rfl

theorem F68_eq' (J : StepF (AV × AHeap × Nat) → StepF (AV × AHeap × Nat)) (n : Nat) (Y : YldF) (x0 : AV) (x1 : Option (Nat × Nat)) (h : AHeap) (nx : Nat) : rootJ J Try.prog keepT (callP Try.prog keepT n) Y n 68 [x0, (.ptr x1)] h nx =
    (x1).bind fun p1 =>
    (ldA h p1.1 p1.2).bind fun v2 =>
    (asSl v2).bind fun s3 =>
    F68_L1' J J (callP Try.prog keepT n) Y n n (x0) x1 (wrapA .i64 (((s3.2.1 : Nat) : Int) - 1)) h (nx + 4) := by kernel_rfl

/-- slices.Backward[[]quickset/drive.put,quickset/drive.put]$1 -/
theorem F68_eq (n : Nat) (Y : YldF) (x0 : AV) (x1 : Option (Nat × Nat)) (h : AHeap) (nx : Nat) : callP Try.prog keepT (n + 1) Y 68 [x0, (.ptr x1)] h nx =
    (x1).bind fun p1 =>
    (ldA h p1.1 p1.2).bind fun v2 =>
    (asSl v2).bind fun s3 =>
    F68_L1 (callP Try.prog keepT n) Y n n (x0) x1 (wrapA .i64 (((s3.2.1 : Nat) : Int) - 1)) h (nx + 4) := F68_eq' go1 n Y x0 x1 h nx

end Go.Proofs.Ytbekpkapkaifiaa.T
