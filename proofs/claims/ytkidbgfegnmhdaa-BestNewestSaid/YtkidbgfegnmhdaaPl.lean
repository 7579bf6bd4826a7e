/- Printed by mp.py: functions of the program as plain Lean, each by the kernel. -/
import Derived.Test.YtkidbgfegnmhdaaTG
import Derived.Test.YtkidbgfegnmhdaaProg
import Derived.KernelRfl
set_option linter.unusedVariables false
set_option linter.unusedSimpArgs false
namespace Go.Proofs.Ytkidbgfegnmhdaa.T
open Go Go.RowKit Go.Proofs
set_option maxRecDepth 100000

def keepT : Nat → Keep := keepOf [(3, [(0, false, [0]), (1, false, [1]), (2, false, [3]), (3, false, [3, 4, 5]), (4, false, [3, 4, 5, 6, 7])]),
  (4, [(0, false, [0]), (1, false, [0]), (2, false, [0, 3, 4]), (3, false, []), (4, false, [0, 3, 4]), (5, false, [3]), (6, false, [0, 3]), (7, false, [0, 5, 6])]),
  (5, [(0, false, [0, 1, 2]), (1, false, [1, 2, 3]), (2, false, [1, 2, 7, 8]), (3, false, []), (4, true, [1, 2, 7]), (5, false, [1, 2, 7, 9]), (6, false, [2, 7, 9, 10]), (7, false, [2, 7, 9, 10, 11]), (8, false, [2, 7, 9, 10, 11]), (9, true, [2, 7, 9, 10, 11]), (10, true, [7, 9]), (11, false, [7, 9, 12, 13]), (12, false, [13]), (13, false, [12, 13])]),
  (6, [(0, false, [0, 1, 2]), (1, false, [0, 1, 2]), (2, false, [0, 1, 2, 7]), (3, false, [0, 1, 2, 7, 8]), (4, false, [0, 1, 2, 7, 8, 9]), (5, false, [0, 1, 2, 7, 8, 9, 10]), (6, false, [0, 1, 2, 7, 8, 9, 10]), (7, true, [0, 1, 2, 7, 8, 9, 10]), (8, false, [0, 1, 2, 7, 8, 9, 10, 11]), (9, false, [0, 1, 2, 7, 8, 9, 10, 11, 12, 13]), (10, false, []), (11, true, [0, 1, 2, 7, 8, 9, 10, 11, 12]), (12, false, [0, 1, 2, 7, 8, 9, 10, 11, 12]), (13, false, [0, 1, 2, 7, 8, 9, 10, 11, 12]), (14, false, [0, 1, 2, 7, 10, 11, 12]), (15, false, [0, 1, 2, 7, 8, 10, 12]), (16, true, [0, 1, 2, 7, 8, 9, 10, 12]), (17, false, [0, 1, 2, 7, 8, 9, 10]), (18, false, [0, 1, 2, 7, 8, 9, 10]), (19, true, [7, 8, 9]), (20, false, [8, 9, 14, 15, 16]), (21, false, [15, 16]), (22, false, [8, 9, 14, 15, 16])]),
  (7, [(0, false, [0]), (1, false, [1, 2]), (2, false, [1, 2, 3]), (3, false, [1, 2, 3]), (4, false, [1, 2, 3]), (5, false, [1, 2, 3]), (6, false, [2, 3])]),
  (8, [(0, false, [0]), (1, false, [1]), (2, false, []), (3, false, [1]), (4, false, [1, 4]), (5, false, [1, 4, 17, 18]), (6, false, [1, 4, 17, 18]), (7, false, [1, 4, 6, 17, 18]), (8, false, [1, 4, 17, 18]), (9, false, [1, 4]), (10, false, [4, 29, 30]), (11, false, [4, 29, 30]), (12, false, [4, 8, 29, 30]), (13, false, [4, 29, 30]), (14, false, [4]), (15, false, [4]), (16, false, [4, 9]), (17, false, [4, 46, 47]), (18, false, [4, 46, 47]), (19, false, [4, 12, 46, 47]), (20, false, [4, 46, 47]), (21, false, [4])]),
  (9, [(0, false, [0]), (1, false, [0, 2]), (2, false, [2]), (3, false, [0, 2]), (4, false, [0, 2, 4]), (5, false, [0, 2, 4, 5]), (6, false, [0, 2, 4, 5, 6]), (7, false, [0, 2, 4, 5, 6, 22, 23]), (8, false, [0, 2, 4, 5, 6, 22, 23]), (9, false, [0, 2, 4, 5, 6, 8, 22, 23]), (10, false, [0, 2, 4, 5, 6, 22, 23]), (11, false, [0, 2, 4, 5, 6]), (12, false, [0, 2, 4, 5, 6, 32, 33]), (13, false, [0, 2, 4, 5, 6, 32, 33]), (14, false, [0, 2, 4, 5, 6, 10, 32, 33]), (15, false, [0, 2, 4, 5, 6, 32, 33]), (16, false, [0, 2, 4, 5, 6]), (17, false, [0, 2, 4, 5, 6]), (18, false, [0, 2, 4, 5, 6, 42, 43]), (19, false, [0, 2, 4, 5, 6, 42, 43]), (20, false, [0, 2, 4, 5, 6, 12, 42, 43]), (21, false, [0, 2, 4, 5, 6, 42, 43]), (22, false, [0, 2, 4, 5]), (23, false, [0, 2, 4, 5, 13]), (24, false, [2]), (25, false, [0, 2, 4]), (26, false, [0, 2, 4, 15, 16]), (27, false, [2]), (28, false, [2, 4])]),
  (10, [(0, false, [0]), (1, false, [1]), (2, false, [1, 3])]),
  (11, [(0, false, [0, 1]), (1, false, [0, 1]), (2, false, []), (3, false, [0, 1]), (4, false, [0, 1, 5]), (5, false, [0, 1, 5]), (6, false, [0, 1, 5]), (7, false, []), (8, false, [])]),
  (12, [(0, false, [0, 1]), (1, false, [0, 1]), (2, false, [0, 1]), (3, false, [0, 1]), (4, false, [0])]),
  (13, [(0, false, [0]), (1, false, [0, 2]), (2, false, [0, 2, 5, 6]), (3, false, [2, 5, 6, 12, 13, 14]), (4, false, [2, 5, 6, 12, 13, 14]), (5, false, [2, 5, 6, 7, 8, 12, 13, 14]), (6, false, [2, 5, 6, 7, 9, 10, 12, 13, 14]), (7, false, [2, 5, 7, 9, 12, 13, 14]), (8, false, [2, 5, 6, 12, 13, 14]), (9, false, [2, 5, 6]), (10, false, [2]), (11, false, [2, 5, 6])]),
  (14, [(0, false, [0]), (1, false, [0, 2])]),
  (15, [(0, false, [0, 1, 2]), (1, false, [0, 1, 2]), (2, false, [0, 1, 7, 8]), (3, false, [0, 1, 7, 8]), (4, false, [0, 1, 7, 8]), (5, false, [0, 1, 7, 8]), (6, false, [0])]),
  (16, [(0, false, [0]), (1, false, [0, 2])]),
  (17, [(0, false, [0]), (1, false, [0, 2])]),
  (18, [(0, false, [0, 1]), (1, false, [0, 1]), (2, false, [0, 1, 5]), (3, false, [0, 1, 5, 6]), (4, false, [0, 1, 5, 6]), (5, false, [0, 1, 5, 6]), (6, false, [0, 1, 5]), (7, false, [5])]),
  (19, [(0, false, [0, 1]), (1, false, [0, 1]), (2, false, []), (3, false, [0, 1]), (4, false, [0, 1, 12, 13]), (5, false, [0, 1, 12, 13]), (6, false, [0, 1, 5, 12, 13]), (7, false, []), (8, false, [0, 1, 12, 13]), (9, false, [])]),
  (20, [(0, false, [0, 1, 2]), (1, false, [0, 1, 2])]),
  (21, [(0, false, [0, 1]), (1, false, [1, 2, 4]), (2, false, [4]), (3, false, [1, 2, 4]), (4, false, [1, 4, 6]), (5, false, [1, 4, 6]), (6, false, [1, 4, 6]), (7, false, [4, 6])]),
  (22, [(0, false, [0]), (1, false, [1, 2])]),
  (23, [(0, false, [0, 1]), (1, false, [1, 2, 4]), (2, false, [1, 2, 4, 6]), (3, false, [1, 2, 4, 6]), (4, false, [1, 2, 4, 5, 6]), (5, false, [2, 4, 5, 6]), (6, false, [1, 2, 4, 6]), (7, false, [2, 4])]),
  (24, [(0, false, [0]), (1, false, [1, 2])])]

noncomputable def c3 : Code := (Try.f3.body).getD .skip

noncomputable def r3 : List ResultVar := Try.f3.results.toList

theorem F3_eq' (J : StepF (AV × AHeap × Nat) → StepF (AV × AHeap × Nat)) (n : Nat) (Y : YldF) (x0_0 : Int) (x0_1 : Int) (x0_2 : Int) (x0_3 : Int) (x0_4 : Int) (x0_5 : Int) (x0_6 : Int) (x0_7 : Int) (x0_8 : Int) (x0_9 : Int) (x0_10 : Int) (x0_11 : Int) (h : AHeap) (nx : Nat) : rootJ J Try.prog keepT (callP Try.prog keepT n) Y n 3 [(.agg [(.int .i64 x0_0), (.int .i64 x0_1), (.int .i64 x0_2), (.int .i64 x0_3), (.int .i64 x0_4), (.int .i64 x0_5), (.int .i64 x0_6), (.int .i64 x0_7), (.int .i64 x0_8), (.int .i64 x0_9), (.int .i64 x0_10), (.int .i64 x0_11)])] h nx =
    let h1 := AHeap.put h nx (some ⟨[(.int .i64 x0_0), (.int .i64 x0_1), (.int .i64 x0_2), (.int .i64 x0_3), (.int .i64 x0_4), (.int .i64 x0_5), (.int .i64 x0_6), (.int .i64 x0_7), (.int .i64 x0_8), (.int .i64 x0_9), (.int .i64 x0_10), (.int .i64 x0_11)], 12, true⟩)
    (ldR h1 nx 0 12).bind fun l2 =>
    (asAgg 12 (AV.agg l2)).bind fun d3 =>
    (asI .i64 (d3.getD 0 .bad)).bind fun n4 =>
    (asI .i64 (d3.getD 1 .bad)).bind fun n5 =>
    (asI .i64 (d3.getD 2 .bad)).bind fun n6 =>
    (asI .i64 (d3.getD 3 .bad)).bind fun n7 =>
    (asI .i64 (d3.getD 4 .bad)).bind fun n8 =>
    (asI .i64 (d3.getD 5 .bad)).bind fun n9 =>
    (asI .i64 (d3.getD 6 .bad)).bind fun n10 =>
    (asI .i64 (d3.getD 7 .bad)).bind fun n11 =>
    (asI .i64 (d3.getD 8 .bad)).bind fun n12 =>
    (asI .i64 (d3.getD 9 .bad)).bind fun n13 =>
    (asI .i64 (d3.getD 10 .bad)).bind fun n14 =>
    (asI .i64 (d3.getD 11 .bad)).bind fun n15 =>
    ((callP Try.prog keepT n) Y 7 [(.agg [(.int .i64 n4), (.int .i64 n5), (.int .i64 n6), (.int .i64 n7), (.int .i64 n8), (.int .i64 n9), (.int .i64 n10), (.int .i64 n11), (.int .i64 n12), (.int .i64 n13), (.int .i64 n14), (.int .i64 n15)])] h1 (nx + 6)).bind fun r16 =>
    (asAgg 13 r16.1).bind fun d17 =>
    (asI .i64 (d17.getD 0 .bad)).bind fun n18 =>
    (asI .i64 (d17.getD 1 .bad)).bind fun n19 =>
    (asI .i64 (d17.getD 2 .bad)).bind fun n20 =>
    (asI .i64 (d17.getD 3 .bad)).bind fun n21 =>
    (asI .i64 (d17.getD 4 .bad)).bind fun n22 =>
    (asI .i64 (d17.getD 5 .bad)).bind fun n23 =>
    (asI .i64 (d17.getD 6 .bad)).bind fun n24 =>
    (asI .i64 (d17.getD 7 .bad)).bind fun n25 =>
    (asI .i64 (d17.getD 8 .bad)).bind fun n26 =>
    (asI .i64 (d17.getD 9 .bad)).bind fun n27 =>
    (asI .i64 (d17.getD 10 .bad)).bind fun n28 =>
    (asI .i64 (d17.getD 11 .bad)).bind fun n29 =>
    (asI .i64 (d17.getD 12 .bad)).bind fun n30 =>
    let h31 := AHeap.put r16.2.1 (nx + 4) (some ⟨[(.int .i64 0), (.int .i64 0), (.int .i64 0), (.int .i64 0), (.int .i64 0), (.int .i64 0), (.int .i64 0), (.int .i64 0), (.int .i64 0), (.int .i64 0), (.int .i64 0), (.int .i64 0), (.int .i64 0)], 13, true⟩)
    (stA h31 (nx + 4) 0 (.agg [(.int .i64 n18), (.int .i64 n19), (.int .i64 n20), (.int .i64 n21), (.int .i64 n22), (.int .i64 n23), (.int .i64 n24), (.int .i64 n25), (.int .i64 n26), (.int .i64 n27), (.int .i64 n28), (.int .i64 n29), (.int .i64 n30)]) 13).bind fun b32 =>
    let h33 := AHeap.put h31 (nx + 4) (some b32)
    (ldR h33 (nx + 4) 0 13).bind fun l34 =>
    (asAgg 13 (AV.agg l34)).bind fun d35 =>
    (asI .i64 (d35.getD 0 .bad)).bind fun n36 =>
    (asI .i64 (d35.getD 1 .bad)).bind fun n37 =>
    (asI .i64 (d35.getD 2 .bad)).bind fun n38 =>
    (asI .i64 (d35.getD 3 .bad)).bind fun n39 =>
    (asI .i64 (d35.getD 4 .bad)).bind fun n40 =>
    (asI .i64 (d35.getD 5 .bad)).bind fun n41 =>
    (asI .i64 (d35.getD 6 .bad)).bind fun n42 =>
    (asI .i64 (d35.getD 7 .bad)).bind fun n43 =>
    (asI .i64 (d35.getD 8 .bad)).bind fun n44 =>
    (asI .i64 (d35.getD 9 .bad)).bind fun n45 =>
    (asI .i64 (d35.getD 10 .bad)).bind fun n46 =>
    (asI .i64 (d35.getD 11 .bad)).bind fun n47 =>
    (asI .i64 (d35.getD 12 .bad)).bind fun n48 =>
    ((callP Try.prog keepT n) Y 8 [(.agg [(.int .i64 n36), (.int .i64 n37), (.int .i64 n38), (.int .i64 n39), (.int .i64 n40), (.int .i64 n41), (.int .i64 n42), (.int .i64 n43), (.int .i64 n44), (.int .i64 n45), (.int .i64 n46), (.int .i64 n47), (.int .i64 n48)])] h33 (r16.2.2 + 7)).bind fun r49 =>
    (asTup 2 r49.1).bind fun d50 =>
    (asSl (d50.getD 0 .bad)).bind fun s51 =>
    (asI .i64 (d50.getD 1 .bad)).bind fun n52 =>
    ((callP Try.prog keepT n) Y 9 [(.slice s51.1 s51.2.1 s51.2.2)] r49.2.1 (r49.2.2 + 8)).bind fun r53 =>
    (asTup 2 r53.1).bind fun d54 =>
    (asAgg 13 (d54.getD 0 .bad)).bind fun d55 =>
    (asI .i64 (d55.getD 0 .bad)).bind fun n56 =>
    (asI .i64 (d55.getD 1 .bad)).bind fun n57 =>
    (asI .i64 (d55.getD 2 .bad)).bind fun n58 =>
    (asI .i64 (d55.getD 3 .bad)).bind fun n59 =>
    (asI .i64 (d55.getD 4 .bad)).bind fun n60 =>
    (asI .i64 (d55.getD 5 .bad)).bind fun n61 =>
    (asI .i64 (d55.getD 6 .bad)).bind fun n62 =>
    (asI .i64 (d55.getD 7 .bad)).bind fun n63 =>
    (asI .i64 (d55.getD 8 .bad)).bind fun n64 =>
    (asI .i64 (d55.getD 9 .bad)).bind fun n65 =>
    (asI .i64 (d55.getD 10 .bad)).bind fun n66 =>
    (asI .i64 (d55.getD 11 .bad)).bind fun n67 =>
    (asI .i64 (d55.getD 12 .bad)).bind fun n68 =>
    (asI .i64 (d54.getD 1 .bad)).bind fun n69 =>
    let h70 := AHeap.put r53.2.1 (r49.2.2 + 5) (some ⟨[(.int .i64 0), (.int .i64 0), (.int .i64 0), (.int .i64 0), (.int .i64 0), (.int .i64 0), (.int .i64 0), (.int .i64 0), (.int .i64 0), (.int .i64 0), (.int .i64 0), (.int .i64 0), (.int .i64 0)], 13, true⟩)
    (stA h70 (r49.2.2 + 5) 0 (.agg [(.int .i64 n56), (.int .i64 n57), (.int .i64 n58), (.int .i64 n59), (.int .i64 n60), (.int .i64 n61), (.int .i64 n62), (.int .i64 n63), (.int .i64 n64), (.int .i64 n65), (.int .i64 n66), (.int .i64 n67), (.int .i64 n68)]) 13).bind fun b71 =>
    let h72 := AHeap.put h70 (r49.2.2 + 5) (some b71)
    (ldR h72 (nx + 4) 0 13).bind fun l73 =>
    (asAgg 13 (AV.agg l73)).bind fun d74 =>
    (asI .i64 (d74.getD 0 .bad)).bind fun n75 =>
    (asI .i64 (d74.getD 1 .bad)).bind fun n76 =>
    (asI .i64 (d74.getD 2 .bad)).bind fun n77 =>
    (asI .i64 (d74.getD 3 .bad)).bind fun n78 =>
    (asI .i64 (d74.getD 4 .bad)).bind fun n79 =>
    (asI .i64 (d74.getD 5 .bad)).bind fun n80 =>
    (asI .i64 (d74.getD 6 .bad)).bind fun n81 =>
    (asI .i64 (d74.getD 7 .bad)).bind fun n82 =>
    (asI .i64 (d74.getD 8 .bad)).bind fun n83 =>
    (asI .i64 (d74.getD 9 .bad)).bind fun n84 =>
    (asI .i64 (d74.getD 10 .bad)).bind fun n85 =>
    (asI .i64 (d74.getD 11 .bad)).bind fun n86 =>
    (asI .i64 (d74.getD 12 .bad)).bind fun n87 =>
    ((callP Try.prog keepT n) Y 10 [(.agg [(.int .i64 n75), (.int .i64 n76), (.int .i64 n77), (.int .i64 n78), (.int .i64 n79), (.int .i64 n80), (.int .i64 n81), (.int .i64 n82), (.int .i64 n83), (.int .i64 n84), (.int .i64 n85), (.int .i64 n86), (.int .i64 n87)])] h72 (r53.2.2 + 21)).bind fun r88 =>
    (asB r88.1).bind fun t89 =>
    if t89 = true then
    (if ((n52 : Int) == 0) = true then
    (if ((((s51.2.1 : Nat) : Int) : Int) == 128) = true then
    (if ((n69 : Int) == 0) = true then
    ((ldR r88.2.1 (r49.2.2 + 5) 0 13).bind fun l90 =>
    (asAgg 13 (AV.agg l90)).bind fun d91 =>
    (asI .i64 (d91.getD 0 .bad)).bind fun n92 =>
    (asI .i64 (d91.getD 1 .bad)).bind fun n93 =>
    (asI .i64 (d91.getD 2 .bad)).bind fun n94 =>
    (asI .i64 (d91.getD 3 .bad)).bind fun n95 =>
    (asI .i64 (d91.getD 4 .bad)).bind fun n96 =>
    (asI .i64 (d91.getD 5 .bad)).bind fun n97 =>
    (asI .i64 (d91.getD 6 .bad)).bind fun n98 =>
    (asI .i64 (d91.getD 7 .bad)).bind fun n99 =>
    (asI .i64 (d91.getD 8 .bad)).bind fun n100 =>
    (asI .i64 (d91.getD 9 .bad)).bind fun n101 =>
    (asI .i64 (d91.getD 10 .bad)).bind fun n102 =>
    (asI .i64 (d91.getD 11 .bad)).bind fun n103 =>
    (asI .i64 (d91.getD 12 .bad)).bind fun n104 =>
    (ldR r88.2.1 (nx + 4) 0 13).bind fun l105 =>
    (asAgg 13 (AV.agg l105)).bind fun d106 =>
    (asI .i64 (d106.getD 0 .bad)).bind fun n107 =>
    (asI .i64 (d106.getD 1 .bad)).bind fun n108 =>
    (asI .i64 (d106.getD 2 .bad)).bind fun n109 =>
    (asI .i64 (d106.getD 3 .bad)).bind fun n110 =>
    (asI .i64 (d106.getD 4 .bad)).bind fun n111 =>
    (asI .i64 (d106.getD 5 .bad)).bind fun n112 =>
    (asI .i64 (d106.getD 6 .bad)).bind fun n113 =>
    (asI .i64 (d106.getD 7 .bad)).bind fun n114 =>
    (asI .i64 (d106.getD 8 .bad)).bind fun n115 =>
    (asI .i64 (d106.getD 9 .bad)).bind fun n116 =>
    (asI .i64 (d106.getD 10 .bad)).bind fun n117 =>
    (asI .i64 (d106.getD 11 .bad)).bind fun n118 =>
    (asI .i64 (d106.getD 12 .bad)).bind fun n119 =>
    some ((.bool (eqCells [(.int .i64 n92), (.int .i64 n93), (.int .i64 n94), (.int .i64 n95), (.int .i64 n96), (.int .i64 n97), (.int .i64 n98), (.int .i64 n99), (.int .i64 n100), (.int .i64 n101), (.int .i64 n102), (.int .i64 n103), (.int .i64 n104)] [(.int .i64 n107), (.int .i64 n108), (.int .i64 n109), (.int .i64 n110), (.int .i64 n111), (.int .i64 n112), (.int .i64 n113), (.int .i64 n114), (.int .i64 n115), (.int .i64 n116), (.int .i64 n117), (.int .i64 n118), (.int .i64 n119)])), r88.2.1, r88.2.2))
    else
    (some ((.bool false), r88.2.1, r88.2.2)))
    else
    (some ((.bool false), r88.2.1, r88.2.2)))
    else
    (some ((.bool false), r88.2.1, r88.2.2)))
    else
    (some ((.bool false), r88.2.1, r88.2.2)) := by kernel_rfl

/-- quickset/quicksetkeep.LabelBack -/
theorem F3_eq (n : Nat) (Y : YldF) (x0_0 : Int) (x0_1 : Int) (x0_2 : Int) (x0_3 : Int) (x0_4 : Int) (x0_5 : Int) (x0_6 : Int) (x0_7 : Int) (x0_8 : Int) (x0_9 : Int) (x0_10 : Int) (x0_11 : Int) (h : AHeap) (nx : Nat) : callP Try.prog keepT (n + 1) Y 3 [(.agg [(.int .i64 x0_0), (.int .i64 x0_1), (.int .i64 x0_2), (.int .i64 x0_3), (.int .i64 x0_4), (.int .i64 x0_5), (.int .i64 x0_6), (.int .i64 x0_7), (.int .i64 x0_8), (.int .i64 x0_9), (.int .i64 x0_10), (.int .i64 x0_11)])] h nx =
    let h1 := AHeap.put h nx (some ⟨[(.int .i64 x0_0), (.int .i64 x0_1), (.int .i64 x0_2), (.int .i64 x0_3), (.int .i64 x0_4), (.int .i64 x0_5), (.int .i64 x0_6), (.int .i64 x0_7), (.int .i64 x0_8), (.int .i64 x0_9), (.int .i64 x0_10), (.int .i64 x0_11)], 12, true⟩)
    (ldR h1 nx 0 12).bind fun l2 =>
    (asAgg 12 (AV.agg l2)).bind fun d3 =>
    (asI .i64 (d3.getD 0 .bad)).bind fun n4 =>
    (asI .i64 (d3.getD 1 .bad)).bind fun n5 =>
    (asI .i64 (d3.getD 2 .bad)).bind fun n6 =>
    (asI .i64 (d3.getD 3 .bad)).bind fun n7 =>
    (asI .i64 (d3.getD 4 .bad)).bind fun n8 =>
    (asI .i64 (d3.getD 5 .bad)).bind fun n9 =>
    (asI .i64 (d3.getD 6 .bad)).bind fun n10 =>
    (asI .i64 (d3.getD 7 .bad)).bind fun n11 =>
    (asI .i64 (d3.getD 8 .bad)).bind fun n12 =>
    (asI .i64 (d3.getD 9 .bad)).bind fun n13 =>
    (asI .i64 (d3.getD 10 .bad)).bind fun n14 =>
    (asI .i64 (d3.getD 11 .bad)).bind fun n15 =>
    ((callP Try.prog keepT n) Y 7 [(.agg [(.int .i64 n4), (.int .i64 n5), (.int .i64 n6), (.int .i64 n7), (.int .i64 n8), (.int .i64 n9), (.int .i64 n10), (.int .i64 n11), (.int .i64 n12), (.int .i64 n13), (.int .i64 n14), (.int .i64 n15)])] h1 (nx + 6)).bind fun r16 =>
    (asAgg 13 r16.1).bind fun d17 =>
    (asI .i64 (d17.getD 0 .bad)).bind fun n18 =>
    (asI .i64 (d17.getD 1 .bad)).bind fun n19 =>
    (asI .i64 (d17.getD 2 .bad)).bind fun n20 =>
    (asI .i64 (d17.getD 3 .bad)).bind fun n21 =>
    (asI .i64 (d17.getD 4 .bad)).bind fun n22 =>
    (asI .i64 (d17.getD 5 .bad)).bind fun n23 =>
    (asI .i64 (d17.getD 6 .bad)).bind fun n24 =>
    (asI .i64 (d17.getD 7 .bad)).bind fun n25 =>
    (asI .i64 (d17.getD 8 .bad)).bind fun n26 =>
    (asI .i64 (d17.getD 9 .bad)).bind fun n27 =>
    (asI .i64 (d17.getD 10 .bad)).bind fun n28 =>
    (asI .i64 (d17.getD 11 .bad)).bind fun n29 =>
    (asI .i64 (d17.getD 12 .bad)).bind fun n30 =>
    let h31 := AHeap.put r16.2.1 (nx + 4) (some ⟨[(.int .i64 0), (.int .i64 0), (.int .i64 0), (.int .i64 0), (.int .i64 0), (.int .i64 0), (.int .i64 0), (.int .i64 0), (.int .i64 0), (.int .i64 0), (.int .i64 0), (.int .i64 0), (.int .i64 0)], 13, true⟩)
    (stA h31 (nx + 4) 0 (.agg [(.int .i64 n18), (.int .i64 n19), (.int .i64 n20), (.int .i64 n21), (.int .i64 n22), (.int .i64 n23), (.int .i64 n24), (.int .i64 n25), (.int .i64 n26), (.int .i64 n27), (.int .i64 n28), (.int .i64 n29), (.int .i64 n30)]) 13).bind fun b32 =>
    let h33 := AHeap.put h31 (nx + 4) (some b32)
    (ldR h33 (nx + 4) 0 13).bind fun l34 =>
    (asAgg 13 (AV.agg l34)).bind fun d35 =>
    (asI .i64 (d35.getD 0 .bad)).bind fun n36 =>
    (asI .i64 (d35.getD 1 .bad)).bind fun n37 =>
    (asI .i64 (d35.getD 2 .bad)).bind fun n38 =>
    (asI .i64 (d35.getD 3 .bad)).bind fun n39 =>
    (asI .i64 (d35.getD 4 .bad)).bind fun n40 =>
    (asI .i64 (d35.getD 5 .bad)).bind fun n41 =>
    (asI .i64 (d35.getD 6 .bad)).bind fun n42 =>
    (asI .i64 (d35.getD 7 .bad)).bind fun n43 =>
    (asI .i64 (d35.getD 8 .bad)).bind fun n44 =>
    (asI .i64 (d35.getD 9 .bad)).bind fun n45 =>
    (asI .i64 (d35.getD 10 .bad)).bind fun n46 =>
    (asI .i64 (d35.getD 11 .bad)).bind fun n47 =>
    (asI .i64 (d35.getD 12 .bad)).bind fun n48 =>
    ((callP Try.prog keepT n) Y 8 [(.agg [(.int .i64 n36), (.int .i64 n37), (.int .i64 n38), (.int .i64 n39), (.int .i64 n40), (.int .i64 n41), (.int .i64 n42), (.int .i64 n43), (.int .i64 n44), (.int .i64 n45), (.int .i64 n46), (.int .i64 n47), (.int .i64 n48)])] h33 (r16.2.2 + 7)).bind fun r49 =>
    (asTup 2 r49.1).bind fun d50 =>
    (asSl (d50.getD 0 .bad)).bind fun s51 =>
    (asI .i64 (d50.getD 1 .bad)).bind fun n52 =>
    ((callP Try.prog keepT n) Y 9 [(.slice s51.1 s51.2.1 s51.2.2)] r49.2.1 (r49.2.2 + 8)).bind fun r53 =>
    (asTup 2 r53.1).bind fun d54 =>
    (asAgg 13 (d54.getD 0 .bad)).bind fun d55 =>
    (asI .i64 (d55.getD 0 .bad)).bind fun n56 =>
    (asI .i64 (d55.getD 1 .bad)).bind fun n57 =>
    (asI .i64 (d55.getD 2 .bad)).bind fun n58 =>
    (asI .i64 (d55.getD 3 .bad)).bind fun n59 =>
    (asI .i64 (d55.getD 4 .bad)).bind fun n60 =>
    (asI .i64 (d55.getD 5 .bad)).bind fun n61 =>
    (asI .i64 (d55.getD 6 .bad)).bind fun n62 =>
    (asI .i64 (d55.getD 7 .bad)).bind fun n63 =>
    (asI .i64 (d55.getD 8 .bad)).bind fun n64 =>
    (asI .i64 (d55.getD 9 .bad)).bind fun n65 =>
    (asI .i64 (d55.getD 10 .bad)).bind fun n66 =>
    (asI .i64 (d55.getD 11 .bad)).bind fun n67 =>
    (asI .i64 (d55.getD 12 .bad)).bind fun n68 =>
    (asI .i64 (d54.getD 1 .bad)).bind fun n69 =>
    let h70 := AHeap.put r53.2.1 (r49.2.2 + 5) (some ⟨[(.int .i64 0), (.int .i64 0), (.int .i64 0), (.int .i64 0), (.int .i64 0), (.int .i64 0), (.int .i64 0), (.int .i64 0), (.int .i64 0), (.int .i64 0), (.int .i64 0), (.int .i64 0), (.int .i64 0)], 13, true⟩)
    (stA h70 (r49.2.2 + 5) 0 (.agg [(.int .i64 n56), (.int .i64 n57), (.int .i64 n58), (.int .i64 n59), (.int .i64 n60), (.int .i64 n61), (.int .i64 n62), (.int .i64 n63), (.int .i64 n64), (.int .i64 n65), (.int .i64 n66), (.int .i64 n67), (.int .i64 n68)]) 13).bind fun b71 =>
    let h72 := AHeap.put h70 (r49.2.2 + 5) (some b71)
    (ldR h72 (nx + 4) 0 13).bind fun l73 =>
    (asAgg 13 (AV.agg l73)).bind fun d74 =>
    (asI .i64 (d74.getD 0 .bad)).bind fun n75 =>
    (asI .i64 (d74.getD 1 .bad)).bind fun n76 =>
    (asI .i64 (d74.getD 2 .bad)).bind fun n77 =>
    (asI .i64 (d74.getD 3 .bad)).bind fun n78 =>
    (asI .i64 (d74.getD 4 .bad)).bind fun n79 =>
    (asI .i64 (d74.getD 5 .bad)).bind fun n80 =>
    (asI .i64 (d74.getD 6 .bad)).bind fun n81 =>
    (asI .i64 (d74.getD 7 .bad)).bind fun n82 =>
    (asI .i64 (d74.getD 8 .bad)).bind fun n83 =>
    (asI .i64 (d74.getD 9 .bad)).bind fun n84 =>
    (asI .i64 (d74.getD 10 .bad)).bind fun n85 =>
    (asI .i64 (d74.getD 11 .bad)).bind fun n86 =>
    (asI .i64 (d74.getD 12 .bad)).bind fun n87 =>
    ((callP Try.prog keepT n) Y 10 [(.agg [(.int .i64 n75), (.int .i64 n76), (.int .i64 n77), (.int .i64 n78), (.int .i64 n79), (.int .i64 n80), (.int .i64 n81), (.int .i64 n82), (.int .i64 n83), (.int .i64 n84), (.int .i64 n85), (.int .i64 n86), (.int .i64 n87)])] h72 (r53.2.2 + 21)).bind fun r88 =>
    (asB r88.1).bind fun t89 =>
    if t89 = true then
    (if ((n52 : Int) == 0) = true then
    (if ((((s51.2.1 : Nat) : Int) : Int) == 128) = true then
    (if ((n69 : Int) == 0) = true then
    ((ldR r88.2.1 (r49.2.2 + 5) 0 13).bind fun l90 =>
    (asAgg 13 (AV.agg l90)).bind fun d91 =>
    (asI .i64 (d91.getD 0 .bad)).bind fun n92 =>
    (asI .i64 (d91.getD 1 .bad)).bind fun n93 =>
    (asI .i64 (d91.getD 2 .bad)).bind fun n94 =>
    (asI .i64 (d91.getD 3 .bad)).bind fun n95 =>
    (asI .i64 (d91.getD 4 .bad)).bind fun n96 =>
    (asI .i64 (d91.getD 5 .bad)).bind fun n97 =>
    (asI .i64 (d91.getD 6 .bad)).bind fun n98 =>
    (asI .i64 (d91.getD 7 .bad)).bind fun n99 =>
    (asI .i64 (d91.getD 8 .bad)).bind fun n100 =>
    (asI .i64 (d91.getD 9 .bad)).bind fun n101 =>
    (asI .i64 (d91.getD 10 .bad)).bind fun n102 =>
    (asI .i64 (d91.getD 11 .bad)).bind fun n103 =>
    (asI .i64 (d91.getD 12 .bad)).bind fun n104 =>
    (ldR r88.2.1 (nx + 4) 0 13).bind fun l105 =>
    (asAgg 13 (AV.agg l105)).bind fun d106 =>
    (asI .i64 (d106.getD 0 .bad)).bind fun n107 =>
    (asI .i64 (d106.getD 1 .bad)).bind fun n108 =>
    (asI .i64 (d106.getD 2 .bad)).bind fun n109 =>
    (asI .i64 (d106.getD 3 .bad)).bind fun n110 =>
    (asI .i64 (d106.getD 4 .bad)).bind fun n111 =>
    (asI .i64 (d106.getD 5 .bad)).bind fun n112 =>
    (asI .i64 (d106.getD 6 .bad)).bind fun n113 =>
    (asI .i64 (d106.getD 7 .bad)).bind fun n114 =>
    (asI .i64 (d106.getD 8 .bad)).bind fun n115 =>
    (asI .i64 (d106.getD 9 .bad)).bind fun n116 =>
    (asI .i64 (d106.getD 10 .bad)).bind fun n117 =>
    (asI .i64 (d106.getD 11 .bad)).bind fun n118 =>
    (asI .i64 (d106.getD 12 .bad)).bind fun n119 =>
    some ((.bool (eqCells [(.int .i64 n92), (.int .i64 n93), (.int .i64 n94), (.int .i64 n95), (.int .i64 n96), (.int .i64 n97), (.int .i64 n98), (.int .i64 n99), (.int .i64 n100), (.int .i64 n101), (.int .i64 n102), (.int .i64 n103), (.int .i64 n104)] [(.int .i64 n107), (.int .i64 n108), (.int .i64 n109), (.int .i64 n110), (.int .i64 n111), (.int .i64 n112), (.int .i64 n113), (.int .i64 n114), (.int .i64 n115), (.int .i64 n116), (.int .i64 n117), (.int .i64 n118), (.int .i64 n119)])), r88.2.1, r88.2.2))
    else
    (some ((.bool false), r88.2.1, r88.2.2)))
    else
    (some ((.bool false), r88.2.1, r88.2.2)))
    else
    (some ((.bool false), r88.2.1, r88.2.2)))
    else
    (some ((.bool false), r88.2.1, r88.2.2)) := F3_eq' go1 n Y x0_0 x0_1 x0_2 x0_3 x0_4 x0_5 x0_6 x0_7 x0_8 x0_9 x0_10 x0_11 h nx

noncomputable def c4 : Code := (Try.f4.body).getD .skip

noncomputable def r4 : List ResultVar := Try.f4.results.toList

theorem F4_eq' (J : StepF (AV × AHeap × Nat) → StepF (AV × AHeap × Nat)) (n : Nat) (Y : YldF) (x0a : Option (Nat × Nat)) (x0n : Nat) (x0c : Option Nat) (h : AHeap) (nx : Nat) : rootJ J Try.prog keepT (callP Try.prog keepT n) Y n 4 [(.slice x0a x0n x0c)] h nx =
    (srcS h x0a x0n 1).bind fun q1 =>
    (appD h none 0 none 1 1 (nx + 2) q1).bind fun e2 =>
    let h3 := AHeap.puts h e2.sets
    ((callP Try.prog keepT n) Y 9 [(.slice e2.a e2.n e2.c)] h3 (nx + 10)).bind fun r4 =>
    (asTup 2 r4.1).bind fun d5 =>
    (asAgg 13 (d5.getD 0 .bad)).bind fun d6 =>
    (asI .i64 (d6.getD 0 .bad)).bind fun n7 =>
    (asI .i64 (d6.getD 1 .bad)).bind fun n8 =>
    (asI .i64 (d6.getD 2 .bad)).bind fun n9 =>
    (asI .i64 (d6.getD 3 .bad)).bind fun n10 =>
    (asI .i64 (d6.getD 4 .bad)).bind fun n11 =>
    (asI .i64 (d6.getD 5 .bad)).bind fun n12 =>
    (asI .i64 (d6.getD 6 .bad)).bind fun n13 =>
    (asI .i64 (d6.getD 7 .bad)).bind fun n14 =>
    (asI .i64 (d6.getD 8 .bad)).bind fun n15 =>
    (asI .i64 (d6.getD 9 .bad)).bind fun n16 =>
    (asI .i64 (d6.getD 10 .bad)).bind fun n17 =>
    (asI .i64 (d6.getD 11 .bad)).bind fun n18 =>
    (asI .i64 (d6.getD 12 .bad)).bind fun n19 =>
    (asI .i64 (d5.getD 1 .bad)).bind fun n20 =>
    let h21 := AHeap.put r4.2.1 (nx + 7) (some ⟨[(.int .i64 0), (.int .i64 0), (.int .i64 0), (.int .i64 0), (.int .i64 0), (.int .i64 0), (.int .i64 0), (.int .i64 0), (.int .i64 0), (.int .i64 0), (.int .i64 0), (.int .i64 0), (.int .i64 0)], 13, true⟩)
    (stA h21 (nx + 7) 0 (.agg [(.int .i64 n7), (.int .i64 n8), (.int .i64 n9), (.int .i64 n10), (.int .i64 n11), (.int .i64 n12), (.int .i64 n13), (.int .i64 n14), (.int .i64 n15), (.int .i64 n16), (.int .i64 n17), (.int .i64 n18), (.int .i64 n19)]) 13).bind fun b22 =>
    let h23 := AHeap.put h21 (nx + 7) (some b22)
    ((callP Try.prog keepT n) Y 7 [(.agg [(.int .i64 0), (.int .i64 0), (.int .i64 0), (.int .i64 0), (.int .i64 0), (.int .i64 0), (.int .i64 0), (.int .i64 0), (.int .i64 0), (.int .i64 0), (.int .i64 0), (.int .i64 0)])] h23 (r4.2.2 + 4)).bind fun r24 =>
    (asAgg 13 r24.1).bind fun d25 =>
    (asI .i64 (d25.getD 0 .bad)).bind fun n26 =>
    (asI .i64 (d25.getD 1 .bad)).bind fun n27 =>
    (asI .i64 (d25.getD 2 .bad)).bind fun n28 =>
    (asI .i64 (d25.getD 3 .bad)).bind fun n29 =>
    (asI .i64 (d25.getD 4 .bad)).bind fun n30 =>
    (asI .i64 (d25.getD 5 .bad)).bind fun n31 =>
    (asI .i64 (d25.getD 6 .bad)).bind fun n32 =>
    (asI .i64 (d25.getD 7 .bad)).bind fun n33 =>
    (asI .i64 (d25.getD 8 .bad)).bind fun n34 =>
    (asI .i64 (d25.getD 9 .bad)).bind fun n35 =>
    (asI .i64 (d25.getD 10 .bad)).bind fun n36 =>
    (asI .i64 (d25.getD 11 .bad)).bind fun n37 =>
    (asI .i64 (d25.getD 12 .bad)).bind fun n38 =>
    ((callP Try.prog keepT n) Y 10 [(.agg [(.int .i64 n26), (.int .i64 n27), (.int .i64 n28), (.int .i64 n29), (.int .i64 n30), (.int .i64 n31), (.int .i64 n32), (.int .i64 n33), (.int .i64 n34), (.int .i64 n35), (.int .i64 n36), (.int .i64 n37), (.int .i64 n38)])] r24.2.1 r24.2.2).bind fun r39 =>
    (asB r39.1).bind fun t40 =>
    if (!t40) = true then
    (some ((.bool false), r39.2.1, (r39.2.2 + 1)))
    else
    (if ((n20 : Int) != 0) = true then
    ((ldR r39.2.1 (nx + 7) 0 13).bind fun l41 =>
    (asAgg 13 (AV.agg l41)).bind fun d42 =>
    (asI .i64 (d42.getD 0 .bad)).bind fun n43 =>
    (asI .i64 (d42.getD 1 .bad)).bind fun n44 =>
    (asI .i64 (d42.getD 2 .bad)).bind fun n45 =>
    (asI .i64 (d42.getD 3 .bad)).bind fun n46 =>
    (asI .i64 (d42.getD 4 .bad)).bind fun n47 =>
    (asI .i64 (d42.getD 5 .bad)).bind fun n48 =>
    (asI .i64 (d42.getD 6 .bad)).bind fun n49 =>
    (asI .i64 (d42.getD 7 .bad)).bind fun n50 =>
    (asI .i64 (d42.getD 8 .bad)).bind fun n51 =>
    (asI .i64 (d42.getD 9 .bad)).bind fun n52 =>
    (asI .i64 (d42.getD 10 .bad)).bind fun n53 =>
    (asI .i64 (d42.getD 11 .bad)).bind fun n54 =>
    (asI .i64 (d42.getD 12 .bad)).bind fun n55 =>
    some ((.bool (eqCells [(.int .i64 n43), (.int .i64 n44), (.int .i64 n45), (.int .i64 n46), (.int .i64 n47), (.int .i64 n48), (.int .i64 n49), (.int .i64 n50), (.int .i64 n51), (.int .i64 n52), (.int .i64 n53), (.int .i64 n54), (.int .i64 n55)] [(.int .i64 0), (.int .i64 0), (.int .i64 0), (.int .i64 0), (.int .i64 0), (.int .i64 0), (.int .i64 0), (.int .i64 0), (.int .i64 0), (.int .i64 0), (.int .i64 0), (.int .i64 0), (.int .i64 0)])), r39.2.1, (r39.2.2 + 6)))
    else
    ((ldR r39.2.1 (nx + 7) 0 13).bind fun l56 =>
    (asAgg 13 (AV.agg l56)).bind fun d57 =>
    (asI .i64 (d57.getD 0 .bad)).bind fun n58 =>
    (asI .i64 (d57.getD 1 .bad)).bind fun n59 =>
    (asI .i64 (d57.getD 2 .bad)).bind fun n60 =>
    (asI .i64 (d57.getD 3 .bad)).bind fun n61 =>
    (asI .i64 (d57.getD 4 .bad)).bind fun n62 =>
    (asI .i64 (d57.getD 5 .bad)).bind fun n63 =>
    (asI .i64 (d57.getD 6 .bad)).bind fun n64 =>
    (asI .i64 (d57.getD 7 .bad)).bind fun n65 =>
    (asI .i64 (d57.getD 8 .bad)).bind fun n66 =>
    (asI .i64 (d57.getD 9 .bad)).bind fun n67 =>
    (asI .i64 (d57.getD 10 .bad)).bind fun n68 =>
    (asI .i64 (d57.getD 11 .bad)).bind fun n69 =>
    (asI .i64 (d57.getD 12 .bad)).bind fun n70 =>
    ((callP Try.prog keepT n) Y 8 [(.agg [(.int .i64 n58), (.int .i64 n59), (.int .i64 n60), (.int .i64 n61), (.int .i64 n62), (.int .i64 n63), (.int .i64 n64), (.int .i64 n65), (.int .i64 n66), (.int .i64 n67), (.int .i64 n68), (.int .i64 n69), (.int .i64 n70)])] r39.2.1 (r39.2.2 + 9)).bind fun r71 =>
    (asTup 2 r71.1).bind fun d72 =>
    (asSl (d72.getD 0 .bad)).bind fun s73 =>
    (asI .i64 (d72.getD 1 .bad)).bind fun n74 =>
    if ((n74 : Int) == 0) = true then
    (((callP Try.prog keepT n) Y 11 [(.slice x0a x0n x0c), (.slice s73.1 s73.2.1 s73.2.2)] r71.2.1 (r71.2.2 + 8)).bind fun r75 =>
    (asB r75.1).bind fun t76 =>
    some ((.bool t76), r75.2.1, r75.2.2))
    else
    (some ((.bool false), r71.2.1, (r71.2.2 + 8))))) := by kernel_rfl

/-- quickset/quicksetkeep.LabelFixed -/
theorem F4_eq (n : Nat) (Y : YldF) (x0a : Option (Nat × Nat)) (x0n : Nat) (x0c : Option Nat) (h : AHeap) (nx : Nat) : callP Try.prog keepT (n + 1) Y 4 [(.slice x0a x0n x0c)] h nx =
    (srcS h x0a x0n 1).bind fun q1 =>
    (appD h none 0 none 1 1 (nx + 2) q1).bind fun e2 =>
    let h3 := AHeap.puts h e2.sets
    ((callP Try.prog keepT n) Y 9 [(.slice e2.a e2.n e2.c)] h3 (nx + 10)).bind fun r4 =>
    (asTup 2 r4.1).bind fun d5 =>
    (asAgg 13 (d5.getD 0 .bad)).bind fun d6 =>
    (asI .i64 (d6.getD 0 .bad)).bind fun n7 =>
    (asI .i64 (d6.getD 1 .bad)).bind fun n8 =>
    (asI .i64 (d6.getD 2 .bad)).bind fun n9 =>
    (asI .i64 (d6.getD 3 .bad)).bind fun n10 =>
    (asI .i64 (d6.getD 4 .bad)).bind fun n11 =>
    (asI .i64 (d6.getD 5 .bad)).bind fun n12 =>
    (asI .i64 (d6.getD 6 .bad)).bind fun n13 =>
    (asI .i64 (d6.getD 7 .bad)).bind fun n14 =>
    (asI .i64 (d6.getD 8 .bad)).bind fun n15 =>
    (asI .i64 (d6.getD 9 .bad)).bind fun n16 =>
    (asI .i64 (d6.getD 10 .bad)).bind fun n17 =>
    (asI .i64 (d6.getD 11 .bad)).bind fun n18 =>
    (asI .i64 (d6.getD 12 .bad)).bind fun n19 =>
    (asI .i64 (d5.getD 1 .bad)).bind fun n20 =>
    let h21 := AHeap.put r4.2.1 (nx + 7) (some ⟨[(.int .i64 0), (.int .i64 0), (.int .i64 0), (.int .i64 0), (.int .i64 0), (.int .i64 0), (.int .i64 0), (.int .i64 0), (.int .i64 0), (.int .i64 0), (.int .i64 0), (.int .i64 0), (.int .i64 0)], 13, true⟩)
    (stA h21 (nx + 7) 0 (.agg [(.int .i64 n7), (.int .i64 n8), (.int .i64 n9), (.int .i64 n10), (.int .i64 n11), (.int .i64 n12), (.int .i64 n13), (.int .i64 n14), (.int .i64 n15), (.int .i64 n16), (.int .i64 n17), (.int .i64 n18), (.int .i64 n19)]) 13).bind fun b22 =>
    let h23 := AHeap.put h21 (nx + 7) (some b22)
    ((callP Try.prog keepT n) Y 7 [(.agg [(.int .i64 0), (.int .i64 0), (.int .i64 0), (.int .i64 0), (.int .i64 0), (.int .i64 0), (.int .i64 0), (.int .i64 0), (.int .i64 0), (.int .i64 0), (.int .i64 0), (.int .i64 0)])] h23 (r4.2.2 + 4)).bind fun r24 =>
    (asAgg 13 r24.1).bind fun d25 =>
    (asI .i64 (d25.getD 0 .bad)).bind fun n26 =>
    (asI .i64 (d25.getD 1 .bad)).bind fun n27 =>
    (asI .i64 (d25.getD 2 .bad)).bind fun n28 =>
    (asI .i64 (d25.getD 3 .bad)).bind fun n29 =>
    (asI .i64 (d25.getD 4 .bad)).bind fun n30 =>
    (asI .i64 (d25.getD 5 .bad)).bind fun n31 =>
    (asI .i64 (d25.getD 6 .bad)).bind fun n32 =>
    (asI .i64 (d25.getD 7 .bad)).bind fun n33 =>
    (asI .i64 (d25.getD 8 .bad)).bind fun n34 =>
    (asI .i64 (d25.getD 9 .bad)).bind fun n35 =>
    (asI .i64 (d25.getD 10 .bad)).bind fun n36 =>
    (asI .i64 (d25.getD 11 .bad)).bind fun n37 =>
    (asI .i64 (d25.getD 12 .bad)).bind fun n38 =>
    ((callP Try.prog keepT n) Y 10 [(.agg [(.int .i64 n26), (.int .i64 n27), (.int .i64 n28), (.int .i64 n29), (.int .i64 n30), (.int .i64 n31), (.int .i64 n32), (.int .i64 n33), (.int .i64 n34), (.int .i64 n35), (.int .i64 n36), (.int .i64 n37), (.int .i64 n38)])] r24.2.1 r24.2.2).bind fun r39 =>
    (asB r39.1).bind fun t40 =>
    if (!t40) = true then
    (some ((.bool false), r39.2.1, (r39.2.2 + 1)))
    else
    (if ((n20 : Int) != 0) = true then
    ((ldR r39.2.1 (nx + 7) 0 13).bind fun l41 =>
    (asAgg 13 (AV.agg l41)).bind fun d42 =>
    (asI .i64 (d42.getD 0 .bad)).bind fun n43 =>
    (asI .i64 (d42.getD 1 .bad)).bind fun n44 =>
    (asI .i64 (d42.getD 2 .bad)).bind fun n45 =>
    (asI .i64 (d42.getD 3 .bad)).bind fun n46 =>
    (asI .i64 (d42.getD 4 .bad)).bind fun n47 =>
    (asI .i64 (d42.getD 5 .bad)).bind fun n48 =>
    (asI .i64 (d42.getD 6 .bad)).bind fun n49 =>
    (asI .i64 (d42.getD 7 .bad)).bind fun n50 =>
    (asI .i64 (d42.getD 8 .bad)).bind fun n51 =>
    (asI .i64 (d42.getD 9 .bad)).bind fun n52 =>
    (asI .i64 (d42.getD 10 .bad)).bind fun n53 =>
    (asI .i64 (d42.getD 11 .bad)).bind fun n54 =>
    (asI .i64 (d42.getD 12 .bad)).bind fun n55 =>
    some ((.bool (eqCells [(.int .i64 n43), (.int .i64 n44), (.int .i64 n45), (.int .i64 n46), (.int .i64 n47), (.int .i64 n48), (.int .i64 n49), (.int .i64 n50), (.int .i64 n51), (.int .i64 n52), (.int .i64 n53), (.int .i64 n54), (.int .i64 n55)] [(.int .i64 0), (.int .i64 0), (.int .i64 0), (.int .i64 0), (.int .i64 0), (.int .i64 0), (.int .i64 0), (.int .i64 0), (.int .i64 0), (.int .i64 0), (.int .i64 0), (.int .i64 0), (.int .i64 0)])), r39.2.1, (r39.2.2 + 6)))
    else
    ((ldR r39.2.1 (nx + 7) 0 13).bind fun l56 =>
    (asAgg 13 (AV.agg l56)).bind fun d57 =>
    (asI .i64 (d57.getD 0 .bad)).bind fun n58 =>
    (asI .i64 (d57.getD 1 .bad)).bind fun n59 =>
    (asI .i64 (d57.getD 2 .bad)).bind fun n60 =>
    (asI .i64 (d57.getD 3 .bad)).bind fun n61 =>
    (asI .i64 (d57.getD 4 .bad)).bind fun n62 =>
    (asI .i64 (d57.getD 5 .bad)).bind fun n63 =>
    (asI .i64 (d57.getD 6 .bad)).bind fun n64 =>
    (asI .i64 (d57.getD 7 .bad)).bind fun n65 =>
    (asI .i64 (d57.getD 8 .bad)).bind fun n66 =>
    (asI .i64 (d57.getD 9 .bad)).bind fun n67 =>
    (asI .i64 (d57.getD 10 .bad)).bind fun n68 =>
    (asI .i64 (d57.getD 11 .bad)).bind fun n69 =>
    (asI .i64 (d57.getD 12 .bad)).bind fun n70 =>
    ((callP Try.prog keepT n) Y 8 [(.agg [(.int .i64 n58), (.int .i64 n59), (.int .i64 n60), (.int .i64 n61), (.int .i64 n62), (.int .i64 n63), (.int .i64 n64), (.int .i64 n65), (.int .i64 n66), (.int .i64 n67), (.int .i64 n68), (.int .i64 n69), (.int .i64 n70)])] r39.2.1 (r39.2.2 + 9)).bind fun r71 =>
    (asTup 2 r71.1).bind fun d72 =>
    (asSl (d72.getD 0 .bad)).bind fun s73 =>
    (asI .i64 (d72.getD 1 .bad)).bind fun n74 =>
    if ((n74 : Int) == 0) = true then
    (((callP Try.prog keepT n) Y 11 [(.slice x0a x0n x0c), (.slice s73.1 s73.2.1 s73.2.2)] r71.2.1 (r71.2.2 + 8)).bind fun r75 =>
    (asB r75.1).bind fun t76 =>
    some ((.bool t76), r75.2.1, r75.2.2))
    else
    (some ((.bool false), r71.2.1, (r71.2.2 + 8))))) := F4_eq' go1 n Y x0a x0n x0c h nx

noncomputable def c5 : Code := (Try.f5.body).getD .skip

noncomputable def r5 : List ResultVar := Try.f5.results.toList

noncomputable def F5_J1' (W J : StepF (AV × AHeap × Nat) → StepF (AV × AHeap × Nat)) (call : YldF → CallF) (Y : YldF) (lf : Nat) (x1 : Int) (x2a : Option (Nat × Nat)) (x2n : Nat) (x2c : Option Nat) (x7a : Option (Nat × Nat)) (x7n : Nat) (x7c : Option Nat) (h : AHeap) (nx : Nat) : Option (AV × AHeap × Nat) :=
  goK W J drawK (machOf Try.prog) call Y (keepT 5) lf c5 [1, 1, 1] [] (retK (machOf Try.prog) ⟨c5, 71, r5, keepT 5⟩) ⟨71, mkL [(1, (.int .i64 x1)), (2, (.slice x2a x2n x2c)), (7, (.slice x7a x7n x7c))]⟩ h nx

noncomputable def F5_J1 (call : YldF → CallF) (Y : YldF) (lf : Nat) (x1 : Int) (x2a : Option (Nat × Nat)) (x2n : Nat) (x2c : Option Nat) (x7a : Option (Nat × Nat)) (x7n : Nat) (x7c : Option Nat) (h : AHeap) (nx : Nat) : Option (AV × AHeap × Nat) := F5_J1' go1 go1 call Y lf x1 x2a x2n x2c x7a x7n x7c h nx

noncomputable def F5_L2' (W J : StepF (AV × AHeap × Nat) → StepF (AV × AHeap × Nat)) (call : YldF → CallF) (Y : YldF) (lf : Nat) (n0 : Nat) (x2a : Option (Nat × Nat)) (x2n : Nat) (x2c : Option Nat) (x7a : Option (Nat × Nat)) (x7n : Nat) (x7c : Option Nat) (x9a : Option (Nat × Nat)) (x9n : Nat) (x9c : Option Nat) (x10 : Int) (x11 : Int) (h : AHeap) (nx : Nat) : Option (AV × AHeap × Nat) :=
  goK W J drawK (machOf Try.prog) call Y (keepT 5) lf c5 [1, 1, 1, 1, 1, 0, 1, 0, 9] [n0] (retK (machOf Try.prog) ⟨c5, 71, r5, keepT 5⟩) ⟨71, mkL [(2, (.slice x2a x2n x2c)), (7, (.slice x7a x7n x7c)), (9, (.slice x9a x9n x9c)), (10, (.int .i64 x10)), (11, (.int .i64 x11))]⟩ h nx

noncomputable def F5_L2 (call : YldF → CallF) (Y : YldF) (lf : Nat) (n0 : Nat) (x2a : Option (Nat × Nat)) (x2n : Nat) (x2c : Option Nat) (x7a : Option (Nat × Nat)) (x7n : Nat) (x7c : Option Nat) (x9a : Option (Nat × Nat)) (x9n : Nat) (x9c : Option Nat) (x10 : Int) (x11 : Int) (h : AHeap) (nx : Nat) : Option (AV × AHeap × Nat) := F5_L2' go1 go1 call Y lf n0 x2a x2n x2c x7a x7n x7c x9a x9n x9c x10 x11 h nx

noncomputable def F5_J3' (W J : StepF (AV × AHeap × Nat) → StepF (AV × AHeap × Nat)) (call : YldF → CallF) (Y : YldF) (lf : Nat) (n0 : Nat) (x2a : Option (Nat × Nat)) (x2n : Nat) (x2c : Option Nat) (x7a : Option (Nat × Nat)) (x7n : Nat) (x7c : Option Nat) (x9a : Option (Nat × Nat)) (x9n : Nat) (x9c : Option Nat) (x10 : Int) (x11 : Int) (h : AHeap) (nx : Nat) : Option (AV × AHeap × Nat) :=
  goK W J drawK (machOf Try.prog) call Y (keepT 5) lf c5 [1, 1, 1, 1, 1, 0, 1, 0, 0, 1] [n0] (retK (machOf Try.prog) ⟨c5, 71, r5, keepT 5⟩) ⟨71, mkL [(2, (.slice x2a x2n x2c)), (7, (.slice x7a x7n x7c)), (9, (.slice x9a x9n x9c)), (10, (.int .i64 x10)), (11, (.int .i64 x11))]⟩ h nx

noncomputable def F5_J3 (call : YldF → CallF) (Y : YldF) (lf : Nat) (n0 : Nat) (x2a : Option (Nat × Nat)) (x2n : Nat) (x2c : Option Nat) (x7a : Option (Nat × Nat)) (x7n : Nat) (x7c : Option Nat) (x9a : Option (Nat × Nat)) (x9n : Nat) (x9c : Option Nat) (x10 : Int) (x11 : Int) (h : AHeap) (nx : Nat) : Option (AV × AHeap × Nat) := F5_J3' go1 go1 call Y lf n0 x2a x2n x2c x7a x7n x7c x9a x9n x9c x10 x11 h nx

noncomputable def F5_J4' (W J : StepF (AV × AHeap × Nat) → StepF (AV × AHeap × Nat)) (call : YldF → CallF) (Y : YldF) (lf : Nat) (x7a : Option (Nat × Nat)) (x7n : Nat) (x7c : Option Nat) (x9a : Option (Nat × Nat)) (x9n : Nat) (x9c : Option Nat) (h : AHeap) (nx : Nat) : Option (AV × AHeap × Nat) :=
  goK W J drawK (machOf Try.prog) call Y (keepT 5) lf c5 [1, 1, 1, 1, 1, 1] [] (retK (machOf Try.prog) ⟨c5, 71, r5, keepT 5⟩) ⟨71, mkL [(7, (.slice x7a x7n x7c)), (9, (.slice x9a x9n x9c))]⟩ h nx

noncomputable def F5_J4 (call : YldF → CallF) (Y : YldF) (lf : Nat) (x7a : Option (Nat × Nat)) (x7n : Nat) (x7c : Option Nat) (x9a : Option (Nat × Nat)) (x9n : Nat) (x9c : Option Nat) (h : AHeap) (nx : Nat) : Option (AV × AHeap × Nat) := F5_J4' go1 go1 call Y lf x7a x7n x7c x9a x9n x9c h nx

theorem F5_J1_eq' (J : StepF (AV × AHeap × Nat) → StepF (AV × AHeap × Nat)) (call : YldF → CallF) (Y : YldF) (lf : Nat) (x1 : Int) (x2a : Option (Nat × Nat)) (x2n : Nat) (x2c : Option Nat) (x7a : Option (Nat × Nat)) (x7n : Nat) (x7c : Option Nat) (h : AHeap) (nx : Nat) : F5_J1' go1 J call Y lf x1 x2a x2n x2c x7a x7n x7c h nx =
    (srcS h x7a x7n 1).bind fun q1 =>
    (appD h none 0 none 1 1 (nx + 1) q1).bind fun e2 =>
    let h3 := AHeap.puts h e2.sets
    (call Y 12 [(.int .i64 x1), (.int .i64 32)] h3 (nx + 7)).bind fun r4 =>
    (asI .i64 r4.1).bind fun n5 =>
    F5_L2' J J call Y lf lf x2a x2n x2c x7a x7n x7c e2.a e2.n e2.c (wrapA .i64 (4 * n5)) 0 r4.2.1 (r4.2.2 + 1) := by kernel_rfl

theorem F5_J1_eq (call : YldF → CallF) (Y : YldF) (lf : Nat) (x1 : Int) (x2a : Option (Nat × Nat)) (x2n : Nat) (x2c : Option Nat) (x7a : Option (Nat × Nat)) (x7n : Nat) (x7c : Option Nat) (h : AHeap) (nx : Nat) : F5_J1 call Y lf x1 x2a x2n x2c x7a x7n x7c h nx =
    (srcS h x7a x7n 1).bind fun q1 =>
    (appD h none 0 none 1 1 (nx + 1) q1).bind fun e2 =>
    let h3 := AHeap.puts h e2.sets
    (call Y 12 [(.int .i64 x1), (.int .i64 32)] h3 (nx + 7)).bind fun r4 =>
    (asI .i64 r4.1).bind fun n5 =>
    F5_L2 call Y lf lf x2a x2n x2c x7a x7n x7c e2.a e2.n e2.c (wrapA .i64 (4 * n5)) 0 r4.2.1 (r4.2.2 + 1) := F5_J1_eq' go1 call Y lf x1 x2a x2n x2c x7a x7n x7c h nx

theorem F5_L2_eq' (J : StepF (AV × AHeap × Nat) → StepF (AV × AHeap × Nat)) (call : YldF → CallF) (Y : YldF) (lf : Nat) (n0 : Nat) (x2a : Option (Nat × Nat)) (x2n : Nat) (x2c : Option Nat) (x7a : Option (Nat × Nat)) (x7n : Nat) (x7c : Option Nat) (x9a : Option (Nat × Nat)) (x9n : Nat) (x9c : Option Nat) (x10 : Int) (x11 : Int) (h : AHeap) (nx : Nat) : F5_L2' go1 J call Y lf (n0 + 1) x2a x2n x2c x7a x7n x7c x9a x9n x9c x10 x11 h nx =
    if (decide ((x11 : Int) < 4)) = true then
    (if (decide ((x11 : Int) < ((x2n : Nat) : Int))) = true then
    (F5_J3' J J call Y lf n0 x2a x2n x2c x7a x7n x7c x9a x9n x9c x10 x11 h (nx + 8))
    else
    (F5_J4' J J call Y lf x7a x7n x7c x9a x9n x9c h (nx + 8)))
    else
    (F5_J4' J J call Y lf x7a x7n x7c x9a x9n x9c h (nx + 8)) := by kernel_rfl

theorem F5_L2_eq (call : YldF → CallF) (Y : YldF) (lf : Nat) (n0 : Nat) (x2a : Option (Nat × Nat)) (x2n : Nat) (x2c : Option Nat) (x7a : Option (Nat × Nat)) (x7n : Nat) (x7c : Option Nat) (x9a : Option (Nat × Nat)) (x9n : Nat) (x9c : Option Nat) (x10 : Int) (x11 : Int) (h : AHeap) (nx : Nat) : F5_L2 call Y lf (n0 + 1) x2a x2n x2c x7a x7n x7c x9a x9n x9c x10 x11 h nx =
    if (decide ((x11 : Int) < 4)) = true then
    (if (decide ((x11 : Int) < ((x2n : Nat) : Int))) = true then
    (F5_J3 call Y lf n0 x2a x2n x2c x7a x7n x7c x9a x9n x9c x10 x11 h (nx + 8))
    else
    (F5_J4 call Y lf x7a x7n x7c x9a x9n x9c h (nx + 8)))
    else
    (F5_J4 call Y lf x7a x7n x7c x9a x9n x9c h (nx + 8)) := F5_L2_eq' go1 call Y lf n0 x2a x2n x2c x7a x7n x7c x9a x9n x9c x10 x11 h nx

theorem F5_L2_zero (call : YldF → CallF) (Y : YldF) (lf : Nat) (x2a : Option (Nat × Nat)) (x2n : Nat) (x2c : Option Nat) (x7a : Option (Nat × Nat)) (x7n : Nat) (x7c : Option Nat) (x9a : Option (Nat × Nat)) (x9n : Nat) (x9c : Option Nat) (x10 : Int) (x11 : Int) (h : AHeap) (nx : Nat) : F5_L2 call Y lf 0 x2a x2n x2c x7a x7n x7c x9a x9n x9c x10 x11 h nx = none := by kernel_rfl

theorem F5_J3_eq' (J : StepF (AV × AHeap × Nat) → StepF (AV × AHeap × Nat)) (call : YldF → CallF) (Y : YldF) (lf : Nat) (n0 : Nat) (x2a : Option (Nat × Nat)) (x2n : Nat) (x2c : Option Nat) (x7a : Option (Nat × Nat)) (x7n : Nat) (x7c : Option Nat) (x9a : Option (Nat × Nat)) (x9n : Nat) (x9c : Option Nat) (x10 : Int) (x11 : Int) (h : AHeap) (nx : Nat) : F5_J3' go1 J call Y lf n0 x2a x2n x2c x7a x7n x7c x9a x9n x9c x10 x11 h nx =
    (x9a).bind fun p1 =>
    if 0 ≤ ((wrapA .i64 (x10 + x11)) : Int) ∧ (wrapA .i64 (x10 + x11)) < ((x9n : Nat) : Int) then
    ((ldA h p1.1 (p1.2 + Int.toNat (wrapA .i64 (x10 + x11)) * 1)).bind fun v2 =>
    (asI .u8 v2).bind fun n3 =>
    (x2a).bind fun p4 =>
    if 0 ≤ (x11 : Int) ∧ x11 < ((x2n : Nat) : Int) then
    ((ldA h p4.1 (p4.2 + Int.toNat x11 * 1)).bind fun v5 =>
    (asI .u8 v5).bind fun n6 =>
    (x9a).bind fun p7 =>
    if 0 ≤ ((wrapA .i64 (x10 + x11)) : Int) ∧ (wrapA .i64 (x10 + x11)) < ((x9n : Nat) : Int) then
    ((stA h p7.1 (p7.2 + Int.toNat (wrapA .i64 (x10 + x11)) * 1) (.int .u8 (bits .xor .u8 n3 n6)) 1).bind fun b8 =>
    let h9 := AHeap.put h p7.1 (some b8)
    F5_L2' J J call Y lf n0 x2a x2n x2c x7a x7n x7c x9a x9n x9c x10 (wrapA .i64 (x11 + 1)) h9 (nx + 16))
    else none)
    else none)
    else none := by kernel_rfl

theorem F5_J3_eq (call : YldF → CallF) (Y : YldF) (lf : Nat) (n0 : Nat) (x2a : Option (Nat × Nat)) (x2n : Nat) (x2c : Option Nat) (x7a : Option (Nat × Nat)) (x7n : Nat) (x7c : Option Nat) (x9a : Option (Nat × Nat)) (x9n : Nat) (x9c : Option Nat) (x10 : Int) (x11 : Int) (h : AHeap) (nx : Nat) : F5_J3 call Y lf n0 x2a x2n x2c x7a x7n x7c x9a x9n x9c x10 x11 h nx =
    (x9a).bind fun p1 =>
    if 0 ≤ ((wrapA .i64 (x10 + x11)) : Int) ∧ (wrapA .i64 (x10 + x11)) < ((x9n : Nat) : Int) then
    ((ldA h p1.1 (p1.2 + Int.toNat (wrapA .i64 (x10 + x11)) * 1)).bind fun v2 =>
    (asI .u8 v2).bind fun n3 =>
    (x2a).bind fun p4 =>
    if 0 ≤ (x11 : Int) ∧ x11 < ((x2n : Nat) : Int) then
    ((ldA h p4.1 (p4.2 + Int.toNat x11 * 1)).bind fun v5 =>
    (asI .u8 v5).bind fun n6 =>
    (x9a).bind fun p7 =>
    if 0 ≤ ((wrapA .i64 (x10 + x11)) : Int) ∧ (wrapA .i64 (x10 + x11)) < ((x9n : Nat) : Int) then
    ((stA h p7.1 (p7.2 + Int.toNat (wrapA .i64 (x10 + x11)) * 1) (.int .u8 (bits .xor .u8 n3 n6)) 1).bind fun b8 =>
    let h9 := AHeap.put h p7.1 (some b8)
    F5_L2 call Y lf n0 x2a x2n x2c x7a x7n x7c x9a x9n x9c x10 (wrapA .i64 (x11 + 1)) h9 (nx + 16))
    else none)
    else none)
    else none := F5_J3_eq' go1 call Y lf n0 x2a x2n x2c x7a x7n x7c x9a x9n x9c x10 x11 h nx

theorem F5_J4_eq' (J : StepF (AV × AHeap × Nat) → StepF (AV × AHeap × Nat)) (call : YldF → CallF) (Y : YldF) (lf : Nat) (x7a : Option (Nat × Nat)) (x7n : Nat) (x7c : Option Nat) (x9a : Option (Nat × Nat)) (x9n : Nat) (x9c : Option Nat) (h : AHeap) (nx : Nat) : F5_J4' go1 J call Y lf x7a x7n x7c x9a x9n x9c h nx =
    (call Y 9 [(.slice x9a x9n x9c)] h (nx + 8)).bind fun r1 =>
    (asTup 2 r1.1).bind fun d2 =>
    (asAgg 13 (d2.getD 0 .bad)).bind fun d3 =>
    (asI .i64 (d3.getD 0 .bad)).bind fun n4 =>
    (asI .i64 (d3.getD 1 .bad)).bind fun n5 =>
    (asI .i64 (d3.getD 2 .bad)).bind fun n6 =>
    (asI .i64 (d3.getD 3 .bad)).bind fun n7 =>
    (asI .i64 (d3.getD 4 .bad)).bind fun n8 =>
    (asI .i64 (d3.getD 5 .bad)).bind fun n9 =>
    (asI .i64 (d3.getD 6 .bad)).bind fun n10 =>
    (asI .i64 (d3.getD 7 .bad)).bind fun n11 =>
    (asI .i64 (d3.getD 8 .bad)).bind fun n12 =>
    (asI .i64 (d3.getD 9 .bad)).bind fun n13 =>
    (asI .i64 (d3.getD 10 .bad)).bind fun n14 =>
    (asI .i64 (d3.getD 11 .bad)).bind fun n15 =>
    (asI .i64 (d3.getD 12 .bad)).bind fun n16 =>
    (asI .i64 (d2.getD 1 .bad)).bind fun n17 =>
    let h18 := AHeap.put r1.2.1 (nx + 5) (some ⟨[(.int .i64 0), (.int .i64 0), (.int .i64 0), (.int .i64 0), (.int .i64 0), (.int .i64 0), (.int .i64 0), (.int .i64 0), (.int .i64 0), (.int .i64 0), (.int .i64 0), (.int .i64 0), (.int .i64 0)], 13, true⟩)
    (stA h18 (nx + 5) 0 (.agg [(.int .i64 n4), (.int .i64 n5), (.int .i64 n6), (.int .i64 n7), (.int .i64 n8), (.int .i64 n9), (.int .i64 n10), (.int .i64 n11), (.int .i64 n12), (.int .i64 n13), (.int .i64 n14), (.int .i64 n15), (.int .i64 n16)]) 13).bind fun b19 =>
    let h20 := AHeap.put h18 (nx + 5) (some b19)
    (call Y 11 [(.slice x7a x7n x7c), (.slice x9a x9n x9c)] h20 (r1.2.2 + 3)).bind fun r21 =>
    (asB r21.1).bind fun t22 =>
    if t22 = true then
    (some ((.bool ((n17 : Int) == 0)), r21.2.1, (r21.2.2 + 3)))
    else
    (if ((n17 : Int) == 11) = true then
    ((ldR r21.2.1 (nx + 5) 0 13).bind fun l23 =>
    (asAgg 13 (AV.agg l23)).bind fun d24 =>
    (asI .i64 (d24.getD 0 .bad)).bind fun n25 =>
    (asI .i64 (d24.getD 1 .bad)).bind fun n26 =>
    (asI .i64 (d24.getD 2 .bad)).bind fun n27 =>
    (asI .i64 (d24.getD 3 .bad)).bind fun n28 =>
    (asI .i64 (d24.getD 4 .bad)).bind fun n29 =>
    (asI .i64 (d24.getD 5 .bad)).bind fun n30 =>
    (asI .i64 (d24.getD 6 .bad)).bind fun n31 =>
    (asI .i64 (d24.getD 7 .bad)).bind fun n32 =>
    (asI .i64 (d24.getD 8 .bad)).bind fun n33 =>
    (asI .i64 (d24.getD 9 .bad)).bind fun n34 =>
    (asI .i64 (d24.getD 10 .bad)).bind fun n35 =>
    (asI .i64 (d24.getD 11 .bad)).bind fun n36 =>
    (asI .i64 (d24.getD 12 .bad)).bind fun n37 =>
    some ((.bool (eqCells [(.int .i64 n25), (.int .i64 n26), (.int .i64 n27), (.int .i64 n28), (.int .i64 n29), (.int .i64 n30), (.int .i64 n31), (.int .i64 n32), (.int .i64 n33), (.int .i64 n34), (.int .i64 n35), (.int .i64 n36), (.int .i64 n37)] [(.int .i64 0), (.int .i64 0), (.int .i64 0), (.int .i64 0), (.int .i64 0), (.int .i64 0), (.int .i64 0), (.int .i64 0), (.int .i64 0), (.int .i64 0), (.int .i64 0), (.int .i64 0), (.int .i64 0)])), r21.2.1, (r21.2.2 + 8)))
    else
    (some ((.bool false), r21.2.1, (r21.2.2 + 8)))) := by kernel_rfl

theorem F5_J4_eq (call : YldF → CallF) (Y : YldF) (lf : Nat) (x7a : Option (Nat × Nat)) (x7n : Nat) (x7c : Option Nat) (x9a : Option (Nat × Nat)) (x9n : Nat) (x9c : Option Nat) (h : AHeap) (nx : Nat) : F5_J4 call Y lf x7a x7n x7c x9a x9n x9c h nx =
    (call Y 9 [(.slice x9a x9n x9c)] h (nx + 8)).bind fun r1 =>
    (asTup 2 r1.1).bind fun d2 =>
    (asAgg 13 (d2.getD 0 .bad)).bind fun d3 =>
    (asI .i64 (d3.getD 0 .bad)).bind fun n4 =>
    (asI .i64 (d3.getD 1 .bad)).bind fun n5 =>
    (asI .i64 (d3.getD 2 .bad)).bind fun n6 =>
    (asI .i64 (d3.getD 3 .bad)).bind fun n7 =>
    (asI .i64 (d3.getD 4 .bad)).bind fun n8 =>
    (asI .i64 (d3.getD 5 .bad)).bind fun n9 =>
    (asI .i64 (d3.getD 6 .bad)).bind fun n10 =>
    (asI .i64 (d3.getD 7 .bad)).bind fun n11 =>
    (asI .i64 (d3.getD 8 .bad)).bind fun n12 =>
    (asI .i64 (d3.getD 9 .bad)).bind fun n13 =>
    (asI .i64 (d3.getD 10 .bad)).bind fun n14 =>
    (asI .i64 (d3.getD 11 .bad)).bind fun n15 =>
    (asI .i64 (d3.getD 12 .bad)).bind fun n16 =>
    (asI .i64 (d2.getD 1 .bad)).bind fun n17 =>
    let h18 := AHeap.put r1.2.1 (nx + 5) (some ⟨[(.int .i64 0), (.int .i64 0), (.int .i64 0), (.int .i64 0), (.int .i64 0), (.int .i64 0), (.int .i64 0), (.int .i64 0), (.int .i64 0), (.int .i64 0), (.int .i64 0), (.int .i64 0), (.int .i64 0)], 13, true⟩)
    (stA h18 (nx + 5) 0 (.agg [(.int .i64 n4), (.int .i64 n5), (.int .i64 n6), (.int .i64 n7), (.int .i64 n8), (.int .i64 n9), (.int .i64 n10), (.int .i64 n11), (.int .i64 n12), (.int .i64 n13), (.int .i64 n14), (.int .i64 n15), (.int .i64 n16)]) 13).bind fun b19 =>
    let h20 := AHeap.put h18 (nx + 5) (some b19)
    (call Y 11 [(.slice x7a x7n x7c), (.slice x9a x9n x9c)] h20 (r1.2.2 + 3)).bind fun r21 =>
    (asB r21.1).bind fun t22 =>
    if t22 = true then
    (some ((.bool ((n17 : Int) == 0)), r21.2.1, (r21.2.2 + 3)))
    else
    (if ((n17 : Int) == 11) = true then
    ((ldR r21.2.1 (nx + 5) 0 13).bind fun l23 =>
    (asAgg 13 (AV.agg l23)).bind fun d24 =>
    (asI .i64 (d24.getD 0 .bad)).bind fun n25 =>
    (asI .i64 (d24.getD 1 .bad)).bind fun n26 =>
    (asI .i64 (d24.getD 2 .bad)).bind fun n27 =>
    (asI .i64 (d24.getD 3 .bad)).bind fun n28 =>
    (asI .i64 (d24.getD 4 .bad)).bind fun n29 =>
    (asI .i64 (d24.getD 5 .bad)).bind fun n30 =>
    (asI .i64 (d24.getD 6 .bad)).bind fun n31 =>
    (asI .i64 (d24.getD 7 .bad)).bind fun n32 =>
    (asI .i64 (d24.getD 8 .bad)).bind fun n33 =>
    (asI .i64 (d24.getD 9 .bad)).bind fun n34 =>
    (asI .i64 (d24.getD 10 .bad)).bind fun n35 =>
    (asI .i64 (d24.getD 11 .bad)).bind fun n36 =>
    (asI .i64 (d24.getD 12 .bad)).bind fun n37 =>
    some ((.bool (eqCells [(.int .i64 n25), (.int .i64 n26), (.int .i64 n27), (.int .i64 n28), (.int .i64 n29), (.int .i64 n30), (.int .i64 n31), (.int .i64 n32), (.int .i64 n33), (.int .i64 n34), (.int .i64 n35), (.int .i64 n36), (.int .i64 n37)] [(.int .i64 0), (.int .i64 0), (.int .i64 0), (.int .i64 0), (.int .i64 0), (.int .i64 0), (.int .i64 0), (.int .i64 0), (.int .i64 0), (.int .i64 0), (.int .i64 0), (.int .i64 0), (.int .i64 0)])), r21.2.1, (r21.2.2 + 8)))
    else
    (some ((.bool false), r21.2.1, (r21.2.2 + 8)))) := F5_J4_eq' go1 call Y lf x7a x7n x7c x9a x9n x9c h nx

theorem F5_eq' (J : StepF (AV × AHeap × Nat) → StepF (AV × AHeap × Nat)) (n : Nat) (Y : YldF) (x0_0 : Int) (x0_1 : Int) (x0_2 : Int) (x0_3 : Int) (x0_4 : Int) (x0_5 : Int) (x0_6 : Int) (x0_7 : Int) (x0_8 : Int) (x0_9 : Int) (x0_10 : Int) (x0_11 : Int) (x1 : Int) (x2a : Option (Nat × Nat)) (x2n : Nat) (x2c : Option Nat) (h : AHeap) (nx : Nat) : rootJ J Try.prog keepT (callP Try.prog keepT n) Y n 5 [(.agg [(.int .i64 x0_0), (.int .i64 x0_1), (.int .i64 x0_2), (.int .i64 x0_3), (.int .i64 x0_4), (.int .i64 x0_5), (.int .i64 x0_6), (.int .i64 x0_7), (.int .i64 x0_8), (.int .i64 x0_9), (.int .i64 x0_10), (.int .i64 x0_11)]), (.int .i64 x1), (.slice x2a x2n x2c)] h nx =
    let h1 := AHeap.put h nx (some ⟨[(.int .i64 x0_0), (.int .i64 x0_1), (.int .i64 x0_2), (.int .i64 x0_3), (.int .i64 x0_4), (.int .i64 x0_5), (.int .i64 x0_6), (.int .i64 x0_7), (.int .i64 x0_8), (.int .i64 x0_9), (.int .i64 x0_10), (.int .i64 x0_11)], 12, true⟩)
    (ldR h1 nx 0 12).bind fun l2 =>
    (asAgg 12 (AV.agg l2)).bind fun d3 =>
    (asI .i64 (d3.getD 0 .bad)).bind fun n4 =>
    (asI .i64 (d3.getD 1 .bad)).bind fun n5 =>
    (asI .i64 (d3.getD 2 .bad)).bind fun n6 =>
    (asI .i64 (d3.getD 3 .bad)).bind fun n7 =>
    (asI .i64 (d3.getD 4 .bad)).bind fun n8 =>
    (asI .i64 (d3.getD 5 .bad)).bind fun n9 =>
    (asI .i64 (d3.getD 6 .bad)).bind fun n10 =>
    (asI .i64 (d3.getD 7 .bad)).bind fun n11 =>
    (asI .i64 (d3.getD 8 .bad)).bind fun n12 =>
    (asI .i64 (d3.getD 9 .bad)).bind fun n13 =>
    (asI .i64 (d3.getD 10 .bad)).bind fun n14 =>
    (asI .i64 (d3.getD 11 .bad)).bind fun n15 =>
    ((callP Try.prog keepT n) Y 7 [(.agg [(.int .i64 n4), (.int .i64 n5), (.int .i64 n6), (.int .i64 n7), (.int .i64 n8), (.int .i64 n9), (.int .i64 n10), (.int .i64 n11), (.int .i64 n12), (.int .i64 n13), (.int .i64 n14), (.int .i64 n15)])] h1 (nx + 10)).bind fun r16 =>
    (asAgg 13 r16.1).bind fun d17 =>
    (asI .i64 (d17.getD 0 .bad)).bind fun n18 =>
    (asI .i64 (d17.getD 1 .bad)).bind fun n19 =>
    (asI .i64 (d17.getD 2 .bad)).bind fun n20 =>
    (asI .i64 (d17.getD 3 .bad)).bind fun n21 =>
    (asI .i64 (d17.getD 4 .bad)).bind fun n22 =>
    (asI .i64 (d17.getD 5 .bad)).bind fun n23 =>
    (asI .i64 (d17.getD 6 .bad)).bind fun n24 =>
    (asI .i64 (d17.getD 7 .bad)).bind fun n25 =>
    (asI .i64 (d17.getD 8 .bad)).bind fun n26 =>
    (asI .i64 (d17.getD 9 .bad)).bind fun n27 =>
    (asI .i64 (d17.getD 10 .bad)).bind fun n28 =>
    (asI .i64 (d17.getD 11 .bad)).bind fun n29 =>
    (asI .i64 (d17.getD 12 .bad)).bind fun n30 =>
    ((callP Try.prog keepT n) Y 8 [(.agg [(.int .i64 n18), (.int .i64 n19), (.int .i64 n20), (.int .i64 n21), (.int .i64 n22), (.int .i64 n23), (.int .i64 n24), (.int .i64 n25), (.int .i64 n26), (.int .i64 n27), (.int .i64 n28), (.int .i64 n29), (.int .i64 n30)])] r16.2.1 r16.2.2).bind fun r31 =>
    (asTup 2 r31.1).bind fun d32 =>
    (asSl (d32.getD 0 .bad)).bind fun s33 =>
    (asI .i64 (d32.getD 1 .bad)).bind fun n34 =>
    if ((n34 : Int) != 0) = true then
    (some ((.bool false), r31.2.1, (r31.2.2 + 8)))
    else
    (if ((((s33.2.1 : Nat) : Int) : Int) != 128) = true then
    (some ((.bool false), r31.2.1, (r31.2.2 + 8)))
    else
    (F5_J1' J J (callP Try.prog keepT n) Y n x1 x2a x2n x2c s33.1 s33.2.1 s33.2.2 r31.2.1 (r31.2.2 + 7))) := by kernel_rfl

/-- quickset/quicksetkeep.LabelTouched -/
theorem F5_eq (n : Nat) (Y : YldF) (x0_0 : Int) (x0_1 : Int) (x0_2 : Int) (x0_3 : Int) (x0_4 : Int) (x0_5 : Int) (x0_6 : Int) (x0_7 : Int) (x0_8 : Int) (x0_9 : Int) (x0_10 : Int) (x0_11 : Int) (x1 : Int) (x2a : Option (Nat × Nat)) (x2n : Nat) (x2c : Option Nat) (h : AHeap) (nx : Nat) : callP Try.prog keepT (n + 1) Y 5 [(.agg [(.int .i64 x0_0), (.int .i64 x0_1), (.int .i64 x0_2), (.int .i64 x0_3), (.int .i64 x0_4), (.int .i64 x0_5), (.int .i64 x0_6), (.int .i64 x0_7), (.int .i64 x0_8), (.int .i64 x0_9), (.int .i64 x0_10), (.int .i64 x0_11)]), (.int .i64 x1), (.slice x2a x2n x2c)] h nx =
    let h1 := AHeap.put h nx (some ⟨[(.int .i64 x0_0), (.int .i64 x0_1), (.int .i64 x0_2), (.int .i64 x0_3), (.int .i64 x0_4), (.int .i64 x0_5), (.int .i64 x0_6), (.int .i64 x0_7), (.int .i64 x0_8), (.int .i64 x0_9), (.int .i64 x0_10), (.int .i64 x0_11)], 12, true⟩)
    (ldR h1 nx 0 12).bind fun l2 =>
    (asAgg 12 (AV.agg l2)).bind fun d3 =>
    (asI .i64 (d3.getD 0 .bad)).bind fun n4 =>
    (asI .i64 (d3.getD 1 .bad)).bind fun n5 =>
    (asI .i64 (d3.getD 2 .bad)).bind fun n6 =>
    (asI .i64 (d3.getD 3 .bad)).bind fun n7 =>
    (asI .i64 (d3.getD 4 .bad)).bind fun n8 =>
    (asI .i64 (d3.getD 5 .bad)).bind fun n9 =>
    (asI .i64 (d3.getD 6 .bad)).bind fun n10 =>
    (asI .i64 (d3.getD 7 .bad)).bind fun n11 =>
    (asI .i64 (d3.getD 8 .bad)).bind fun n12 =>
    (asI .i64 (d3.getD 9 .bad)).bind fun n13 =>
    (asI .i64 (d3.getD 10 .bad)).bind fun n14 =>
    (asI .i64 (d3.getD 11 .bad)).bind fun n15 =>
    ((callP Try.prog keepT n) Y 7 [(.agg [(.int .i64 n4), (.int .i64 n5), (.int .i64 n6), (.int .i64 n7), (.int .i64 n8), (.int .i64 n9), (.int .i64 n10), (.int .i64 n11), (.int .i64 n12), (.int .i64 n13), (.int .i64 n14), (.int .i64 n15)])] h1 (nx + 10)).bind fun r16 =>
    (asAgg 13 r16.1).bind fun d17 =>
    (asI .i64 (d17.getD 0 .bad)).bind fun n18 =>
    (asI .i64 (d17.getD 1 .bad)).bind fun n19 =>
    (asI .i64 (d17.getD 2 .bad)).bind fun n20 =>
    (asI .i64 (d17.getD 3 .bad)).bind fun n21 =>
    (asI .i64 (d17.getD 4 .bad)).bind fun n22 =>
    (asI .i64 (d17.getD 5 .bad)).bind fun n23 =>
    (asI .i64 (d17.getD 6 .bad)).bind fun n24 =>
    (asI .i64 (d17.getD 7 .bad)).bind fun n25 =>
    (asI .i64 (d17.getD 8 .bad)).bind fun n26 =>
    (asI .i64 (d17.getD 9 .bad)).bind fun n27 =>
    (asI .i64 (d17.getD 10 .bad)).bind fun n28 =>
    (asI .i64 (d17.getD 11 .bad)).bind fun n29 =>
    (asI .i64 (d17.getD 12 .bad)).bind fun n30 =>
    ((callP Try.prog keepT n) Y 8 [(.agg [(.int .i64 n18), (.int .i64 n19), (.int .i64 n20), (.int .i64 n21), (.int .i64 n22), (.int .i64 n23), (.int .i64 n24), (.int .i64 n25), (.int .i64 n26), (.int .i64 n27), (.int .i64 n28), (.int .i64 n29), (.int .i64 n30)])] r16.2.1 r16.2.2).bind fun r31 =>
    (asTup 2 r31.1).bind fun d32 =>
    (asSl (d32.getD 0 .bad)).bind fun s33 =>
    (asI .i64 (d32.getD 1 .bad)).bind fun n34 =>
    if ((n34 : Int) != 0) = true then
    (some ((.bool false), r31.2.1, (r31.2.2 + 8)))
    else
    (if ((((s33.2.1 : Nat) : Int) : Int) != 128) = true then
    (some ((.bool false), r31.2.1, (r31.2.2 + 8)))
    else
    (F5_J1 (callP Try.prog keepT n) Y n x1 x2a x2n x2c s33.1 s33.2.1 s33.2.2 r31.2.1 (r31.2.2 + 7))) := F5_eq' go1 n Y x0_0 x0_1 x0_2 x0_3 x0_4 x0_5 x0_6 x0_7 x0_8 x0_9 x0_10 x0_11 x1 x2a x2n x2c h nx

noncomputable def c6 : Code := (Try.f6.body).getD .skip

noncomputable def r6 : List ResultVar := Try.f6.results.toList

noncomputable def F6_L1' (W J : StepF (AV × AHeap × Nat) → StepF (AV × AHeap × Nat)) (call : YldF → CallF) (Y : YldF) (lf : Nat) (n0 : Nat) (x0a : Option (Nat × Nat)) (x0n : Nat) (x0c : Option Nat) (x1a : Option (Nat × Nat)) (x1n : Nat) (x1c : Option Nat) (x2a : Option (Nat × Nat)) (x2n : Nat) (x2c : Option Nat) (x7a : Option (Nat × Nat)) (x7n : Nat) (x7c : Option Nat) (x8 : Int) (x9 : Int) (x10 : Int) (h : AHeap) (nx : Nat) : Option (AV × AHeap × Nat) :=
  goK W J drawK (machOf Try.prog) call Y (keepT 6) lf c6 [1, 1, 1, 1, 0, 1, 0, 9] [n0] (retK (machOf Try.prog) ⟨c6, 122, r6, keepT 6⟩) ⟨122, mkL [(0, (.slice x0a x0n x0c)), (1, (.slice x1a x1n x1c)), (2, (.slice x2a x2n x2c)), (7, (.slice x7a x7n x7c)), (8, (.int .i64 x8)), (9, (.int .i64 x9)), (10, (.int .i64 x10))]⟩ h nx

noncomputable def F6_L1 (call : YldF → CallF) (Y : YldF) (lf : Nat) (n0 : Nat) (x0a : Option (Nat × Nat)) (x0n : Nat) (x0c : Option Nat) (x1a : Option (Nat × Nat)) (x1n : Nat) (x1c : Option Nat) (x2a : Option (Nat × Nat)) (x2n : Nat) (x2c : Option Nat) (x7a : Option (Nat × Nat)) (x7n : Nat) (x7c : Option Nat) (x8 : Int) (x9 : Int) (x10 : Int) (h : AHeap) (nx : Nat) : Option (AV × AHeap × Nat) := F6_L1' go1 go1 call Y lf n0 x0a x0n x0c x1a x1n x1c x2a x2n x2c x7a x7n x7c x8 x9 x10 h nx

noncomputable def F6_J2' (W J : StepF (AV × AHeap × Nat) → StepF (AV × AHeap × Nat)) (call : YldF → CallF) (Y : YldF) (lf : Nat) (n0 : Nat) (x0a : Option (Nat × Nat)) (x0n : Nat) (x0c : Option Nat) (x1a : Option (Nat × Nat)) (x1n : Nat) (x1c : Option Nat) (x2a : Option (Nat × Nat)) (x2n : Nat) (x2c : Option Nat) (x7a : Option (Nat × Nat)) (x7n : Nat) (x7c : Option Nat) (x8 : Int) (x9 : Int) (x10 : Int) (h : AHeap) (nx : Nat) : Option (AV × AHeap × Nat) :=
  goK W J drawK (machOf Try.prog) call Y (keepT 6) lf c6 [1, 1, 1, 1, 0, 1, 0, 0, 1] [n0] (retK (machOf Try.prog) ⟨c6, 122, r6, keepT 6⟩) ⟨122, mkL [(0, (.slice x0a x0n x0c)), (1, (.slice x1a x1n x1c)), (2, (.slice x2a x2n x2c)), (7, (.slice x7a x7n x7c)), (8, (.int .i64 x8)), (9, (.int .i64 x9)), (10, (.int .i64 x10))]⟩ h nx

noncomputable def F6_J2 (call : YldF → CallF) (Y : YldF) (lf : Nat) (n0 : Nat) (x0a : Option (Nat × Nat)) (x0n : Nat) (x0c : Option Nat) (x1a : Option (Nat × Nat)) (x1n : Nat) (x1c : Option Nat) (x2a : Option (Nat × Nat)) (x2n : Nat) (x2c : Option Nat) (x7a : Option (Nat × Nat)) (x7n : Nat) (x7c : Option Nat) (x8 : Int) (x9 : Int) (x10 : Int) (h : AHeap) (nx : Nat) : Option (AV × AHeap × Nat) := F6_J2' go1 go1 call Y lf n0 x0a x0n x0c x1a x1n x1c x2a x2n x2c x7a x7n x7c x8 x9 x10 h nx

noncomputable def F6_J3' (W J : StepF (AV × AHeap × Nat) → StepF (AV × AHeap × Nat)) (call : YldF → CallF) (Y : YldF) (lf : Nat) (x7a : Option (Nat × Nat)) (x7n : Nat) (x7c : Option Nat) (x8 : Int) (x9 : Int) (h : AHeap) (nx : Nat) : Option (AV × AHeap × Nat) :=
  goK W J drawK (machOf Try.prog) call Y (keepT 6) lf c6 [1, 1, 1, 1, 1] [] (retK (machOf Try.prog) ⟨c6, 122, r6, keepT 6⟩) ⟨122, mkL [(7, (.slice x7a x7n x7c)), (8, (.int .i64 x8)), (9, (.int .i64 x9))]⟩ h nx

noncomputable def F6_J3 (call : YldF → CallF) (Y : YldF) (lf : Nat) (x7a : Option (Nat × Nat)) (x7n : Nat) (x7c : Option Nat) (x8 : Int) (x9 : Int) (h : AHeap) (nx : Nat) : Option (AV × AHeap × Nat) := F6_J3' go1 go1 call Y lf x7a x7n x7c x8 x9 h nx

noncomputable def F6_J4' (W J : StepF (AV × AHeap × Nat) → StepF (AV × AHeap × Nat)) (call : YldF → CallF) (Y : YldF) (lf : Nat) (n0 : Nat) (x0a : Option (Nat × Nat)) (x0n : Nat) (x0c : Option Nat) (x1a : Option (Nat × Nat)) (x1n : Nat) (x1c : Option Nat) (x2a : Option (Nat × Nat)) (x2n : Nat) (x2c : Option Nat) (x7a : Option (Nat × Nat)) (x7n : Nat) (x7c : Option Nat) (x8 : Int) (x9 : Int) (x10 : Int) (x11 : Option (Nat × Nat)) (x12a : Option (Nat × Nat)) (x12n : Nat) (x12c : Option Nat) (h : AHeap) (nx : Nat) : Option (AV × AHeap × Nat) :=
  goK W J drawK (machOf Try.prog) call Y (keepT 6) lf c6 [1, 1, 1, 1, 0, 1, 0, 0, 1, 0, 0, 1, 1, 1] [n0] (retK (machOf Try.prog) ⟨c6, 122, r6, keepT 6⟩) ⟨122, mkL [(0, (.slice x0a x0n x0c)), (1, (.slice x1a x1n x1c)), (2, (.slice x2a x2n x2c)), (7, (.slice x7a x7n x7c)), (8, (.int .i64 x8)), (9, (.int .i64 x9)), (10, (.int .i64 x10)), (11, (.ptr x11)), (12, (.slice x12a x12n x12c))]⟩ h nx

noncomputable def F6_J4 (call : YldF → CallF) (Y : YldF) (lf : Nat) (n0 : Nat) (x0a : Option (Nat × Nat)) (x0n : Nat) (x0c : Option Nat) (x1a : Option (Nat × Nat)) (x1n : Nat) (x1c : Option Nat) (x2a : Option (Nat × Nat)) (x2n : Nat) (x2c : Option Nat) (x7a : Option (Nat × Nat)) (x7n : Nat) (x7c : Option Nat) (x8 : Int) (x9 : Int) (x10 : Int) (x11 : Option (Nat × Nat)) (x12a : Option (Nat × Nat)) (x12n : Nat) (x12c : Option Nat) (h : AHeap) (nx : Nat) : Option (AV × AHeap × Nat) := F6_J4' go1 go1 call Y lf n0 x0a x0n x0c x1a x1n x1c x2a x2n x2c x7a x7n x7c x8 x9 x10 x11 x12a x12n x12c h nx

noncomputable def F6_J5' (W J : StepF (AV × AHeap × Nat) → StepF (AV × AHeap × Nat)) (call : YldF → CallF) (Y : YldF) (lf : Nat) (n0 : Nat) (x0a : Option (Nat × Nat)) (x0n : Nat) (x0c : Option Nat) (x1a : Option (Nat × Nat)) (x1n : Nat) (x1c : Option Nat) (x2a : Option (Nat × Nat)) (x2n : Nat) (x2c : Option Nat) (x7a : Option (Nat × Nat)) (x7n : Nat) (x7c : Option Nat) (x8 : Int) (x9 : Int) (x10 : Int) (x12a : Option (Nat × Nat)) (x12n : Nat) (x12c : Option Nat) (h : AHeap) (nx : Nat) : Option (AV × AHeap × Nat) :=
  goK W J drawK (machOf Try.prog) call Y (keepT 6) lf c6 [1, 1, 1, 1, 0, 1, 0, 0, 1, 0, 0, 1, 1, 1, 1] [n0] (retK (machOf Try.prog) ⟨c6, 122, r6, keepT 6⟩) ⟨122, mkL [(0, (.slice x0a x0n x0c)), (1, (.slice x1a x1n x1c)), (2, (.slice x2a x2n x2c)), (7, (.slice x7a x7n x7c)), (8, (.int .i64 x8)), (9, (.int .i64 x9)), (10, (.int .i64 x10)), (12, (.slice x12a x12n x12c))]⟩ h nx

noncomputable def F6_J5 (call : YldF → CallF) (Y : YldF) (lf : Nat) (n0 : Nat) (x0a : Option (Nat × Nat)) (x0n : Nat) (x0c : Option Nat) (x1a : Option (Nat × Nat)) (x1n : Nat) (x1c : Option Nat) (x2a : Option (Nat × Nat)) (x2n : Nat) (x2c : Option Nat) (x7a : Option (Nat × Nat)) (x7n : Nat) (x7c : Option Nat) (x8 : Int) (x9 : Int) (x10 : Int) (x12a : Option (Nat × Nat)) (x12n : Nat) (x12c : Option Nat) (h : AHeap) (nx : Nat) : Option (AV × AHeap × Nat) := F6_J5' go1 go1 call Y lf n0 x0a x0n x0c x1a x1n x1c x2a x2n x2c x7a x7n x7c x8 x9 x10 x12a x12n x12c h nx

theorem F6_L1_eq' (J : StepF (AV × AHeap × Nat) → StepF (AV × AHeap × Nat)) (call : YldF → CallF) (Y : YldF) (lf : Nat) (n0 : Nat) (x0a : Option (Nat × Nat)) (x0n : Nat) (x0c : Option Nat) (x1a : Option (Nat × Nat)) (x1n : Nat) (x1c : Option Nat) (x2a : Option (Nat × Nat)) (x2n : Nat) (x2c : Option Nat) (x7a : Option (Nat × Nat)) (x7n : Nat) (x7c : Option Nat) (x8 : Int) (x9 : Int) (x10 : Int) (h : AHeap) (nx : Nat) : F6_L1' go1 J call Y lf (n0 + 1) x0a x0n x0c x1a x1n x1c x2a x2n x2c x7a x7n x7c x8 x9 x10 h nx =
    if (decide ((x10 : Int) < ((x0n : Nat) : Int))) = true then
    (if (decide ((x10 : Int) < 12)) = true then
    (F6_J2' J J call Y lf n0 x0a x0n x0c x1a x1n x1c x2a x2n x2c x7a x7n x7c x8 x9 x10 h (nx + 8))
    else
    (F6_J3' J J call Y lf x7a x7n x7c x8 x9 h (nx + 8)))
    else
    (F6_J3' J J call Y lf x7a x7n x7c x8 x9 h (nx + 8)) := by kernel_rfl

theorem F6_L1_eq (call : YldF → CallF) (Y : YldF) (lf : Nat) (n0 : Nat) (x0a : Option (Nat × Nat)) (x0n : Nat) (x0c : Option Nat) (x1a : Option (Nat × Nat)) (x1n : Nat) (x1c : Option Nat) (x2a : Option (Nat × Nat)) (x2n : Nat) (x2c : Option Nat) (x7a : Option (Nat × Nat)) (x7n : Nat) (x7c : Option Nat) (x8 : Int) (x9 : Int) (x10 : Int) (h : AHeap) (nx : Nat) : F6_L1 call Y lf (n0 + 1) x0a x0n x0c x1a x1n x1c x2a x2n x2c x7a x7n x7c x8 x9 x10 h nx =
    if (decide ((x10 : Int) < ((x0n : Nat) : Int))) = true then
    (if (decide ((x10 : Int) < 12)) = true then
    (F6_J2 call Y lf n0 x0a x0n x0c x1a x1n x1c x2a x2n x2c x7a x7n x7c x8 x9 x10 h (nx + 8))
    else
    (F6_J3 call Y lf x7a x7n x7c x8 x9 h (nx + 8)))
    else
    (F6_J3 call Y lf x7a x7n x7c x8 x9 h (nx + 8)) := F6_L1_eq' go1 call Y lf n0 x0a x0n x0c x1a x1n x1c x2a x2n x2c x7a x7n x7c x8 x9 x10 h nx

theorem F6_L1_zero (call : YldF → CallF) (Y : YldF) (lf : Nat) (x0a : Option (Nat × Nat)) (x0n : Nat) (x0c : Option Nat) (x1a : Option (Nat × Nat)) (x1n : Nat) (x1c : Option Nat) (x2a : Option (Nat × Nat)) (x2n : Nat) (x2c : Option Nat) (x7a : Option (Nat × Nat)) (x7n : Nat) (x7c : Option Nat) (x8 : Int) (x9 : Int) (x10 : Int) (h : AHeap) (nx : Nat) : F6_L1 call Y lf 0 x0a x0n x0c x1a x1n x1c x2a x2n x2c x7a x7n x7c x8 x9 x10 h nx = none := by kernel_rfl

theorem F6_J2_eq' (J : StepF (AV × AHeap × Nat) → StepF (AV × AHeap × Nat)) (call : YldF → CallF) (Y : YldF) (lf : Nat) (n0 : Nat) (x0a : Option (Nat × Nat)) (x0n : Nat) (x0c : Option Nat) (x1a : Option (Nat × Nat)) (x1n : Nat) (x1c : Option Nat) (x2a : Option (Nat × Nat)) (x2n : Nat) (x2c : Option Nat) (x7a : Option (Nat × Nat)) (x7n : Nat) (x7c : Option Nat) (x8 : Int) (x9 : Int) (x10 : Int) (h : AHeap) (nx : Nat) : F6_J2' go1 J call Y lf n0 x0a x0n x0c x1a x1n x1c x2a x2n x2c x7a x7n x7c x8 x9 x10 h nx =
    (x0a).bind fun p1 =>
    if 0 ≤ (x10 : Int) ∧ x10 < ((x0n : Nat) : Int) then
    ((ldR h p1.1 (p1.2 + Int.toNat x10 * 12) 12).bind fun l2 =>
    (asAgg 12 (AV.agg l2)).bind fun d3 =>
    (asI .i64 (d3.getD 0 .bad)).bind fun n4 =>
    (asI .i64 (d3.getD 1 .bad)).bind fun n5 =>
    (asI .i64 (d3.getD 2 .bad)).bind fun n6 =>
    (asI .i64 (d3.getD 3 .bad)).bind fun n7 =>
    (asI .i64 (d3.getD 4 .bad)).bind fun n8 =>
    (asI .i64 (d3.getD 5 .bad)).bind fun n9 =>
    (asI .i64 (d3.getD 6 .bad)).bind fun n10 =>
    (asI .i64 (d3.getD 7 .bad)).bind fun n11 =>
    (asI .i64 (d3.getD 8 .bad)).bind fun n12 =>
    (asI .i64 (d3.getD 9 .bad)).bind fun n13 =>
    (asI .i64 (d3.getD 10 .bad)).bind fun n14 =>
    (asI .i64 (d3.getD 11 .bad)).bind fun n15 =>
    (call Y 7 [(.agg [(.int .i64 n4), (.int .i64 n5), (.int .i64 n6), (.int .i64 n7), (.int .i64 n8), (.int .i64 n9), (.int .i64 n10), (.int .i64 n11), (.int .i64 n12), (.int .i64 n13), (.int .i64 n14), (.int .i64 n15)])] h (nx + 7)).bind fun r16 =>
    (asAgg 13 r16.1).bind fun d17 =>
    (asI .i64 (d17.getD 0 .bad)).bind fun n18 =>
    (asI .i64 (d17.getD 1 .bad)).bind fun n19 =>
    (asI .i64 (d17.getD 2 .bad)).bind fun n20 =>
    (asI .i64 (d17.getD 3 .bad)).bind fun n21 =>
    (asI .i64 (d17.getD 4 .bad)).bind fun n22 =>
    (asI .i64 (d17.getD 5 .bad)).bind fun n23 =>
    (asI .i64 (d17.getD 6 .bad)).bind fun n24 =>
    (asI .i64 (d17.getD 7 .bad)).bind fun n25 =>
    (asI .i64 (d17.getD 8 .bad)).bind fun n26 =>
    (asI .i64 (d17.getD 9 .bad)).bind fun n27 =>
    (asI .i64 (d17.getD 10 .bad)).bind fun n28 =>
    (asI .i64 (d17.getD 11 .bad)).bind fun n29 =>
    (asI .i64 (d17.getD 12 .bad)).bind fun n30 =>
    let h31 := AHeap.put r16.2.1 (nx + 5) (some ⟨[(.int .i64 0), (.int .i64 0), (.int .i64 0), (.int .i64 0), (.int .i64 0), (.int .i64 0), (.int .i64 0), (.int .i64 0), (.int .i64 0), (.int .i64 0), (.int .i64 0), (.int .i64 0), (.int .i64 0)], 13, true⟩)
    (stA h31 (nx + 5) 0 (.agg [(.int .i64 n18), (.int .i64 n19), (.int .i64 n20), (.int .i64 n21), (.int .i64 n22), (.int .i64 n23), (.int .i64 n24), (.int .i64 n25), (.int .i64 n26), (.int .i64 n27), (.int .i64 n28), (.int .i64 n29), (.int .i64 n30)]) 13).bind fun b32 =>
    let h33 := AHeap.put h31 (nx + 5) (some b32)
    (ldR h33 (nx + 5) 0 13).bind fun l34 =>
    (asAgg 13 (AV.agg l34)).bind fun d35 =>
    (asI .i64 (d35.getD 0 .bad)).bind fun n36 =>
    (asI .i64 (d35.getD 1 .bad)).bind fun n37 =>
    (asI .i64 (d35.getD 2 .bad)).bind fun n38 =>
    (asI .i64 (d35.getD 3 .bad)).bind fun n39 =>
    (asI .i64 (d35.getD 4 .bad)).bind fun n40 =>
    (asI .i64 (d35.getD 5 .bad)).bind fun n41 =>
    (asI .i64 (d35.getD 6 .bad)).bind fun n42 =>
    (asI .i64 (d35.getD 7 .bad)).bind fun n43 =>
    (asI .i64 (d35.getD 8 .bad)).bind fun n44 =>
    (asI .i64 (d35.getD 9 .bad)).bind fun n45 =>
    (asI .i64 (d35.getD 10 .bad)).bind fun n46 =>
    (asI .i64 (d35.getD 11 .bad)).bind fun n47 =>
    (asI .i64 (d35.getD 12 .bad)).bind fun n48 =>
    (call Y 8 [(.agg [(.int .i64 n36), (.int .i64 n37), (.int .i64 n38), (.int .i64 n39), (.int .i64 n40), (.int .i64 n41), (.int .i64 n42), (.int .i64 n43), (.int .i64 n44), (.int .i64 n45), (.int .i64 n46), (.int .i64 n47), (.int .i64 n48)])] h33 (r16.2.2 + 7)).bind fun r49 =>
    (asTup 2 r49.1).bind fun d50 =>
    (asSl (d50.getD 0 .bad)).bind fun s51 =>
    (asI .i64 (d50.getD 1 .bad)).bind fun n52 =>
    if ((n52 : Int) != 0) = true then
    (some ((.bool false), r49.2.1, (r49.2.2 + 8)))
    else
    (if ((((s51.2.1 : Nat) : Int) : Int) != 128) = true then
    (some ((.bool false), r49.2.1, (r49.2.2 + 8)))
    else
    (F6_J4' J J call Y lf n0 x0a x0n x0c x1a x1n x1c x2a x2n x2c x7a x7n x7c x8 x9 x10 (some ((nx + 5), 0)) s51.1 s51.2.1 s51.2.2 r49.2.1 (r49.2.2 + 7))))
    else none := by kernel_rfl

theorem F6_J2_eq (call : YldF → CallF) (Y : YldF) (lf : Nat) (n0 : Nat) (x0a : Option (Nat × Nat)) (x0n : Nat) (x0c : Option Nat) (x1a : Option (Nat × Nat)) (x1n : Nat) (x1c : Option Nat) (x2a : Option (Nat × Nat)) (x2n : Nat) (x2c : Option Nat) (x7a : Option (Nat × Nat)) (x7n : Nat) (x7c : Option Nat) (x8 : Int) (x9 : Int) (x10 : Int) (h : AHeap) (nx : Nat) : F6_J2 call Y lf n0 x0a x0n x0c x1a x1n x1c x2a x2n x2c x7a x7n x7c x8 x9 x10 h nx =
    (x0a).bind fun p1 =>
    if 0 ≤ (x10 : Int) ∧ x10 < ((x0n : Nat) : Int) then
    ((ldR h p1.1 (p1.2 + Int.toNat x10 * 12) 12).bind fun l2 =>
    (asAgg 12 (AV.agg l2)).bind fun d3 =>
    (asI .i64 (d3.getD 0 .bad)).bind fun n4 =>
    (asI .i64 (d3.getD 1 .bad)).bind fun n5 =>
    (asI .i64 (d3.getD 2 .bad)).bind fun n6 =>
    (asI .i64 (d3.getD 3 .bad)).bind fun n7 =>
    (asI .i64 (d3.getD 4 .bad)).bind fun n8 =>
    (asI .i64 (d3.getD 5 .bad)).bind fun n9 =>
    (asI .i64 (d3.getD 6 .bad)).bind fun n10 =>
    (asI .i64 (d3.getD 7 .bad)).bind fun n11 =>
    (asI .i64 (d3.getD 8 .bad)).bind fun n12 =>
    (asI .i64 (d3.getD 9 .bad)).bind fun n13 =>
    (asI .i64 (d3.getD 10 .bad)).bind fun n14 =>
    (asI .i64 (d3.getD 11 .bad)).bind fun n15 =>
    (call Y 7 [(.agg [(.int .i64 n4), (.int .i64 n5), (.int .i64 n6), (.int .i64 n7), (.int .i64 n8), (.int .i64 n9), (.int .i64 n10), (.int .i64 n11), (.int .i64 n12), (.int .i64 n13), (.int .i64 n14), (.int .i64 n15)])] h (nx + 7)).bind fun r16 =>
    (asAgg 13 r16.1).bind fun d17 =>
    (asI .i64 (d17.getD 0 .bad)).bind fun n18 =>
    (asI .i64 (d17.getD 1 .bad)).bind fun n19 =>
    (asI .i64 (d17.getD 2 .bad)).bind fun n20 =>
    (asI .i64 (d17.getD 3 .bad)).bind fun n21 =>
    (asI .i64 (d17.getD 4 .bad)).bind fun n22 =>
    (asI .i64 (d17.getD 5 .bad)).bind fun n23 =>
    (asI .i64 (d17.getD 6 .bad)).bind fun n24 =>
    (asI .i64 (d17.getD 7 .bad)).bind fun n25 =>
    (asI .i64 (d17.getD 8 .bad)).bind fun n26 =>
    (asI .i64 (d17.getD 9 .bad)).bind fun n27 =>
    (asI .i64 (d17.getD 10 .bad)).bind fun n28 =>
    (asI .i64 (d17.getD 11 .bad)).bind fun n29 =>
    (asI .i64 (d17.getD 12 .bad)).bind fun n30 =>
    let h31 := AHeap.put r16.2.1 (nx + 5) (some ⟨[(.int .i64 0), (.int .i64 0), (.int .i64 0), (.int .i64 0), (.int .i64 0), (.int .i64 0), (.int .i64 0), (.int .i64 0), (.int .i64 0), (.int .i64 0), (.int .i64 0), (.int .i64 0), (.int .i64 0)], 13, true⟩)
    (stA h31 (nx + 5) 0 (.agg [(.int .i64 n18), (.int .i64 n19), (.int .i64 n20), (.int .i64 n21), (.int .i64 n22), (.int .i64 n23), (.int .i64 n24), (.int .i64 n25), (.int .i64 n26), (.int .i64 n27), (.int .i64 n28), (.int .i64 n29), (.int .i64 n30)]) 13).bind fun b32 =>
    let h33 := AHeap.put h31 (nx + 5) (some b32)
    (ldR h33 (nx + 5) 0 13).bind fun l34 =>
    (asAgg 13 (AV.agg l34)).bind fun d35 =>
    (asI .i64 (d35.getD 0 .bad)).bind fun n36 =>
    (asI .i64 (d35.getD 1 .bad)).bind fun n37 =>
    (asI .i64 (d35.getD 2 .bad)).bind fun n38 =>
    (asI .i64 (d35.getD 3 .bad)).bind fun n39 =>
    (asI .i64 (d35.getD 4 .bad)).bind fun n40 =>
    (asI .i64 (d35.getD 5 .bad)).bind fun n41 =>
    (asI .i64 (d35.getD 6 .bad)).bind fun n42 =>
    (asI .i64 (d35.getD 7 .bad)).bind fun n43 =>
    (asI .i64 (d35.getD 8 .bad)).bind fun n44 =>
    (asI .i64 (d35.getD 9 .bad)).bind fun n45 =>
    (asI .i64 (d35.getD 10 .bad)).bind fun n46 =>
    (asI .i64 (d35.getD 11 .bad)).bind fun n47 =>
    (asI .i64 (d35.getD 12 .bad)).bind fun n48 =>
    (call Y 8 [(.agg [(.int .i64 n36), (.int .i64 n37), (.int .i64 n38), (.int .i64 n39), (.int .i64 n40), (.int .i64 n41), (.int .i64 n42), (.int .i64 n43), (.int .i64 n44), (.int .i64 n45), (.int .i64 n46), (.int .i64 n47), (.int .i64 n48)])] h33 (r16.2.2 + 7)).bind fun r49 =>
    (asTup 2 r49.1).bind fun d50 =>
    (asSl (d50.getD 0 .bad)).bind fun s51 =>
    (asI .i64 (d50.getD 1 .bad)).bind fun n52 =>
    if ((n52 : Int) != 0) = true then
    (some ((.bool false), r49.2.1, (r49.2.2 + 8)))
    else
    (if ((((s51.2.1 : Nat) : Int) : Int) != 128) = true then
    (some ((.bool false), r49.2.1, (r49.2.2 + 8)))
    else
    (F6_J4 call Y lf n0 x0a x0n x0c x1a x1n x1c x2a x2n x2c x7a x7n x7c x8 x9 x10 (some ((nx + 5), 0)) s51.1 s51.2.1 s51.2.2 r49.2.1 (r49.2.2 + 7))))
    else none := F6_J2_eq' go1 call Y lf n0 x0a x0n x0c x1a x1n x1c x2a x2n x2c x7a x7n x7c x8 x9 x10 h nx

theorem F6_J3_eq' (J : StepF (AV × AHeap × Nat) → StepF (AV × AHeap × Nat)) (call : YldF → CallF) (Y : YldF) (lf : Nat) (x7a : Option (Nat × Nat)) (x7n : Nat) (x7c : Option Nat) (x8 : Int) (x9 : Int) (h : AHeap) (nx : Nat) : F6_J3' go1 J call Y lf x7a x7n x7c x8 x9 h nx =
    (call Y 13 [(.slice x7a x7n x7c)] h (nx + 10)).bind fun r1 =>
    (asTup 3 r1.1).bind fun d2 =>
    (asAgg 13 (d2.getD 0 .bad)).bind fun d3 =>
    (asI .i64 (d3.getD 0 .bad)).bind fun n4 =>
    (asI .i64 (d3.getD 1 .bad)).bind fun n5 =>
    (asI .i64 (d3.getD 2 .bad)).bind fun n6 =>
    (asI .i64 (d3.getD 3 .bad)).bind fun n7 =>
    (asI .i64 (d3.getD 4 .bad)).bind fun n8 =>
    (asI .i64 (d3.getD 5 .bad)).bind fun n9 =>
    (asI .i64 (d3.getD 6 .bad)).bind fun n10 =>
    (asI .i64 (d3.getD 7 .bad)).bind fun n11 =>
    (asI .i64 (d3.getD 8 .bad)).bind fun n12 =>
    (asI .i64 (d3.getD 9 .bad)).bind fun n13 =>
    (asI .i64 (d3.getD 10 .bad)).bind fun n14 =>
    (asI .i64 (d3.getD 11 .bad)).bind fun n15 =>
    (asI .i64 (d3.getD 12 .bad)).bind fun n16 =>
    (asI .i64 (d2.getD 1 .bad)).bind fun n17 =>
    (asI .i64 (d2.getD 2 .bad)).bind fun n18 =>
    let h19 := AHeap.put r1.2.1 (nx + 6) (some ⟨[(.int .i64 0), (.int .i64 0), (.int .i64 0), (.int .i64 0), (.int .i64 0), (.int .i64 0), (.int .i64 0), (.int .i64 0), (.int .i64 0), (.int .i64 0), (.int .i64 0), (.int .i64 0), (.int .i64 0)], 13, true⟩)
    (stA h19 (nx + 6) 0 (.agg [(.int .i64 n4), (.int .i64 n5), (.int .i64 n6), (.int .i64 n7), (.int .i64 n8), (.int .i64 n9), (.int .i64 n10), (.int .i64 n11), (.int .i64 n12), (.int .i64 n13), (.int .i64 n14), (.int .i64 n15), (.int .i64 n16)]) 13).bind fun b20 =>
    let h21 := AHeap.put h19 (nx + 6) (some b20)
    if (decide ((x9 : Int) < 0)) = true then
    (if ((n18 : Int) == 6) = true then
    (some ((.bool ((n17 : Int) == 0)), h21, (r1.2.2 + 9)))
    else
    (some ((.bool false), h21, (r1.2.2 + 9))))
    else
    (if ((n18 : Int) == 0) = true then
    (if ((n17 : Int) == x9) = true then
    ((ldA h21 (nx + 6) 4).bind fun v22 =>
    (asI .i64 v22).bind fun n23 =>
    some ((.bool ((n23 : Int) == x8)), h21, (r1.2.2 + 16)))
    else
    (some ((.bool false), h21, (r1.2.2 + 16))))
    else
    (some ((.bool false), h21, (r1.2.2 + 16)))) := by kernel_rfl

theorem F6_J3_eq (call : YldF → CallF) (Y : YldF) (lf : Nat) (x7a : Option (Nat × Nat)) (x7n : Nat) (x7c : Option Nat) (x8 : Int) (x9 : Int) (h : AHeap) (nx : Nat) : F6_J3 call Y lf x7a x7n x7c x8 x9 h nx =
    (call Y 13 [(.slice x7a x7n x7c)] h (nx + 10)).bind fun r1 =>
    (asTup 3 r1.1).bind fun d2 =>
    (asAgg 13 (d2.getD 0 .bad)).bind fun d3 =>
    (asI .i64 (d3.getD 0 .bad)).bind fun n4 =>
    (asI .i64 (d3.getD 1 .bad)).bind fun n5 =>
    (asI .i64 (d3.getD 2 .bad)).bind fun n6 =>
    (asI .i64 (d3.getD 3 .bad)).bind fun n7 =>
    (asI .i64 (d3.getD 4 .bad)).bind fun n8 =>
    (asI .i64 (d3.getD 5 .bad)).bind fun n9 =>
    (asI .i64 (d3.getD 6 .bad)).bind fun n10 =>
    (asI .i64 (d3.getD 7 .bad)).bind fun n11 =>
    (asI .i64 (d3.getD 8 .bad)).bind fun n12 =>
    (asI .i64 (d3.getD 9 .bad)).bind fun n13 =>
    (asI .i64 (d3.getD 10 .bad)).bind fun n14 =>
    (asI .i64 (d3.getD 11 .bad)).bind fun n15 =>
    (asI .i64 (d3.getD 12 .bad)).bind fun n16 =>
    (asI .i64 (d2.getD 1 .bad)).bind fun n17 =>
    (asI .i64 (d2.getD 2 .bad)).bind fun n18 =>
    let h19 := AHeap.put r1.2.1 (nx + 6) (some ⟨[(.int .i64 0), (.int .i64 0), (.int .i64 0), (.int .i64 0), (.int .i64 0), (.int .i64 0), (.int .i64 0), (.int .i64 0), (.int .i64 0), (.int .i64 0), (.int .i64 0), (.int .i64 0), (.int .i64 0)], 13, true⟩)
    (stA h19 (nx + 6) 0 (.agg [(.int .i64 n4), (.int .i64 n5), (.int .i64 n6), (.int .i64 n7), (.int .i64 n8), (.int .i64 n9), (.int .i64 n10), (.int .i64 n11), (.int .i64 n12), (.int .i64 n13), (.int .i64 n14), (.int .i64 n15), (.int .i64 n16)]) 13).bind fun b20 =>
    let h21 := AHeap.put h19 (nx + 6) (some b20)
    if (decide ((x9 : Int) < 0)) = true then
    (if ((n18 : Int) == 6) = true then
    (some ((.bool ((n17 : Int) == 0)), h21, (r1.2.2 + 9)))
    else
    (some ((.bool false), h21, (r1.2.2 + 9))))
    else
    (if ((n18 : Int) == 0) = true then
    (if ((n17 : Int) == x9) = true then
    ((ldA h21 (nx + 6) 4).bind fun v22 =>
    (asI .i64 v22).bind fun n23 =>
    some ((.bool ((n23 : Int) == x8)), h21, (r1.2.2 + 16)))
    else
    (some ((.bool false), h21, (r1.2.2 + 16))))
    else
    (some ((.bool false), h21, (r1.2.2 + 16)))) := F6_J3_eq' go1 call Y lf x7a x7n x7c x8 x9 h nx

theorem F6_J4_eq' (J : StepF (AV × AHeap × Nat) → StepF (AV × AHeap × Nat)) (call : YldF → CallF) (Y : YldF) (lf : Nat) (n0 : Nat) (x0a : Option (Nat × Nat)) (x0n : Nat) (x0c : Option Nat) (x1a : Option (Nat × Nat)) (x1n : Nat) (x1c : Option Nat) (x2a : Option (Nat × Nat)) (x2n : Nat) (x2c : Option Nat) (x7a : Option (Nat × Nat)) (x7n : Nat) (x7c : Option Nat) (x8 : Int) (x9 : Int) (x10 : Int) (x11 : Option (Nat × Nat)) (x12a : Option (Nat × Nat)) (x12n : Nat) (x12c : Option Nat) (h : AHeap) (nx : Nat) : F6_J4' go1 J call Y lf n0 x0a x0n x0c x1a x1n x1c x2a x2n x2c x7a x7n x7c x8 x9 x10 x11 x12a x12n x12c h nx =
    if (decide ((x10 : Int) < ((x1n : Nat) : Int))) = true then
    ((x1a).bind fun p1 =>
    if 0 ≤ (x10 : Int) ∧ x10 < ((x1n : Nat) : Int) then
    ((ldA h p1.1 (p1.2 + Int.toNat x10 * 1)).bind fun v2 =>
    (asB v2).bind fun t3 =>
    if t3 = true then
    ((x11).bind fun p4 =>
    (ldA h p4.1 (p4.2 + 5)).bind fun v5 =>
    (asI .i64 v5).bind fun n6 =>
    (call Y 12 [(.int .i64 n6), (.int .i64 96)] h (nx + 20)).bind fun r7 =>
    (asI .i64 r7.1).bind fun n8 =>
    (x12a).bind fun p9 =>
    if 0 ≤ (n8 : Int) ∧ n8 < ((x12n : Nat) : Int) then
    ((ldA r7.2.1 p9.1 (p9.2 + Int.toNat n8 * 1)).bind fun v10 =>
    (asI .u8 v10).bind fun n11 =>
    (x12a).bind fun p12 =>
    if 0 ≤ (n8 : Int) ∧ n8 < ((x12n : Nat) : Int) then
    ((stA r7.2.1 p12.1 (p12.2 + Int.toNat n8 * 1) (.int .u8 (bits .xor .u8 n11 1)) 1).bind fun b13 =>
    let h14 := AHeap.put r7.2.1 p12.1 (some b13)
    F6_J5' J J call Y lf n0 x0a x0n x0c x1a x1n x1c x2a x2n x2c x7a x7n x7c x8 x9 x10 x12a x12n x12c h14 r7.2.2)
    else none)
    else none)
    else
    ((x11).bind fun p15 =>
    (ldA h p15.1 (p15.2 + 4)).bind fun v16 =>
    (asI .i64 v16).bind fun n17 =>
    if (decide ((n17 : Int) > x8)) = true then
    ((x11).bind fun p18 =>
    (ldA h p18.1 (p18.2 + 4)).bind fun v19 =>
    (asI .i64 v19).bind fun n20 =>
    F6_J5' J J call Y lf n0 x0a x0n x0c x1a x1n x1c x2a x2n x2c x7a x7n x7c n20 ((x7n : Nat) : Int) x10 x12a x12n x12c h (nx + 20))
    else
    (F6_J5' J J call Y lf n0 x0a x0n x0c x1a x1n x1c x2a x2n x2c x7a x7n x7c x8 x9 x10 x12a x12n x12c h (nx + 14))))
    else none)
    else
    ((x11).bind fun p21 =>
    (ldA h p21.1 (p21.2 + 4)).bind fun v22 =>
    (asI .i64 v22).bind fun n23 =>
    if (decide ((n23 : Int) > x8)) = true then
    ((x11).bind fun p24 =>
    (ldA h p24.1 (p24.2 + 4)).bind fun v25 =>
    (asI .i64 v25).bind fun n26 =>
    F6_J5' J J call Y lf n0 x0a x0n x0c x1a x1n x1c x2a x2n x2c x7a x7n x7c n26 ((x7n : Nat) : Int) x10 x12a x12n x12c h (nx + 20))
    else
    (F6_J5' J J call Y lf n0 x0a x0n x0c x1a x1n x1c x2a x2n x2c x7a x7n x7c x8 x9 x10 x12a x12n x12c h (nx + 14))) := by kernel_rfl

theorem F6_J4_eq (call : YldF → CallF) (Y : YldF) (lf : Nat) (n0 : Nat) (x0a : Option (Nat × Nat)) (x0n : Nat) (x0c : Option Nat) (x1a : Option (Nat × Nat)) (x1n : Nat) (x1c : Option Nat) (x2a : Option (Nat × Nat)) (x2n : Nat) (x2c : Option Nat) (x7a : Option (Nat × Nat)) (x7n : Nat) (x7c : Option Nat) (x8 : Int) (x9 : Int) (x10 : Int) (x11 : Option (Nat × Nat)) (x12a : Option (Nat × Nat)) (x12n : Nat) (x12c : Option Nat) (h : AHeap) (nx : Nat) : F6_J4 call Y lf n0 x0a x0n x0c x1a x1n x1c x2a x2n x2c x7a x7n x7c x8 x9 x10 x11 x12a x12n x12c h nx =
    if (decide ((x10 : Int) < ((x1n : Nat) : Int))) = true then
    ((x1a).bind fun p1 =>
    if 0 ≤ (x10 : Int) ∧ x10 < ((x1n : Nat) : Int) then
    ((ldA h p1.1 (p1.2 + Int.toNat x10 * 1)).bind fun v2 =>
    (asB v2).bind fun t3 =>
    if t3 = true then
    ((x11).bind fun p4 =>
    (ldA h p4.1 (p4.2 + 5)).bind fun v5 =>
    (asI .i64 v5).bind fun n6 =>
    (call Y 12 [(.int .i64 n6), (.int .i64 96)] h (nx + 20)).bind fun r7 =>
    (asI .i64 r7.1).bind fun n8 =>
    (x12a).bind fun p9 =>
    if 0 ≤ (n8 : Int) ∧ n8 < ((x12n : Nat) : Int) then
    ((ldA r7.2.1 p9.1 (p9.2 + Int.toNat n8 * 1)).bind fun v10 =>
    (asI .u8 v10).bind fun n11 =>
    (x12a).bind fun p12 =>
    if 0 ≤ (n8 : Int) ∧ n8 < ((x12n : Nat) : Int) then
    ((stA r7.2.1 p12.1 (p12.2 + Int.toNat n8 * 1) (.int .u8 (bits .xor .u8 n11 1)) 1).bind fun b13 =>
    let h14 := AHeap.put r7.2.1 p12.1 (some b13)
    F6_J5 call Y lf n0 x0a x0n x0c x1a x1n x1c x2a x2n x2c x7a x7n x7c x8 x9 x10 x12a x12n x12c h14 r7.2.2)
    else none)
    else none)
    else
    ((x11).bind fun p15 =>
    (ldA h p15.1 (p15.2 + 4)).bind fun v16 =>
    (asI .i64 v16).bind fun n17 =>
    if (decide ((n17 : Int) > x8)) = true then
    ((x11).bind fun p18 =>
    (ldA h p18.1 (p18.2 + 4)).bind fun v19 =>
    (asI .i64 v19).bind fun n20 =>
    F6_J5 call Y lf n0 x0a x0n x0c x1a x1n x1c x2a x2n x2c x7a x7n x7c n20 ((x7n : Nat) : Int) x10 x12a x12n x12c h (nx + 20))
    else
    (F6_J5 call Y lf n0 x0a x0n x0c x1a x1n x1c x2a x2n x2c x7a x7n x7c x8 x9 x10 x12a x12n x12c h (nx + 14))))
    else none)
    else
    ((x11).bind fun p21 =>
    (ldA h p21.1 (p21.2 + 4)).bind fun v22 =>
    (asI .i64 v22).bind fun n23 =>
    if (decide ((n23 : Int) > x8)) = true then
    ((x11).bind fun p24 =>
    (ldA h p24.1 (p24.2 + 4)).bind fun v25 =>
    (asI .i64 v25).bind fun n26 =>
    F6_J5 call Y lf n0 x0a x0n x0c x1a x1n x1c x2a x2n x2c x7a x7n x7c n26 ((x7n : Nat) : Int) x10 x12a x12n x12c h (nx + 20))
    else
    (F6_J5 call Y lf n0 x0a x0n x0c x1a x1n x1c x2a x2n x2c x7a x7n x7c x8 x9 x10 x12a x12n x12c h (nx + 14))) := F6_J4_eq' go1 call Y lf n0 x0a x0n x0c x1a x1n x1c x2a x2n x2c x7a x7n x7c x8 x9 x10 x11 x12a x12n x12c h nx

theorem F6_J5_eq' (J : StepF (AV × AHeap × Nat) → StepF (AV × AHeap × Nat)) (call : YldF → CallF) (Y : YldF) (lf : Nat) (n0 : Nat) (x0a : Option (Nat × Nat)) (x0n : Nat) (x0c : Option Nat) (x1a : Option (Nat × Nat)) (x1n : Nat) (x1c : Option Nat) (x2a : Option (Nat × Nat)) (x2n : Nat) (x2c : Option Nat) (x7a : Option (Nat × Nat)) (x7n : Nat) (x7c : Option Nat) (x8 : Int) (x9 : Int) (x10 : Int) (x12a : Option (Nat × Nat)) (x12n : Nat) (x12c : Option Nat) (h : AHeap) (nx : Nat) : F6_J5' go1 J call Y lf n0 x0a x0n x0c x1a x1n x1c x2a x2n x2c x7a x7n x7c x8 x9 x10 x12a x12n x12c h nx =
    let h1 := AHeap.put h (nx + 2) (some ⟨[(.slice x12a x12n x12c)], 1, true⟩)
    (srcS h1 (some ((nx + 2), 0)) 1 1).bind fun q2 =>
    (appD h1 x7a x7n x7c 1 24 (nx + 3) q2).bind fun e3 =>
    let h4 := AHeap.puts h1 e3.sets
    if (decide ((x10 : Int) < ((x2n : Nat) : Int))) = true then
    ((x2a).bind fun p5 =>
    if 0 ≤ (x10 : Int) ∧ x10 < ((x2n : Nat) : Int) then
    ((ldA h4 p5.1 (p5.2 + Int.toNat x10 * 1)).bind fun v6 =>
    (asSl v6).bind fun s7 =>
    if ((((s7.2.1 : Nat) : Int) : Int) != 128) = true then
    ((x2a).bind fun p8 =>
    if 0 ≤ (x10 : Int) ∧ x10 < ((x2n : Nat) : Int) then
    ((ldA h4 p8.1 (p8.2 + Int.toNat x10 * 1)).bind fun v9 =>
    (asSl v9).bind fun s10 =>
    (srcS h4 s10.1 s10.2.1 1).bind fun q11 =>
    (appD h4 none 0 none 1 1 (nx + 22) q11).bind fun e12 =>
    let h13 := AHeap.puts h4 e12.sets
    let h14 := AHeap.put h13 (nx + 23) (some ⟨[(.slice e12.a e12.n e12.c)], 1, true⟩)
    (srcS h14 (some ((nx + 23), 0)) 1 1).bind fun q15 =>
    (appD h14 e3.a e3.n e3.c 1 24 (nx + 24) q15).bind fun e16 =>
    let h17 := AHeap.puts h14 e16.sets
    F6_L1' J J call Y lf n0 x0a x0n x0c x1a x1n x1c x2a x2n x2c e16.a e16.n e16.c x8 x9 (wrapA .i64 (x10 + 1)) h17 (nx + 29))
    else none)
    else
    (F6_L1' J J call Y lf n0 x0a x0n x0c x1a x1n x1c x2a x2n x2c e3.a e3.n e3.c x8 x9 (wrapA .i64 (x10 + 1)) h4 (nx + 20)))
    else none)
    else
    (F6_L1' J J call Y lf n0 x0a x0n x0c x1a x1n x1c x2a x2n x2c e3.a e3.n e3.c x8 x9 (wrapA .i64 (x10 + 1)) h4 (nx + 20)) := by kernel_rfl

theorem F6_J5_eq (call : YldF → CallF) (Y : YldF) (lf : Nat) (n0 : Nat) (x0a : Option (Nat × Nat)) (x0n : Nat) (x0c : Option Nat) (x1a : Option (Nat × Nat)) (x1n : Nat) (x1c : Option Nat) (x2a : Option (Nat × Nat)) (x2n : Nat) (x2c : Option Nat) (x7a : Option (Nat × Nat)) (x7n : Nat) (x7c : Option Nat) (x8 : Int) (x9 : Int) (x10 : Int) (x12a : Option (Nat × Nat)) (x12n : Nat) (x12c : Option Nat) (h : AHeap) (nx : Nat) : F6_J5 call Y lf n0 x0a x0n x0c x1a x1n x1c x2a x2n x2c x7a x7n x7c x8 x9 x10 x12a x12n x12c h nx =
    let h1 := AHeap.put h (nx + 2) (some ⟨[(.slice x12a x12n x12c)], 1, true⟩)
    (srcS h1 (some ((nx + 2), 0)) 1 1).bind fun q2 =>
    (appD h1 x7a x7n x7c 1 24 (nx + 3) q2).bind fun e3 =>
    let h4 := AHeap.puts h1 e3.sets
    if (decide ((x10 : Int) < ((x2n : Nat) : Int))) = true then
    ((x2a).bind fun p5 =>
    if 0 ≤ (x10 : Int) ∧ x10 < ((x2n : Nat) : Int) then
    ((ldA h4 p5.1 (p5.2 + Int.toNat x10 * 1)).bind fun v6 =>
    (asSl v6).bind fun s7 =>
    if ((((s7.2.1 : Nat) : Int) : Int) != 128) = true then
    ((x2a).bind fun p8 =>
    if 0 ≤ (x10 : Int) ∧ x10 < ((x2n : Nat) : Int) then
    ((ldA h4 p8.1 (p8.2 + Int.toNat x10 * 1)).bind fun v9 =>
    (asSl v9).bind fun s10 =>
    (srcS h4 s10.1 s10.2.1 1).bind fun q11 =>
    (appD h4 none 0 none 1 1 (nx + 22) q11).bind fun e12 =>
    let h13 := AHeap.puts h4 e12.sets
    let h14 := AHeap.put h13 (nx + 23) (some ⟨[(.slice e12.a e12.n e12.c)], 1, true⟩)
    (srcS h14 (some ((nx + 23), 0)) 1 1).bind fun q15 =>
    (appD h14 e3.a e3.n e3.c 1 24 (nx + 24) q15).bind fun e16 =>
    let h17 := AHeap.puts h14 e16.sets
    F6_L1 call Y lf n0 x0a x0n x0c x1a x1n x1c x2a x2n x2c e16.a e16.n e16.c x8 x9 (wrapA .i64 (x10 + 1)) h17 (nx + 29))
    else none)
    else
    (F6_L1 call Y lf n0 x0a x0n x0c x1a x1n x1c x2a x2n x2c e3.a e3.n e3.c x8 x9 (wrapA .i64 (x10 + 1)) h4 (nx + 20)))
    else none)
    else
    (F6_L1 call Y lf n0 x0a x0n x0c x1a x1n x1c x2a x2n x2c e3.a e3.n e3.c x8 x9 (wrapA .i64 (x10 + 1)) h4 (nx + 20)) := F6_J5_eq' go1 call Y lf n0 x0a x0n x0c x1a x1n x1c x2a x2n x2c x7a x7n x7c x8 x9 x10 x12a x12n x12c h nx

theorem F6_eq' (J : StepF (AV × AHeap × Nat) → StepF (AV × AHeap × Nat)) (n : Nat) (Y : YldF) (x0a : Option (Nat × Nat)) (x0n : Nat) (x0c : Option Nat) (x1a : Option (Nat × Nat)) (x1n : Nat) (x1c : Option Nat) (x2a : Option (Nat × Nat)) (x2n : Nat) (x2c : Option Nat) (h : AHeap) (nx : Nat) : rootJ J Try.prog keepT (callP Try.prog keepT n) Y n 6 [(.slice x0a x0n x0c), (.slice x1a x1n x1c), (.slice x2a x2n x2c)] h nx =
    F6_L1' J J (callP Try.prog keepT n) Y n n x0a x0n x0c x1a x1n x1c x2a x2n x2c none 0 none (-1) (-1) 0 h (nx + 5) := by kernel_rfl

/-- quickset/quicksetkeep.BestNewest -/
theorem F6_eq (n : Nat) (Y : YldF) (x0a : Option (Nat × Nat)) (x0n : Nat) (x0c : Option Nat) (x1a : Option (Nat × Nat)) (x1n : Nat) (x1c : Option Nat) (x2a : Option (Nat × Nat)) (x2n : Nat) (x2c : Option Nat) (h : AHeap) (nx : Nat) : callP Try.prog keepT (n + 1) Y 6 [(.slice x0a x0n x0c), (.slice x1a x1n x1c), (.slice x2a x2n x2c)] h nx =
    F6_L1 (callP Try.prog keepT n) Y n n x0a x0n x0c x1a x1n x1c x2a x2n x2c none 0 none (-1) (-1) 0 h (nx + 5) := F6_eq' go1 n Y x0a x0n x0c x1a x1n x1c x2a x2n x2c h nx

noncomputable def c7 : Code := (Try.f7.body).getD .skip

noncomputable def r7 : List ResultVar := Try.f7.results.toList

theorem F7_eq' (J : StepF (AV × AHeap × Nat) → StepF (AV × AHeap × Nat)) (n : Nat) (Y : YldF) (x0_0 : Int) (x0_1 : Int) (x0_2 : Int) (x0_3 : Int) (x0_4 : Int) (x0_5 : Int) (x0_6 : Int) (x0_7 : Int) (x0_8 : Int) (x0_9 : Int) (x0_10 : Int) (x0_11 : Int) (h : AHeap) (nx : Nat) : rootJ J Try.prog keepT (callP Try.prog keepT n) Y n 7 [(.agg [(.int .i64 x0_0), (.int .i64 x0_1), (.int .i64 x0_2), (.int .i64 x0_3), (.int .i64 x0_4), (.int .i64 x0_5), (.int .i64 x0_6), (.int .i64 x0_7), (.int .i64 x0_8), (.int .i64 x0_9), (.int .i64 x0_10), (.int .i64 x0_11)])] h nx =
    let h1 := AHeap.put h nx (some ⟨[(.int .i64 x0_0), (.int .i64 x0_1), (.int .i64 x0_2), (.int .i64 x0_3), (.int .i64 x0_4), (.int .i64 x0_5), (.int .i64 x0_6), (.int .i64 x0_7), (.int .i64 x0_8), (.int .i64 x0_9), (.int .i64 x0_10), (.int .i64 x0_11)], 12, true⟩)
    let h2 := AHeap.put h1 (nx + 1) (some ⟨[(.int .i64 0), (.int .i64 0), (.int .i64 0), (.int .i64 0), (.int .i64 0), (.int .i64 0), (.int .i64 0), (.int .i64 0), (.int .i64 0), (.int .i64 0), (.int .i64 0), (.int .i64 0), (.int .i64 0)], 13, true⟩)
    (ldA h2 nx 0).bind fun v3 =>
    (asI .i64 v3).bind fun n4 =>
    ((callP Try.prog keepT n) Y 12 [(.int .i64 n4), (.int .i64 1048576)] h2 (nx + 16)).bind fun r5 =>
    (asI .i64 r5.1).bind fun n6 =>
    (ldA r5.2.1 nx 2).bind fun v7 =>
    (asI .i64 v7).bind fun n8 =>
    ((callP Try.prog keepT n) Y 12 [(.int .i64 n8), (.int .i64 7)] r5.2.1 r5.2.2).bind fun r9 =>
    (asI .i64 r9.1).bind fun n10 =>
    (ldA r9.2.1 nx 4).bind fun v11 =>
    (asI .i64 v11).bind fun n12 =>
    ((callP Try.prog keepT n) Y 12 [(.int .i64 n12), (.int .i64 1048577)] r9.2.1 r9.2.2).bind fun r13 =>
    (asI .i64 r13.1).bind fun n14 =>
    let h15 := AHeap.put r13.2.1 (nx + 14) (some ⟨[(.int .i64 0), (.int .i64 0), (.int .i64 0), (.int .i64 0), (.int .i64 0), (.int .i64 0), (.int .i64 0), (.int .i64 0), (.int .i64 0), (.int .i64 0), (.int .i64 0), (.int .i64 0), (.int .i64 0)], 13, true⟩)
    (stA h15 (nx + 14) 0 (.agg [(.int .i64 (wrapA .i64 (1 + n6))), (.int .i64 0), (.int .i64 (wrapA .i64 (2 + n10))), (.int .i64 0), (.int .i64 n14), (.int .i64 0), (.int .i64 0), (.int .i64 0), (.int .i64 0), (.int .i64 0), (.int .i64 0), (.int .i64 0), (.int .i64 0)]) 13).bind fun b16 =>
    let h17 := AHeap.put h15 (nx + 14) (some b16)
    ifApart [([(nx + 14)], [nx]), ([(nx + 14)], [nx]), ([(nx + 14)], [nx])]
    (ifKept [(h2, r5.2.1, [nx]), (h2, r5.2.1, [nx]), (r5.2.1, r9.2.1, [nx])]
    (ifRob (callC ((callP Try.prog keepT n) Y) Y) [⟨(.fn 12), [(.int .i64 n4), (.int .i64 1048576)], (.int .i64 n6), h2, r5.2.1, (nx + 16), r5.2.2, [(nx + 14)]⟩, ⟨(.fn 12), [(.int .i64 n8), (.int .i64 7)], (.int .i64 n10), r5.2.1, r9.2.1, r5.2.2, r9.2.2, [(nx + 14)]⟩, ⟨(.fn 12), [(.int .i64 n12), (.int .i64 1048577)], (.int .i64 n14), r9.2.1, r13.2.1, r9.2.2, r13.2.2, [(nx + 14)]⟩]
    ((ldA h17 nx 1).bind fun v18 =>
    (asI .i64 v18).bind fun n19 =>
    (ldA h17 (nx + 14) 2).bind fun v20 =>
    (asI .i64 v20).bind fun n21 =>
    ((callP Try.prog keepT n) Y 12 [(.int .i64 n19), (.int .i64 n21)] h17 (r13.2.2 + 7)).bind fun r22 =>
    (asI .i64 r22.1).bind fun n23 =>
    (stA r22.2.1 (nx + 14) 1 (.int .i64 n23) 1).bind fun b24 =>
    let h25 := AHeap.put r22.2.1 (nx + 14) (some b24)
    (ldA h25 nx 3).bind fun v26 =>
    (asI .i64 v26).bind fun n27 =>
    (ldA h25 (nx + 14) 2).bind fun v28 =>
    (asI .i64 v28).bind fun n29 =>
    ((callP Try.prog keepT n) Y 12 [(.int .i64 n27), (.int .i64 (if (wrapA .i64 (n29 - 1)) < 3 then (wrapA .i64 (n29 - 1)) else 3))] h25 (r22.2.2 + 10)).bind fun r30 =>
    (asI .i64 r30.1).bind fun n31 =>
    (stA r30.2.1 (nx + 14) 3 (.int .i64 (wrapA .i64 (1 + n31))) 1).bind fun b32 =>
    let h33 := AHeap.put r30.2.1 (nx + 14) (some b32)
    (ldA h33 nx 5).bind fun v34 =>
    (asI .i64 v34).bind fun n35 =>
    ((callP Try.prog keepT n) Y 12 [(.int .i64 n35), (.int .i64 65537)] h33 (r30.2.2 + 17)).bind fun r36 =>
    (asI .i64 r36.1).bind fun n37 =>
    (ldA r36.2.1 nx 6).bind fun v38 =>
    (asI .i64 v38).bind fun n39 =>
    ((callP Try.prog keepT n) Y 12 [(.int .i64 n39), (.int .i64 33)] r36.2.1 r36.2.2).bind fun r40 =>
    (asI .i64 r40.1).bind fun n41 =>
    (ldA r40.2.1 nx 5).bind fun v42 =>
    (asI .i64 v42).bind fun n43 =>
    (ldA r40.2.1 (nx + 14) 4).bind fun v44 =>
    (asI .i64 v44).bind fun n45 =>
    ((callP Try.prog keepT n) Y 12 [(.int .i64 n43), (.int .i64 (wrapA .i64 (n45 + 1)))] r40.2.1 r40.2.2).bind fun r46 =>
    (asI .i64 r46.1).bind fun n47 =>
    (ldR r46.2.1 nx 8 4).bind fun l48 =>
    (asAgg 4 (AV.agg l48)).bind fun d49 =>
    (asI .i64 (d49.getD 0 .bad)).bind fun n50 =>
    (asI .i64 (d49.getD 1 .bad)).bind fun n51 =>
    (asI .i64 (d49.getD 2 .bad)).bind fun n52 =>
    (asI .i64 (d49.getD 3 .bad)).bind fun n53 =>
    (stA r46.2.1 (nx + 14) 5 (.agg [(.int .i64 n37), (.int .i64 n41), (.int .i64 0), (.int .i64 n47), (.int .i64 n50), (.int .i64 n51), (.int .i64 n52), (.int .i64 n53)]) 8).bind fun b54 =>
    let h55 := AHeap.put r46.2.1 (nx + 14) (some b54)
    ifKept [(h33, r36.2.1, [nx]), (h33, r36.2.1, [nx]), (h33, r36.2.1, [(nx + 14)]), (h33, r36.2.1, [nx]), (r36.2.1, r40.2.1, [nx]), (r36.2.1, r40.2.1, [(nx + 14)]), (r36.2.1, r40.2.1, [nx]), (r40.2.1, r46.2.1, [nx])]
    ((ldA h55 nx 7).bind fun v56 =>
    (asI .i64 v56).bind fun n57 =>
    (ldA h55 (nx + 14) 6).bind fun v58 =>
    (asI .i64 v58).bind fun n59 =>
    ((callP Try.prog keepT n) Y 12 [(.int .i64 n57), (.int .i64 (wrapA .i64 ((wrapA .i64 (n59 * 128)) + 1)))] h55 (r46.2.2 + 11)).bind fun r60 =>
    (asI .i64 r60.1).bind fun n61 =>
    (stA r60.2.1 (nx + 14) 7 (.int .i64 n61) 1).bind fun b62 =>
    let h63 := AHeap.put r60.2.1 (nx + 14) (some b62)
    (ldR h63 (nx + 14) 0 13).bind fun l64 =>
    (asAgg 13 (AV.agg l64)).bind fun d65 =>
    (asI .i64 (d65.getD 0 .bad)).bind fun n66 =>
    (asI .i64 (d65.getD 1 .bad)).bind fun n67 =>
    (asI .i64 (d65.getD 2 .bad)).bind fun n68 =>
    (asI .i64 (d65.getD 3 .bad)).bind fun n69 =>
    (asI .i64 (d65.getD 4 .bad)).bind fun n70 =>
    (asI .i64 (d65.getD 5 .bad)).bind fun n71 =>
    (asI .i64 (d65.getD 6 .bad)).bind fun n72 =>
    (asI .i64 (d65.getD 7 .bad)).bind fun n73 =>
    (asI .i64 (d65.getD 8 .bad)).bind fun n74 =>
    (asI .i64 (d65.getD 9 .bad)).bind fun n75 =>
    (asI .i64 (d65.getD 10 .bad)).bind fun n76 =>
    (asI .i64 (d65.getD 11 .bad)).bind fun n77 =>
    (asI .i64 (d65.getD 12 .bad)).bind fun n78 =>
    (stA h63 (nx + 1) 0 (.agg [(.int .i64 n66), (.int .i64 n67), (.int .i64 n68), (.int .i64 n69), (.int .i64 n70), (.int .i64 n71), (.int .i64 n72), (.int .i64 n73), (.int .i64 n74), (.int .i64 n75), (.int .i64 n76), (.int .i64 n77), (.int .i64 n78)]) 13).bind fun b79 =>
    let h80 := AHeap.put h63 (nx + 1) (some b79)
    (ldR h80 (nx + 1) 0 13).bind fun l81 =>
    (asAgg 13 (AV.agg l81)).bind fun d82 =>
    (asI .i64 (d82.getD 0 .bad)).bind fun n83 =>
    (asI .i64 (d82.getD 1 .bad)).bind fun n84 =>
    (asI .i64 (d82.getD 2 .bad)).bind fun n85 =>
    (asI .i64 (d82.getD 3 .bad)).bind fun n86 =>
    (asI .i64 (d82.getD 4 .bad)).bind fun n87 =>
    (asI .i64 (d82.getD 5 .bad)).bind fun n88 =>
    (asI .i64 (d82.getD 6 .bad)).bind fun n89 =>
    (asI .i64 (d82.getD 7 .bad)).bind fun n90 =>
    (asI .i64 (d82.getD 8 .bad)).bind fun n91 =>
    (asI .i64 (d82.getD 9 .bad)).bind fun n92 =>
    (asI .i64 (d82.getD 10 .bad)).bind fun n93 =>
    (asI .i64 (d82.getD 11 .bad)).bind fun n94 =>
    (asI .i64 (d82.getD 12 .bad)).bind fun n95 =>
    some ((.agg [(.int .i64 n83), (.int .i64 n84), (.int .i64 n85), (.int .i64 n86), (.int .i64 n87), (.int .i64 n88), (.int .i64 n89), (.int .i64 n90), (.int .i64 n91), (.int .i64 n92), (.int .i64 n93), (.int .i64 n94), (.int .i64 n95)]), h80, (r60.2.2 + 2)))))) := by kernel_rfl

/-- quickset/quicksetkeep.LabelOf -/
theorem F7_eq (n : Nat) (Y : YldF) (x0_0 : Int) (x0_1 : Int) (x0_2 : Int) (x0_3 : Int) (x0_4 : Int) (x0_5 : Int) (x0_6 : Int) (x0_7 : Int) (x0_8 : Int) (x0_9 : Int) (x0_10 : Int) (x0_11 : Int) (h : AHeap) (nx : Nat) : callP Try.prog keepT (n + 1) Y 7 [(.agg [(.int .i64 x0_0), (.int .i64 x0_1), (.int .i64 x0_2), (.int .i64 x0_3), (.int .i64 x0_4), (.int .i64 x0_5), (.int .i64 x0_6), (.int .i64 x0_7), (.int .i64 x0_8), (.int .i64 x0_9), (.int .i64 x0_10), (.int .i64 x0_11)])] h nx =
    let h1 := AHeap.put h nx (some ⟨[(.int .i64 x0_0), (.int .i64 x0_1), (.int .i64 x0_2), (.int .i64 x0_3), (.int .i64 x0_4), (.int .i64 x0_5), (.int .i64 x0_6), (.int .i64 x0_7), (.int .i64 x0_8), (.int .i64 x0_9), (.int .i64 x0_10), (.int .i64 x0_11)], 12, true⟩)
    let h2 := AHeap.put h1 (nx + 1) (some ⟨[(.int .i64 0), (.int .i64 0), (.int .i64 0), (.int .i64 0), (.int .i64 0), (.int .i64 0), (.int .i64 0), (.int .i64 0), (.int .i64 0), (.int .i64 0), (.int .i64 0), (.int .i64 0), (.int .i64 0)], 13, true⟩)
    (ldA h2 nx 0).bind fun v3 =>
    (asI .i64 v3).bind fun n4 =>
    ((callP Try.prog keepT n) Y 12 [(.int .i64 n4), (.int .i64 1048576)] h2 (nx + 16)).bind fun r5 =>
    (asI .i64 r5.1).bind fun n6 =>
    (ldA r5.2.1 nx 2).bind fun v7 =>
    (asI .i64 v7).bind fun n8 =>
    ((callP Try.prog keepT n) Y 12 [(.int .i64 n8), (.int .i64 7)] r5.2.1 r5.2.2).bind fun r9 =>
    (asI .i64 r9.1).bind fun n10 =>
    (ldA r9.2.1 nx 4).bind fun v11 =>
    (asI .i64 v11).bind fun n12 =>
    ((callP Try.prog keepT n) Y 12 [(.int .i64 n12), (.int .i64 1048577)] r9.2.1 r9.2.2).bind fun r13 =>
    (asI .i64 r13.1).bind fun n14 =>
    let h15 := AHeap.put r13.2.1 (nx + 14) (some ⟨[(.int .i64 0), (.int .i64 0), (.int .i64 0), (.int .i64 0), (.int .i64 0), (.int .i64 0), (.int .i64 0), (.int .i64 0), (.int .i64 0), (.int .i64 0), (.int .i64 0), (.int .i64 0), (.int .i64 0)], 13, true⟩)
    (stA h15 (nx + 14) 0 (.agg [(.int .i64 (wrapA .i64 (1 + n6))), (.int .i64 0), (.int .i64 (wrapA .i64 (2 + n10))), (.int .i64 0), (.int .i64 n14), (.int .i64 0), (.int .i64 0), (.int .i64 0), (.int .i64 0), (.int .i64 0), (.int .i64 0), (.int .i64 0), (.int .i64 0)]) 13).bind fun b16 =>
    let h17 := AHeap.put h15 (nx + 14) (some b16)
    ifApart [([(nx + 14)], [nx]), ([(nx + 14)], [nx]), ([(nx + 14)], [nx])]
    (ifKept [(h2, r5.2.1, [nx]), (h2, r5.2.1, [nx]), (r5.2.1, r9.2.1, [nx])]
    (ifRob (callC ((callP Try.prog keepT n) Y) Y) [⟨(.fn 12), [(.int .i64 n4), (.int .i64 1048576)], (.int .i64 n6), h2, r5.2.1, (nx + 16), r5.2.2, [(nx + 14)]⟩, ⟨(.fn 12), [(.int .i64 n8), (.int .i64 7)], (.int .i64 n10), r5.2.1, r9.2.1, r5.2.2, r9.2.2, [(nx + 14)]⟩, ⟨(.fn 12), [(.int .i64 n12), (.int .i64 1048577)], (.int .i64 n14), r9.2.1, r13.2.1, r9.2.2, r13.2.2, [(nx + 14)]⟩]
    ((ldA h17 nx 1).bind fun v18 =>
    (asI .i64 v18).bind fun n19 =>
    (ldA h17 (nx + 14) 2).bind fun v20 =>
    (asI .i64 v20).bind fun n21 =>
    ((callP Try.prog keepT n) Y 12 [(.int .i64 n19), (.int .i64 n21)] h17 (r13.2.2 + 7)).bind fun r22 =>
    (asI .i64 r22.1).bind fun n23 =>
    (stA r22.2.1 (nx + 14) 1 (.int .i64 n23) 1).bind fun b24 =>
    let h25 := AHeap.put r22.2.1 (nx + 14) (some b24)
    (ldA h25 nx 3).bind fun v26 =>
    (asI .i64 v26).bind fun n27 =>
    (ldA h25 (nx + 14) 2).bind fun v28 =>
    (asI .i64 v28).bind fun n29 =>
    ((callP Try.prog keepT n) Y 12 [(.int .i64 n27), (.int .i64 (if (wrapA .i64 (n29 - 1)) < 3 then (wrapA .i64 (n29 - 1)) else 3))] h25 (r22.2.2 + 10)).bind fun r30 =>
    (asI .i64 r30.1).bind fun n31 =>
    (stA r30.2.1 (nx + 14) 3 (.int .i64 (wrapA .i64 (1 + n31))) 1).bind fun b32 =>
    let h33 := AHeap.put r30.2.1 (nx + 14) (some b32)
    (ldA h33 nx 5).bind fun v34 =>
    (asI .i64 v34).bind fun n35 =>
    ((callP Try.prog keepT n) Y 12 [(.int .i64 n35), (.int .i64 65537)] h33 (r30.2.2 + 17)).bind fun r36 =>
    (asI .i64 r36.1).bind fun n37 =>
    (ldA r36.2.1 nx 6).bind fun v38 =>
    (asI .i64 v38).bind fun n39 =>
    ((callP Try.prog keepT n) Y 12 [(.int .i64 n39), (.int .i64 33)] r36.2.1 r36.2.2).bind fun r40 =>
    (asI .i64 r40.1).bind fun n41 =>
    (ldA r40.2.1 nx 5).bind fun v42 =>
    (asI .i64 v42).bind fun n43 =>
    (ldA r40.2.1 (nx + 14) 4).bind fun v44 =>
    (asI .i64 v44).bind fun n45 =>
    ((callP Try.prog keepT n) Y 12 [(.int .i64 n43), (.int .i64 (wrapA .i64 (n45 + 1)))] r40.2.1 r40.2.2).bind fun r46 =>
    (asI .i64 r46.1).bind fun n47 =>
    (ldR r46.2.1 nx 8 4).bind fun l48 =>
    (asAgg 4 (AV.agg l48)).bind fun d49 =>
    (asI .i64 (d49.getD 0 .bad)).bind fun n50 =>
    (asI .i64 (d49.getD 1 .bad)).bind fun n51 =>
    (asI .i64 (d49.getD 2 .bad)).bind fun n52 =>
    (asI .i64 (d49.getD 3 .bad)).bind fun n53 =>
    (stA r46.2.1 (nx + 14) 5 (.agg [(.int .i64 n37), (.int .i64 n41), (.int .i64 0), (.int .i64 n47), (.int .i64 n50), (.int .i64 n51), (.int .i64 n52), (.int .i64 n53)]) 8).bind fun b54 =>
    let h55 := AHeap.put r46.2.1 (nx + 14) (some b54)
    ifKept [(h33, r36.2.1, [nx]), (h33, r36.2.1, [nx]), (h33, r36.2.1, [(nx + 14)]), (h33, r36.2.1, [nx]), (r36.2.1, r40.2.1, [nx]), (r36.2.1, r40.2.1, [(nx + 14)]), (r36.2.1, r40.2.1, [nx]), (r40.2.1, r46.2.1, [nx])]
    ((ldA h55 nx 7).bind fun v56 =>
    (asI .i64 v56).bind fun n57 =>
    (ldA h55 (nx + 14) 6).bind fun v58 =>
    (asI .i64 v58).bind fun n59 =>
    ((callP Try.prog keepT n) Y 12 [(.int .i64 n57), (.int .i64 (wrapA .i64 ((wrapA .i64 (n59 * 128)) + 1)))] h55 (r46.2.2 + 11)).bind fun r60 =>
    (asI .i64 r60.1).bind fun n61 =>
    (stA r60.2.1 (nx + 14) 7 (.int .i64 n61) 1).bind fun b62 =>
    let h63 := AHeap.put r60.2.1 (nx + 14) (some b62)
    (ldR h63 (nx + 14) 0 13).bind fun l64 =>
    (asAgg 13 (AV.agg l64)).bind fun d65 =>
    (asI .i64 (d65.getD 0 .bad)).bind fun n66 =>
    (asI .i64 (d65.getD 1 .bad)).bind fun n67 =>
    (asI .i64 (d65.getD 2 .bad)).bind fun n68 =>
    (asI .i64 (d65.getD 3 .bad)).bind fun n69 =>
    (asI .i64 (d65.getD 4 .bad)).bind fun n70 =>
    (asI .i64 (d65.getD 5 .bad)).bind fun n71 =>
    (asI .i64 (d65.getD 6 .bad)).bind fun n72 =>
    (asI .i64 (d65.getD 7 .bad)).bind fun n73 =>
    (asI .i64 (d65.getD 8 .bad)).bind fun n74 =>
    (asI .i64 (d65.getD 9 .bad)).bind fun n75 =>
    (asI .i64 (d65.getD 10 .bad)).bind fun n76 =>
    (asI .i64 (d65.getD 11 .bad)).bind fun n77 =>
    (asI .i64 (d65.getD 12 .bad)).bind fun n78 =>
    (stA h63 (nx + 1) 0 (.agg [(.int .i64 n66), (.int .i64 n67), (.int .i64 n68), (.int .i64 n69), (.int .i64 n70), (.int .i64 n71), (.int .i64 n72), (.int .i64 n73), (.int .i64 n74), (.int .i64 n75), (.int .i64 n76), (.int .i64 n77), (.int .i64 n78)]) 13).bind fun b79 =>
    let h80 := AHeap.put h63 (nx + 1) (some b79)
    (ldR h80 (nx + 1) 0 13).bind fun l81 =>
    (asAgg 13 (AV.agg l81)).bind fun d82 =>
    (asI .i64 (d82.getD 0 .bad)).bind fun n83 =>
    (asI .i64 (d82.getD 1 .bad)).bind fun n84 =>
    (asI .i64 (d82.getD 2 .bad)).bind fun n85 =>
    (asI .i64 (d82.getD 3 .bad)).bind fun n86 =>
    (asI .i64 (d82.getD 4 .bad)).bind fun n87 =>
    (asI .i64 (d82.getD 5 .bad)).bind fun n88 =>
    (asI .i64 (d82.getD 6 .bad)).bind fun n89 =>
    (asI .i64 (d82.getD 7 .bad)).bind fun n90 =>
    (asI .i64 (d82.getD 8 .bad)).bind fun n91 =>
    (asI .i64 (d82.getD 9 .bad)).bind fun n92 =>
    (asI .i64 (d82.getD 10 .bad)).bind fun n93 =>
    (asI .i64 (d82.getD 11 .bad)).bind fun n94 =>
    (asI .i64 (d82.getD 12 .bad)).bind fun n95 =>
    some ((.agg [(.int .i64 n83), (.int .i64 n84), (.int .i64 n85), (.int .i64 n86), (.int .i64 n87), (.int .i64 n88), (.int .i64 n89), (.int .i64 n90), (.int .i64 n91), (.int .i64 n92), (.int .i64 n93), (.int .i64 n94), (.int .i64 n95)]), h80, (r60.2.2 + 2)))))) := F7_eq' go1 n Y x0_0 x0_1 x0_2 x0_3 x0_4 x0_5 x0_6 x0_7 x0_8 x0_9 x0_10 x0_11 h nx

noncomputable def c8 : Code := (Try.f8.body).getD .skip

noncomputable def r8 : List ResultVar := Try.f8.results.toList

noncomputable def F8_L1' (W J : StepF (AV × AHeap × Nat) → StepF (AV × AHeap × Nat)) (call : YldF → CallF) (Y : YldF) (lf : Nat) (n0 : Nat) (x1 : Option (Nat × Nat)) (x4a : Option (Nat × Nat)) (x4n : Nat) (x4c : Option Nat) (x17 : List AV) (x18 : Int) (h : AHeap) (nx : Nat) : Option (AV × AHeap × Nat) :=
  goK W J drawK (machOf Try.prog) call Y (keepT 8) lf c8 [1, 1, 1, 0, 1, 0, 9] [n0] (retK (machOf Try.prog) ⟨c8, 57, r8, keepT 8⟩) ⟨57, mkL [(1, (.ptr x1)), (4, (.slice x4a x4n x4c)), (17, (.agg x17)), (18, (.int .i64 x18))]⟩ h nx

noncomputable def F8_L1 (call : YldF → CallF) (Y : YldF) (lf : Nat) (n0 : Nat) (x1 : Option (Nat × Nat)) (x4a : Option (Nat × Nat)) (x4n : Nat) (x4c : Option Nat) (x17 : List AV) (x18 : Int) (h : AHeap) (nx : Nat) : Option (AV × AHeap × Nat) := F8_L1' go1 go1 call Y lf n0 x1 x4a x4n x4c x17 x18 h nx

noncomputable def F8_L2' (W J : StepF (AV × AHeap × Nat) → StepF (AV × AHeap × Nat)) (call : YldF → CallF) (Y : YldF) (lf : Nat) (n0 : Nat) (x4a : Option (Nat × Nat)) (x4n : Nat) (x4c : Option Nat) (x29 : List AV) (x30 : Int) (h : AHeap) (nx : Nat) : Option (AV × AHeap × Nat) :=
  goK W J drawK (machOf Try.prog) call Y (keepT 8) lf c8 [1, 1, 1, 1, 0, 1, 0, 9] [n0] (retK (machOf Try.prog) ⟨c8, 57, r8, keepT 8⟩) ⟨57, mkL [(4, (.slice x4a x4n x4c)), (29, (.agg x29)), (30, (.int .i64 x30))]⟩ h nx

noncomputable def F8_L2 (call : YldF → CallF) (Y : YldF) (lf : Nat) (n0 : Nat) (x4a : Option (Nat × Nat)) (x4n : Nat) (x4c : Option Nat) (x29 : List AV) (x30 : Int) (h : AHeap) (nx : Nat) : Option (AV × AHeap × Nat) := F8_L2' go1 go1 call Y lf n0 x4a x4n x4c x29 x30 h nx

noncomputable def F8_L3' (W J : StepF (AV × AHeap × Nat) → StepF (AV × AHeap × Nat)) (call : YldF → CallF) (Y : YldF) (lf : Nat) (n0 : Nat) (x4a : Option (Nat × Nat)) (x4n : Nat) (x4c : Option Nat) (x46 : List AV) (x47 : Int) (h : AHeap) (nx : Nat) : Option (AV × AHeap × Nat) :=
  goK W J drawK (machOf Try.prog) call Y (keepT 8) lf c8 [1, 1, 1, 1, 1, 1, 1, 0, 1, 0, 9] [n0] (retK (machOf Try.prog) ⟨c8, 57, r8, keepT 8⟩) ⟨57, mkL [(4, (.slice x4a x4n x4c)), (46, (.agg x46)), (47, (.int .i64 x47))]⟩ h nx

noncomputable def F8_L3 (call : YldF → CallF) (Y : YldF) (lf : Nat) (n0 : Nat) (x4a : Option (Nat × Nat)) (x4n : Nat) (x4c : Option Nat) (x46 : List AV) (x47 : Int) (h : AHeap) (nx : Nat) : Option (AV × AHeap × Nat) := F8_L3' go1 go1 call Y lf n0 x4a x4n x4c x46 x47 h nx

theorem F8_L1_eq' (J : StepF (AV × AHeap × Nat) → StepF (AV × AHeap × Nat)) (call : YldF → CallF) (Y : YldF) (lf : Nat) (n0 : Nat) (x1 : Option (Nat × Nat)) (x4a : Option (Nat × Nat)) (x4n : Nat) (x4c : Option Nat) (x17 : List AV) (x18 : Int) (h : AHeap) (nx : Nat) : F8_L1' go1 J call Y lf (n0 + 1) x1 x4a x4n x4c x17 x18 h nx =
    if (decide ((x18 : Int) < 9)) = true then
    (if 0 ≤ (x18 : Int) ∧ x18 < ((9 : Nat) : Int) then
    ((x17[(Int.toNat x18 * 1)]?).bind fun c1 =>
    (asP c1).bind fun p2 =>
    (p2).bind fun p3 =>
    (ldA h p3.1 p3.2).bind fun v4 =>
    (asI .i64 v4).bind fun n5 =>
    (call Y 15 [(.slice x4a x4n x4c), (.int .i64 n5), (.int .i64 4)] h (nx + 9)).bind fun r6 =>
    (asSl r6.1).bind fun s7 =>
    F8_L1' J J call Y lf n0 x1 s7.1 s7.2.1 s7.2.2 x17 (wrapA .i64 (x18 + 1)) r6.2.1 (r6.2.2 + 2))
    else none)
    else
    ((x1).bind fun p8 =>
    (call Y 16 [(.ptr (some (p8.1, ((p8.2 + 5) + 4))))] h (nx + 5)).bind fun r9 =>
    (asRow r9.1).bind fun d10 =>
    F8_L2' J J call Y lf lf x4a x4n x4c d10 0 r9.2.1 r9.2.2) := by kernel_rfl

theorem F8_L1_eq (call : YldF → CallF) (Y : YldF) (lf : Nat) (n0 : Nat) (x1 : Option (Nat × Nat)) (x4a : Option (Nat × Nat)) (x4n : Nat) (x4c : Option Nat) (x17 : List AV) (x18 : Int) (h : AHeap) (nx : Nat) : F8_L1 call Y lf (n0 + 1) x1 x4a x4n x4c x17 x18 h nx =
    if (decide ((x18 : Int) < 9)) = true then
    (if 0 ≤ (x18 : Int) ∧ x18 < ((9 : Nat) : Int) then
    ((x17[(Int.toNat x18 * 1)]?).bind fun c1 =>
    (asP c1).bind fun p2 =>
    (p2).bind fun p3 =>
    (ldA h p3.1 p3.2).bind fun v4 =>
    (asI .i64 v4).bind fun n5 =>
    (call Y 15 [(.slice x4a x4n x4c), (.int .i64 n5), (.int .i64 4)] h (nx + 9)).bind fun r6 =>
    (asSl r6.1).bind fun s7 =>
    F8_L1 call Y lf n0 x1 s7.1 s7.2.1 s7.2.2 x17 (wrapA .i64 (x18 + 1)) r6.2.1 (r6.2.2 + 2))
    else none)
    else
    ((x1).bind fun p8 =>
    (call Y 16 [(.ptr (some (p8.1, ((p8.2 + 5) + 4))))] h (nx + 5)).bind fun r9 =>
    (asRow r9.1).bind fun d10 =>
    F8_L2 call Y lf lf x4a x4n x4c d10 0 r9.2.1 r9.2.2) := F8_L1_eq' go1 call Y lf n0 x1 x4a x4n x4c x17 x18 h nx

theorem F8_L1_zero (call : YldF → CallF) (Y : YldF) (lf : Nat) (x1 : Option (Nat × Nat)) (x4a : Option (Nat × Nat)) (x4n : Nat) (x4c : Option Nat) (x17 : List AV) (x18 : Int) (h : AHeap) (nx : Nat) : F8_L1 call Y lf 0 x1 x4a x4n x4c x17 x18 h nx = none := by kernel_rfl

theorem F8_L2_eq' (J : StepF (AV × AHeap × Nat) → StepF (AV × AHeap × Nat)) (call : YldF → CallF) (Y : YldF) (lf : Nat) (n0 : Nat) (x4a : Option (Nat × Nat)) (x4n : Nat) (x4c : Option Nat) (x29 : List AV) (x30 : Int) (h : AHeap) (nx : Nat) : F8_L2' go1 J call Y lf (n0 + 1) x4a x4n x4c x29 x30 h nx =
    if (decide ((x30 : Int) < 4)) = true then
    (if 0 ≤ (x30 : Int) ∧ x30 < ((4 : Nat) : Int) then
    ((x29[(Int.toNat x30 * 1)]?).bind fun c1 =>
    (asP c1).bind fun p2 =>
    (p2).bind fun p3 =>
    (ldA h p3.1 p3.2).bind fun v4 =>
    (asI .i64 v4).bind fun n5 =>
    (call Y 15 [(.slice x4a x4n x4c), (.int .i64 n5), (.int .i64 8)] h (nx + 9)).bind fun r6 =>
    (asSl r6.1).bind fun s7 =>
    F8_L2' J J call Y lf n0 s7.1 s7.2.1 s7.2.2 x29 (wrapA .i64 (x30 + 1)) r6.2.1 (r6.2.2 + 2))
    else none)
    else
    ((cutA h x4a x4n x4c 1 none (some (.int .i64 96)) none).bind fun s8 =>
    (call Y 17 [(.slice s8.1 s8.2.1 s8.2.2)] h (nx + 12)).bind fun r9 =>
    (asTup 2 r9.1).bind fun d10 =>
    (asAgg 4 (d10.getD 0 .bad)).bind fun d11 =>
    (asI .i64 (d11.getD 0 .bad)).bind fun n12 =>
    (asI .i64 (d11.getD 1 .bad)).bind fun n13 =>
    (asI .i64 (d11.getD 2 .bad)).bind fun n14 =>
    (asI .i64 (d11.getD 3 .bad)).bind fun n15 =>
    (asI .i64 (d10.getD 1 .bad)).bind fun n16 =>
    let h17 := AHeap.put r9.2.1 (nx + 9) (some ⟨[(.int .i64 0), (.int .i64 0), (.int .i64 0), (.int .i64 0)], 4, true⟩)
    (stA h17 (nx + 9) 0 (.agg [(.int .i64 n12), (.int .i64 n13), (.int .i64 n14), (.int .i64 n15)]) 4).bind fun b18 =>
    let h19 := AHeap.put h17 (nx + 9) (some b18)
    (call Y 16 [(.ptr (some ((nx + 9), 0)))] h19 (r9.2.2 + 2)).bind fun r20 =>
    (asRow r20.1).bind fun d21 =>
    F8_L3' J J call Y lf lf s8.1 s8.2.1 s8.2.2 d21 0 r20.2.1 r20.2.2) := by kernel_rfl

theorem F8_L2_eq (call : YldF → CallF) (Y : YldF) (lf : Nat) (n0 : Nat) (x4a : Option (Nat × Nat)) (x4n : Nat) (x4c : Option Nat) (x29 : List AV) (x30 : Int) (h : AHeap) (nx : Nat) : F8_L2 call Y lf (n0 + 1) x4a x4n x4c x29 x30 h nx =
    if (decide ((x30 : Int) < 4)) = true then
    (if 0 ≤ (x30 : Int) ∧ x30 < ((4 : Nat) : Int) then
    ((x29[(Int.toNat x30 * 1)]?).bind fun c1 =>
    (asP c1).bind fun p2 =>
    (p2).bind fun p3 =>
    (ldA h p3.1 p3.2).bind fun v4 =>
    (asI .i64 v4).bind fun n5 =>
    (call Y 15 [(.slice x4a x4n x4c), (.int .i64 n5), (.int .i64 8)] h (nx + 9)).bind fun r6 =>
    (asSl r6.1).bind fun s7 =>
    F8_L2 call Y lf n0 s7.1 s7.2.1 s7.2.2 x29 (wrapA .i64 (x30 + 1)) r6.2.1 (r6.2.2 + 2))
    else none)
    else
    ((cutA h x4a x4n x4c 1 none (some (.int .i64 96)) none).bind fun s8 =>
    (call Y 17 [(.slice s8.1 s8.2.1 s8.2.2)] h (nx + 12)).bind fun r9 =>
    (asTup 2 r9.1).bind fun d10 =>
    (asAgg 4 (d10.getD 0 .bad)).bind fun d11 =>
    (asI .i64 (d11.getD 0 .bad)).bind fun n12 =>
    (asI .i64 (d11.getD 1 .bad)).bind fun n13 =>
    (asI .i64 (d11.getD 2 .bad)).bind fun n14 =>
    (asI .i64 (d11.getD 3 .bad)).bind fun n15 =>
    (asI .i64 (d10.getD 1 .bad)).bind fun n16 =>
    let h17 := AHeap.put r9.2.1 (nx + 9) (some ⟨[(.int .i64 0), (.int .i64 0), (.int .i64 0), (.int .i64 0)], 4, true⟩)
    (stA h17 (nx + 9) 0 (.agg [(.int .i64 n12), (.int .i64 n13), (.int .i64 n14), (.int .i64 n15)]) 4).bind fun b18 =>
    let h19 := AHeap.put h17 (nx + 9) (some b18)
    (call Y 16 [(.ptr (some ((nx + 9), 0)))] h19 (r9.2.2 + 2)).bind fun r20 =>
    (asRow r20.1).bind fun d21 =>
    F8_L3 call Y lf lf s8.1 s8.2.1 s8.2.2 d21 0 r20.2.1 r20.2.2) := F8_L2_eq' go1 call Y lf n0 x4a x4n x4c x29 x30 h nx

theorem F8_L2_zero (call : YldF → CallF) (Y : YldF) (lf : Nat) (x4a : Option (Nat × Nat)) (x4n : Nat) (x4c : Option Nat) (x29 : List AV) (x30 : Int) (h : AHeap) (nx : Nat) : F8_L2 call Y lf 0 x4a x4n x4c x29 x30 h nx = none := by kernel_rfl

theorem F8_L3_eq' (J : StepF (AV × AHeap × Nat) → StepF (AV × AHeap × Nat)) (call : YldF → CallF) (Y : YldF) (lf : Nat) (n0 : Nat) (x4a : Option (Nat × Nat)) (x4n : Nat) (x4c : Option Nat) (x46 : List AV) (x47 : Int) (h : AHeap) (nx : Nat) : F8_L3' go1 J call Y lf (n0 + 1) x4a x4n x4c x46 x47 h nx =
    if (decide ((x47 : Int) < 4)) = true then
    (if 0 ≤ (x47 : Int) ∧ x47 < ((4 : Nat) : Int) then
    ((x46[(Int.toNat x47 * 1)]?).bind fun c1 =>
    (asP c1).bind fun p2 =>
    (p2).bind fun p3 =>
    (ldA h p3.1 p3.2).bind fun v4 =>
    (asI .i64 v4).bind fun n5 =>
    (call Y 15 [(.slice x4a x4n x4c), (.int .i64 n5), (.int .i64 8)] h (nx + 9)).bind fun r6 =>
    (asSl r6.1).bind fun s7 =>
    F8_L3' J J call Y lf n0 s7.1 s7.2.1 s7.2.2 x46 (wrapA .i64 (x47 + 1)) r6.2.1 (r6.2.2 + 2))
    else none)
    else
    (some ((.tuple [(.slice x4a x4n x4c), (.int .i64 0)]), h, (nx + 4))) := by kernel_rfl

theorem F8_L3_eq (call : YldF → CallF) (Y : YldF) (lf : Nat) (n0 : Nat) (x4a : Option (Nat × Nat)) (x4n : Nat) (x4c : Option Nat) (x46 : List AV) (x47 : Int) (h : AHeap) (nx : Nat) : F8_L3 call Y lf (n0 + 1) x4a x4n x4c x46 x47 h nx =
    if (decide ((x47 : Int) < 4)) = true then
    (if 0 ≤ (x47 : Int) ∧ x47 < ((4 : Nat) : Int) then
    ((x46[(Int.toNat x47 * 1)]?).bind fun c1 =>
    (asP c1).bind fun p2 =>
    (p2).bind fun p3 =>
    (ldA h p3.1 p3.2).bind fun v4 =>
    (asI .i64 v4).bind fun n5 =>
    (call Y 15 [(.slice x4a x4n x4c), (.int .i64 n5), (.int .i64 8)] h (nx + 9)).bind fun r6 =>
    (asSl r6.1).bind fun s7 =>
    F8_L3 call Y lf n0 s7.1 s7.2.1 s7.2.2 x46 (wrapA .i64 (x47 + 1)) r6.2.1 (r6.2.2 + 2))
    else none)
    else
    (some ((.tuple [(.slice x4a x4n x4c), (.int .i64 0)]), h, (nx + 4))) := F8_L3_eq' go1 call Y lf n0 x4a x4n x4c x46 x47 h nx

theorem F8_L3_zero (call : YldF → CallF) (Y : YldF) (lf : Nat) (x4a : Option (Nat × Nat)) (x4n : Nat) (x4c : Option Nat) (x46 : List AV) (x47 : Int) (h : AHeap) (nx : Nat) : F8_L3 call Y lf 0 x4a x4n x4c x46 x47 h nx = none := by kernel_rfl

theorem F8_eq' (J : StepF (AV × AHeap × Nat) → StepF (AV × AHeap × Nat)) (n : Nat) (Y : YldF) (x0_0 : Int) (x0_1 : Int) (x0_2 : Int) (x0_3 : Int) (x0_4 : Int) (x0_5 : Int) (x0_6 : Int) (x0_7 : Int) (x0_8 : Int) (x0_9 : Int) (x0_10 : Int) (x0_11 : Int) (x0_12 : Int) (h : AHeap) (nx : Nat) : rootJ J Try.prog keepT (callP Try.prog keepT n) Y n 8 [(.agg [(.int .i64 x0_0), (.int .i64 x0_1), (.int .i64 x0_2), (.int .i64 x0_3), (.int .i64 x0_4), (.int .i64 x0_5), (.int .i64 x0_6), (.int .i64 x0_7), (.int .i64 x0_8), (.int .i64 x0_9), (.int .i64 x0_10), (.int .i64 x0_11), (.int .i64 x0_12)])] h nx =
    let h1 := AHeap.put h nx (some ⟨[(.int .i64 x0_0), (.int .i64 x0_1), (.int .i64 x0_2), (.int .i64 x0_3), (.int .i64 x0_4), (.int .i64 x0_5), (.int .i64 x0_6), (.int .i64 x0_7), (.int .i64 x0_8), (.int .i64 x0_9), (.int .i64 x0_10), (.int .i64 x0_11), (.int .i64 x0_12)], 13, true⟩)
    (ldR h1 nx 0 13).bind fun l2 =>
    (asAgg 13 (AV.agg l2)).bind fun d3 =>
    (asI .i64 (d3.getD 0 .bad)).bind fun n4 =>
    (asI .i64 (d3.getD 1 .bad)).bind fun n5 =>
    (asI .i64 (d3.getD 2 .bad)).bind fun n6 =>
    (asI .i64 (d3.getD 3 .bad)).bind fun n7 =>
    (asI .i64 (d3.getD 4 .bad)).bind fun n8 =>
    (asI .i64 (d3.getD 5 .bad)).bind fun n9 =>
    (asI .i64 (d3.getD 6 .bad)).bind fun n10 =>
    (asI .i64 (d3.getD 7 .bad)).bind fun n11 =>
    (asI .i64 (d3.getD 8 .bad)).bind fun n12 =>
    (asI .i64 (d3.getD 9 .bad)).bind fun n13 =>
    (asI .i64 (d3.getD 10 .bad)).bind fun n14 =>
    (asI .i64 (d3.getD 11 .bad)).bind fun n15 =>
    (asI .i64 (d3.getD 12 .bad)).bind fun n16 =>
    ((callP Try.prog keepT n) Y 10 [(.agg [(.int .i64 n4), (.int .i64 n5), (.int .i64 n6), (.int .i64 n7), (.int .i64 n8), (.int .i64 n9), (.int .i64 n10), (.int .i64 n11), (.int .i64 n12), (.int .i64 n13), (.int .i64 n14), (.int .i64 n15), (.int .i64 n16)])] h1 (nx + 6)).bind fun r17 =>
    (asB r17.1).bind fun t18 =>
    if (!t18) = true then
    (some ((.tuple [(.slice none 0 none), (.int .i64 4)]), r17.2.1, (r17.2.2 + 2)))
    else
    (if (decide (0 ≤ (0 : Int)) && decide ((0 : Int) ≤ 128) && decide (((1 : Nat) : Int) * 128 ≤ 281474976710656) && decide ((128 : Int) ≤ 9223372036854775807) && 1 != 0) = true then
    (let h19 := AHeap.put r17.2.1 r17.2.2 (some ⟨(madeA [(.int .u8 0)] (Int.toNat 128 * 1)), 1, true⟩)
    ((callP Try.prog keepT n) Y 14 [(.ptr (some (nx, 0)))] h19 (r17.2.2 + 4)).bind fun r20 =>
    (asRow r20.1).bind fun d21 =>
    F8_L1' J J (callP Try.prog keepT n) Y n n (some (nx, 0)) (some (r17.2.2, 0)) (Int.toNat 0) (some (Int.toNat 128)) d21 0 r20.2.1 r20.2.2)
    else none) := by kernel_rfl

/-- quickset/label.Encode -/
theorem F8_eq (n : Nat) (Y : YldF) (x0_0 : Int) (x0_1 : Int) (x0_2 : Int) (x0_3 : Int) (x0_4 : Int) (x0_5 : Int) (x0_6 : Int) (x0_7 : Int) (x0_8 : Int) (x0_9 : Int) (x0_10 : Int) (x0_11 : Int) (x0_12 : Int) (h : AHeap) (nx : Nat) : callP Try.prog keepT (n + 1) Y 8 [(.agg [(.int .i64 x0_0), (.int .i64 x0_1), (.int .i64 x0_2), (.int .i64 x0_3), (.int .i64 x0_4), (.int .i64 x0_5), (.int .i64 x0_6), (.int .i64 x0_7), (.int .i64 x0_8), (.int .i64 x0_9), (.int .i64 x0_10), (.int .i64 x0_11), (.int .i64 x0_12)])] h nx =
    let h1 := AHeap.put h nx (some ⟨[(.int .i64 x0_0), (.int .i64 x0_1), (.int .i64 x0_2), (.int .i64 x0_3), (.int .i64 x0_4), (.int .i64 x0_5), (.int .i64 x0_6), (.int .i64 x0_7), (.int .i64 x0_8), (.int .i64 x0_9), (.int .i64 x0_10), (.int .i64 x0_11), (.int .i64 x0_12)], 13, true⟩)
    (ldR h1 nx 0 13).bind fun l2 =>
    (asAgg 13 (AV.agg l2)).bind fun d3 =>
    (asI .i64 (d3.getD 0 .bad)).bind fun n4 =>
    (asI .i64 (d3.getD 1 .bad)).bind fun n5 =>
    (asI .i64 (d3.getD 2 .bad)).bind fun n6 =>
    (asI .i64 (d3.getD 3 .bad)).bind fun n7 =>
    (asI .i64 (d3.getD 4 .bad)).bind fun n8 =>
    (asI .i64 (d3.getD 5 .bad)).bind fun n9 =>
    (asI .i64 (d3.getD 6 .bad)).bind fun n10 =>
    (asI .i64 (d3.getD 7 .bad)).bind fun n11 =>
    (asI .i64 (d3.getD 8 .bad)).bind fun n12 =>
    (asI .i64 (d3.getD 9 .bad)).bind fun n13 =>
    (asI .i64 (d3.getD 10 .bad)).bind fun n14 =>
    (asI .i64 (d3.getD 11 .bad)).bind fun n15 =>
    (asI .i64 (d3.getD 12 .bad)).bind fun n16 =>
    ((callP Try.prog keepT n) Y 10 [(.agg [(.int .i64 n4), (.int .i64 n5), (.int .i64 n6), (.int .i64 n7), (.int .i64 n8), (.int .i64 n9), (.int .i64 n10), (.int .i64 n11), (.int .i64 n12), (.int .i64 n13), (.int .i64 n14), (.int .i64 n15), (.int .i64 n16)])] h1 (nx + 6)).bind fun r17 =>
    (asB r17.1).bind fun t18 =>
    if (!t18) = true then
    (some ((.tuple [(.slice none 0 none), (.int .i64 4)]), r17.2.1, (r17.2.2 + 2)))
    else
    (if (decide (0 ≤ (0 : Int)) && decide ((0 : Int) ≤ 128) && decide (((1 : Nat) : Int) * 128 ≤ 281474976710656) && decide ((128 : Int) ≤ 9223372036854775807) && 1 != 0) = true then
    (let h19 := AHeap.put r17.2.1 r17.2.2 (some ⟨(madeA [(.int .u8 0)] (Int.toNat 128 * 1)), 1, true⟩)
    ((callP Try.prog keepT n) Y 14 [(.ptr (some (nx, 0)))] h19 (r17.2.2 + 4)).bind fun r20 =>
    (asRow r20.1).bind fun d21 =>
    F8_L1 (callP Try.prog keepT n) Y n n (some (nx, 0)) (some (r17.2.2, 0)) (Int.toNat 0) (some (Int.toNat 128)) d21 0 r20.2.1 r20.2.2)
    else none) := F8_eq' go1 n Y x0_0 x0_1 x0_2 x0_3 x0_4 x0_5 x0_6 x0_7 x0_8 x0_9 x0_10 x0_11 x0_12 h nx

noncomputable def c9 : Code := (Try.f9.body).getD .skip

noncomputable def r9 : List ResultVar := Try.f9.results.toList

noncomputable def F9_L1' (W J : StepF (AV × AHeap × Nat) → StepF (AV × AHeap × Nat)) (call : YldF → CallF) (Y : YldF) (lf : Nat) (n0 : Nat) (x0a : Option (Nat × Nat)) (x0n : Nat) (x0c : Option Nat) (x2 : Option (Nat × Nat)) (x4 : Option (Nat × Nat)) (x5 : Option (Nat × Nat)) (x6 : Option (Nat × Nat)) (x22 : List AV) (x23 : Int) (h : AHeap) (nx : Nat) : Option (AV × AHeap × Nat) :=
  goK W J drawK (machOf Try.prog) call Y (keepT 9) lf c9 [1, 1, 1, 1, 1, 0, 1, 0, 9] [n0] (retK (machOf Try.prog) ⟨c9, 75, r9, keepT 9⟩) ⟨75, mkL [(0, (.slice x0a x0n x0c)), (2, (.ptr x2)), (4, (.ptr x4)), (5, (.ptr x5)), (6, (.ptr x6)), (22, (.agg x22)), (23, (.int .i64 x23))]⟩ h nx

noncomputable def F9_L1 (call : YldF → CallF) (Y : YldF) (lf : Nat) (n0 : Nat) (x0a : Option (Nat × Nat)) (x0n : Nat) (x0c : Option Nat) (x2 : Option (Nat × Nat)) (x4 : Option (Nat × Nat)) (x5 : Option (Nat × Nat)) (x6 : Option (Nat × Nat)) (x22 : List AV) (x23 : Int) (h : AHeap) (nx : Nat) : Option (AV × AHeap × Nat) := F9_L1' go1 go1 call Y lf n0 x0a x0n x0c x2 x4 x5 x6 x22 x23 h nx

noncomputable def F9_L2' (W J : StepF (AV × AHeap × Nat) → StepF (AV × AHeap × Nat)) (call : YldF → CallF) (Y : YldF) (lf : Nat) (n0 : Nat) (x0a : Option (Nat × Nat)) (x0n : Nat) (x0c : Option Nat) (x2 : Option (Nat × Nat)) (x4 : Option (Nat × Nat)) (x5 : Option (Nat × Nat)) (x6 : Option (Nat × Nat)) (x32 : List AV) (x33 : Int) (h : AHeap) (nx : Nat) : Option (AV × AHeap × Nat) :=
  goK W J drawK (machOf Try.prog) call Y (keepT 9) lf c9 [1, 1, 1, 1, 1, 1, 0, 1, 0, 9] [n0] (retK (machOf Try.prog) ⟨c9, 75, r9, keepT 9⟩) ⟨75, mkL [(0, (.slice x0a x0n x0c)), (2, (.ptr x2)), (4, (.ptr x4)), (5, (.ptr x5)), (6, (.ptr x6)), (32, (.agg x32)), (33, (.int .i64 x33))]⟩ h nx

noncomputable def F9_L2 (call : YldF → CallF) (Y : YldF) (lf : Nat) (n0 : Nat) (x0a : Option (Nat × Nat)) (x0n : Nat) (x0c : Option Nat) (x2 : Option (Nat × Nat)) (x4 : Option (Nat × Nat)) (x5 : Option (Nat × Nat)) (x6 : Option (Nat × Nat)) (x32 : List AV) (x33 : Int) (h : AHeap) (nx : Nat) : Option (AV × AHeap × Nat) := F9_L2' go1 go1 call Y lf n0 x0a x0n x0c x2 x4 x5 x6 x32 x33 h nx

noncomputable def F9_L3' (W J : StepF (AV × AHeap × Nat) → StepF (AV × AHeap × Nat)) (call : YldF → CallF) (Y : YldF) (lf : Nat) (n0 : Nat) (x0a : Option (Nat × Nat)) (x0n : Nat) (x0c : Option Nat) (x2 : Option (Nat × Nat)) (x4 : Option (Nat × Nat)) (x5 : Option (Nat × Nat)) (x6 : Option (Nat × Nat)) (x42 : List AV) (x43 : Int) (h : AHeap) (nx : Nat) : Option (AV × AHeap × Nat) :=
  goK W J drawK (machOf Try.prog) call Y (keepT 9) lf c9 [1, 1, 1, 1, 1, 1, 1, 1, 0, 1, 0, 9] [n0] (retK (machOf Try.prog) ⟨c9, 75, r9, keepT 9⟩) ⟨75, mkL [(0, (.slice x0a x0n x0c)), (2, (.ptr x2)), (4, (.ptr x4)), (5, (.ptr x5)), (6, (.ptr x6)), (42, (.agg x42)), (43, (.int .i64 x43))]⟩ h nx

noncomputable def F9_L3 (call : YldF → CallF) (Y : YldF) (lf : Nat) (n0 : Nat) (x0a : Option (Nat × Nat)) (x0n : Nat) (x0c : Option Nat) (x2 : Option (Nat × Nat)) (x4 : Option (Nat × Nat)) (x5 : Option (Nat × Nat)) (x6 : Option (Nat × Nat)) (x42 : List AV) (x43 : Int) (h : AHeap) (nx : Nat) : Option (AV × AHeap × Nat) := F9_L3' go1 go1 call Y lf n0 x0a x0n x0c x2 x4 x5 x6 x42 x43 h nx

theorem F9_L1_eq' (J : StepF (AV × AHeap × Nat) → StepF (AV × AHeap × Nat)) (call : YldF → CallF) (Y : YldF) (lf : Nat) (n0 : Nat) (x0a : Option (Nat × Nat)) (x0n : Nat) (x0c : Option Nat) (x2 : Option (Nat × Nat)) (x4 : Option (Nat × Nat)) (x5 : Option (Nat × Nat)) (x6 : Option (Nat × Nat)) (x22 : List AV) (x23 : Int) (h : AHeap) (nx : Nat) : F9_L1' go1 J call Y lf (n0 + 1) x0a x0n x0c x2 x4 x5 x6 x22 x23 h nx =
    if (decide ((x23 : Int) < 9)) = true then
    (if 0 ≤ (x23 : Int) ∧ x23 < ((9 : Nat) : Int) then
    ((x22[(Int.toNat x23 * 1)]?).bind fun c1 =>
    (asP c1).bind fun p2 =>
    (call Y 18 [(.ptr x6), (.int .i64 4)] h (nx + 7)).bind fun r3 =>
    (asI .i64 r3.1).bind fun n4 =>
    (p2).bind fun p5 =>
    (stA r3.2.1 p5.1 p5.2 (.int .i64 n4) 1).bind fun b6 =>
    let h7 := AHeap.put r3.2.1 p5.1 (some b6)
    F9_L1' J J call Y lf n0 x0a x0n x0c x2 x4 x5 x6 x22 (wrapA .i64 (x23 + 1)) h7 (r3.2.2 + 2))
    else none)
    else
    ((x4).bind fun p8 =>
    (call Y 16 [(.ptr (some (p8.1, ((p8.2 + 5) + 4))))] h (nx + 5)).bind fun r9 =>
    (asRow r9.1).bind fun d10 =>
    F9_L2' J J call Y lf lf x0a x0n x0c x2 x4 x5 x6 d10 0 r9.2.1 r9.2.2) := by kernel_rfl

theorem F9_L1_eq (call : YldF → CallF) (Y : YldF) (lf : Nat) (n0 : Nat) (x0a : Option (Nat × Nat)) (x0n : Nat) (x0c : Option Nat) (x2 : Option (Nat × Nat)) (x4 : Option (Nat × Nat)) (x5 : Option (Nat × Nat)) (x6 : Option (Nat × Nat)) (x22 : List AV) (x23 : Int) (h : AHeap) (nx : Nat) : F9_L1 call Y lf (n0 + 1) x0a x0n x0c x2 x4 x5 x6 x22 x23 h nx =
    if (decide ((x23 : Int) < 9)) = true then
    (if 0 ≤ (x23 : Int) ∧ x23 < ((9 : Nat) : Int) then
    ((x22[(Int.toNat x23 * 1)]?).bind fun c1 =>
    (asP c1).bind fun p2 =>
    (call Y 18 [(.ptr x6), (.int .i64 4)] h (nx + 7)).bind fun r3 =>
    (asI .i64 r3.1).bind fun n4 =>
    (p2).bind fun p5 =>
    (stA r3.2.1 p5.1 p5.2 (.int .i64 n4) 1).bind fun b6 =>
    let h7 := AHeap.put r3.2.1 p5.1 (some b6)
    F9_L1 call Y lf n0 x0a x0n x0c x2 x4 x5 x6 x22 (wrapA .i64 (x23 + 1)) h7 (r3.2.2 + 2))
    else none)
    else
    ((x4).bind fun p8 =>
    (call Y 16 [(.ptr (some (p8.1, ((p8.2 + 5) + 4))))] h (nx + 5)).bind fun r9 =>
    (asRow r9.1).bind fun d10 =>
    F9_L2 call Y lf lf x0a x0n x0c x2 x4 x5 x6 d10 0 r9.2.1 r9.2.2) := F9_L1_eq' go1 call Y lf n0 x0a x0n x0c x2 x4 x5 x6 x22 x23 h nx

theorem F9_L1_zero (call : YldF → CallF) (Y : YldF) (lf : Nat) (x0a : Option (Nat × Nat)) (x0n : Nat) (x0c : Option Nat) (x2 : Option (Nat × Nat)) (x4 : Option (Nat × Nat)) (x5 : Option (Nat × Nat)) (x6 : Option (Nat × Nat)) (x22 : List AV) (x23 : Int) (h : AHeap) (nx : Nat) : F9_L1 call Y lf 0 x0a x0n x0c x2 x4 x5 x6 x22 x23 h nx = none := by kernel_rfl

theorem F9_L2_eq' (J : StepF (AV × AHeap × Nat) → StepF (AV × AHeap × Nat)) (call : YldF → CallF) (Y : YldF) (lf : Nat) (n0 : Nat) (x0a : Option (Nat × Nat)) (x0n : Nat) (x0c : Option Nat) (x2 : Option (Nat × Nat)) (x4 : Option (Nat × Nat)) (x5 : Option (Nat × Nat)) (x6 : Option (Nat × Nat)) (x32 : List AV) (x33 : Int) (h : AHeap) (nx : Nat) : F9_L2' go1 J call Y lf (n0 + 1) x0a x0n x0c x2 x4 x5 x6 x32 x33 h nx =
    if (decide ((x33 : Int) < 4)) = true then
    (if 0 ≤ (x33 : Int) ∧ x33 < ((4 : Nat) : Int) then
    ((x32[(Int.toNat x33 * 1)]?).bind fun c1 =>
    (asP c1).bind fun p2 =>
    (call Y 18 [(.ptr x6), (.int .i64 8)] h (nx + 7)).bind fun r3 =>
    (asI .i64 r3.1).bind fun n4 =>
    (p2).bind fun p5 =>
    (stA r3.2.1 p5.1 p5.2 (.int .i64 n4) 1).bind fun b6 =>
    let h7 := AHeap.put r3.2.1 p5.1 (some b6)
    F9_L2' J J call Y lf n0 x0a x0n x0c x2 x4 x5 x6 x32 (wrapA .i64 (x33 + 1)) h7 (r3.2.2 + 2))
    else none)
    else
    ((cutA h x0a x0n x0c 1 (some (.int .i64 96)) none none).bind fun s8 =>
    (x6).bind fun p9 =>
    (stA h p9.1 p9.2 (.slice s8.1 s8.2.1 s8.2.2) 1).bind fun b10 =>
    let h11 := AHeap.put h p9.1 (some b10)
    (call Y 16 [(.ptr x5)] h11 (nx + 6)).bind fun r12 =>
    (asRow r12.1).bind fun d13 =>
    F9_L3' J J call Y lf lf x0a x0n x0c x2 x4 x5 x6 d13 0 r12.2.1 r12.2.2) := by kernel_rfl

theorem F9_L2_eq (call : YldF → CallF) (Y : YldF) (lf : Nat) (n0 : Nat) (x0a : Option (Nat × Nat)) (x0n : Nat) (x0c : Option Nat) (x2 : Option (Nat × Nat)) (x4 : Option (Nat × Nat)) (x5 : Option (Nat × Nat)) (x6 : Option (Nat × Nat)) (x32 : List AV) (x33 : Int) (h : AHeap) (nx : Nat) : F9_L2 call Y lf (n0 + 1) x0a x0n x0c x2 x4 x5 x6 x32 x33 h nx =
    if (decide ((x33 : Int) < 4)) = true then
    (if 0 ≤ (x33 : Int) ∧ x33 < ((4 : Nat) : Int) then
    ((x32[(Int.toNat x33 * 1)]?).bind fun c1 =>
    (asP c1).bind fun p2 =>
    (call Y 18 [(.ptr x6), (.int .i64 8)] h (nx + 7)).bind fun r3 =>
    (asI .i64 r3.1).bind fun n4 =>
    (p2).bind fun p5 =>
    (stA r3.2.1 p5.1 p5.2 (.int .i64 n4) 1).bind fun b6 =>
    let h7 := AHeap.put r3.2.1 p5.1 (some b6)
    F9_L2 call Y lf n0 x0a x0n x0c x2 x4 x5 x6 x32 (wrapA .i64 (x33 + 1)) h7 (r3.2.2 + 2))
    else none)
    else
    ((cutA h x0a x0n x0c 1 (some (.int .i64 96)) none none).bind fun s8 =>
    (x6).bind fun p9 =>
    (stA h p9.1 p9.2 (.slice s8.1 s8.2.1 s8.2.2) 1).bind fun b10 =>
    let h11 := AHeap.put h p9.1 (some b10)
    (call Y 16 [(.ptr x5)] h11 (nx + 6)).bind fun r12 =>
    (asRow r12.1).bind fun d13 =>
    F9_L3 call Y lf lf x0a x0n x0c x2 x4 x5 x6 d13 0 r12.2.1 r12.2.2) := F9_L2_eq' go1 call Y lf n0 x0a x0n x0c x2 x4 x5 x6 x32 x33 h nx

theorem F9_L2_zero (call : YldF → CallF) (Y : YldF) (lf : Nat) (x0a : Option (Nat × Nat)) (x0n : Nat) (x0c : Option Nat) (x2 : Option (Nat × Nat)) (x4 : Option (Nat × Nat)) (x5 : Option (Nat × Nat)) (x6 : Option (Nat × Nat)) (x32 : List AV) (x33 : Int) (h : AHeap) (nx : Nat) : F9_L2 call Y lf 0 x0a x0n x0c x2 x4 x5 x6 x32 x33 h nx = none := by kernel_rfl

theorem F9_L3_eq' (J : StepF (AV × AHeap × Nat) → StepF (AV × AHeap × Nat)) (call : YldF → CallF) (Y : YldF) (lf : Nat) (n0 : Nat) (x0a : Option (Nat × Nat)) (x0n : Nat) (x0c : Option Nat) (x2 : Option (Nat × Nat)) (x4 : Option (Nat × Nat)) (x5 : Option (Nat × Nat)) (x6 : Option (Nat × Nat)) (x42 : List AV) (x43 : Int) (h : AHeap) (nx : Nat) : F9_L3' go1 J call Y lf (n0 + 1) x0a x0n x0c x2 x4 x5 x6 x42 x43 h nx =
    if (decide ((x43 : Int) < 4)) = true then
    (if 0 ≤ (x43 : Int) ∧ x43 < ((4 : Nat) : Int) then
    ((x42[(Int.toNat x43 * 1)]?).bind fun c1 =>
    (asP c1).bind fun p2 =>
    (call Y 18 [(.ptr x6), (.int .i64 8)] h (nx + 7)).bind fun r3 =>
    (asI .i64 r3.1).bind fun n4 =>
    (p2).bind fun p5 =>
    (stA r3.2.1 p5.1 p5.2 (.int .i64 n4) 1).bind fun b6 =>
    let h7 := AHeap.put r3.2.1 p5.1 (some b6)
    F9_L3' J J call Y lf n0 x0a x0n x0c x2 x4 x5 x6 x42 (wrapA .i64 (x43 + 1)) h7 (r3.2.2 + 2))
    else none)
    else
    ((cutA h x0a x0n x0c 1 none (some (.int .i64 96)) none).bind fun s8 =>
    (call Y 17 [(.slice s8.1 s8.2.1 s8.2.2)] h (nx + 10)).bind fun r9 =>
    (asTup 2 r9.1).bind fun d10 =>
    (asAgg 4 (d10.getD 0 .bad)).bind fun d11 =>
    (asI .i64 (d11.getD 0 .bad)).bind fun n12 =>
    (asI .i64 (d11.getD 1 .bad)).bind fun n13 =>
    (asI .i64 (d11.getD 2 .bad)).bind fun n14 =>
    (asI .i64 (d11.getD 3 .bad)).bind fun n15 =>
    (asI .i64 (d10.getD 1 .bad)).bind fun n16 =>
    let h17 := AHeap.put r9.2.1 (nx + 7) (some ⟨[(.int .i64 0), (.int .i64 0), (.int .i64 0), (.int .i64 0)], 4, true⟩)
    (stA h17 (nx + 7) 0 (.agg [(.int .i64 n12), (.int .i64 n13), (.int .i64 n14), (.int .i64 n15)]) 4).bind fun b18 =>
    let h19 := AHeap.put h17 (nx + 7) (some b18)
    (ldR h19 (nx + 7) 0 4).bind fun l20 =>
    (asAgg 4 (AV.agg l20)).bind fun d21 =>
    (asI .i64 (d21.getD 0 .bad)).bind fun n22 =>
    (asI .i64 (d21.getD 1 .bad)).bind fun n23 =>
    (asI .i64 (d21.getD 2 .bad)).bind fun n24 =>
    (asI .i64 (d21.getD 3 .bad)).bind fun n25 =>
    (x5).bind fun p26 =>
    (ldR h19 p26.1 p26.2 4).bind fun l27 =>
    (asAgg 4 (AV.agg l27)).bind fun d28 =>
    (asI .i64 (d28.getD 0 .bad)).bind fun n29 =>
    (asI .i64 (d28.getD 1 .bad)).bind fun n30 =>
    (asI .i64 (d28.getD 2 .bad)).bind fun n31 =>
    (asI .i64 (d28.getD 3 .bad)).bind fun n32 =>
    if (!eqCells [(.int .i64 n22), (.int .i64 n23), (.int .i64 n24), (.int .i64 n25)] [(.int .i64 n29), (.int .i64 n30), (.int .i64 n31), (.int .i64 n32)]) = true then
    ((x2).bind fun p33 =>
    (stA h19 p33.1 p33.2 (.agg [(.int .i64 0), (.int .i64 0), (.int .i64 0), (.int .i64 0), (.int .i64 0), (.int .i64 0), (.int .i64 0), (.int .i64 0), (.int .i64 0), (.int .i64 0), (.int .i64 0), (.int .i64 0), (.int .i64 0)]) 13).bind fun b34 =>
    let h35 := AHeap.put h19 p33.1 (some b34)
    (x2).bind fun p36 =>
    (ldR h35 p36.1 p36.2 13).bind fun l37 =>
    (asAgg 13 (AV.agg l37)).bind fun d38 =>
    (asI .i64 (d38.getD 0 .bad)).bind fun n39 =>
    (asI .i64 (d38.getD 1 .bad)).bind fun n40 =>
    (asI .i64 (d38.getD 2 .bad)).bind fun n41 =>
    (asI .i64 (d38.getD 3 .bad)).bind fun n42 =>
    (asI .i64 (d38.getD 4 .bad)).bind fun n43 =>
    (asI .i64 (d38.getD 5 .bad)).bind fun n44 =>
    (asI .i64 (d38.getD 6 .bad)).bind fun n45 =>
    (asI .i64 (d38.getD 7 .bad)).bind fun n46 =>
    (asI .i64 (d38.getD 8 .bad)).bind fun n47 =>
    (asI .i64 (d38.getD 9 .bad)).bind fun n48 =>
    (asI .i64 (d38.getD 10 .bad)).bind fun n49 =>
    (asI .i64 (d38.getD 11 .bad)).bind fun n50 =>
    (asI .i64 (d38.getD 12 .bad)).bind fun n51 =>
    some ((.tuple [(.agg [(.int .i64 n39), (.int .i64 n40), (.int .i64 n41), (.int .i64 n42), (.int .i64 n43), (.int .i64 n44), (.int .i64 n45), (.int .i64 n46), (.int .i64 n47), (.int .i64 n48), (.int .i64 n49), (.int .i64 n50), (.int .i64 n51)]), (.int .i64 11)]), h35, (r9.2.2 + 6)))
    else
    ((x4).bind fun p52 =>
    (ldR h19 p52.1 p52.2 13).bind fun l53 =>
    (asAgg 13 (AV.agg l53)).bind fun d54 =>
    (asI .i64 (d54.getD 0 .bad)).bind fun n55 =>
    (asI .i64 (d54.getD 1 .bad)).bind fun n56 =>
    (asI .i64 (d54.getD 2 .bad)).bind fun n57 =>
    (asI .i64 (d54.getD 3 .bad)).bind fun n58 =>
    (asI .i64 (d54.getD 4 .bad)).bind fun n59 =>
    (asI .i64 (d54.getD 5 .bad)).bind fun n60 =>
    (asI .i64 (d54.getD 6 .bad)).bind fun n61 =>
    (asI .i64 (d54.getD 7 .bad)).bind fun n62 =>
    (asI .i64 (d54.getD 8 .bad)).bind fun n63 =>
    (asI .i64 (d54.getD 9 .bad)).bind fun n64 =>
    (asI .i64 (d54.getD 10 .bad)).bind fun n65 =>
    (asI .i64 (d54.getD 11 .bad)).bind fun n66 =>
    (asI .i64 (d54.getD 12 .bad)).bind fun n67 =>
    (call Y 8 [(.agg [(.int .i64 n55), (.int .i64 n56), (.int .i64 n57), (.int .i64 n58), (.int .i64 n59), (.int .i64 n60), (.int .i64 n61), (.int .i64 n62), (.int .i64 n63), (.int .i64 n64), (.int .i64 n65), (.int .i64 n66), (.int .i64 n67)])] h19 (r9.2.2 + 10)).bind fun r68 =>
    (asTup 2 r68.1).bind fun d69 =>
    (asSl (d69.getD 0 .bad)).bind fun s70 =>
    (asI .i64 (d69.getD 1 .bad)).bind fun n71 =>
    if ((n71 : Int) != 0) = true then
    ((x2).bind fun p72 =>
    (stA r68.2.1 p72.1 p72.2 (.agg [(.int .i64 0), (.int .i64 0), (.int .i64 0), (.int .i64 0), (.int .i64 0), (.int .i64 0), (.int .i64 0), (.int .i64 0), (.int .i64 0), (.int .i64 0), (.int .i64 0), (.int .i64 0), (.int .i64 0)]) 13).bind fun b73 =>
    let h74 := AHeap.put r68.2.1 p72.1 (some b73)
    (x2).bind fun p75 =>
    (ldR h74 p75.1 p75.2 13).bind fun l76 =>
    (asAgg 13 (AV.agg l76)).bind fun d77 =>
    (asI .i64 (d77.getD 0 .bad)).bind fun n78 =>
    (asI .i64 (d77.getD 1 .bad)).bind fun n79 =>
    (asI .i64 (d77.getD 2 .bad)).bind fun n80 =>
    (asI .i64 (d77.getD 3 .bad)).bind fun n81 =>
    (asI .i64 (d77.getD 4 .bad)).bind fun n82 =>
    (asI .i64 (d77.getD 5 .bad)).bind fun n83 =>
    (asI .i64 (d77.getD 6 .bad)).bind fun n84 =>
    (asI .i64 (d77.getD 7 .bad)).bind fun n85 =>
    (asI .i64 (d77.getD 8 .bad)).bind fun n86 =>
    (asI .i64 (d77.getD 9 .bad)).bind fun n87 =>
    (asI .i64 (d77.getD 10 .bad)).bind fun n88 =>
    (asI .i64 (d77.getD 11 .bad)).bind fun n89 =>
    (asI .i64 (d77.getD 12 .bad)).bind fun n90 =>
    some ((.tuple [(.agg [(.int .i64 n78), (.int .i64 n79), (.int .i64 n80), (.int .i64 n81), (.int .i64 n82), (.int .i64 n83), (.int .i64 n84), (.int .i64 n85), (.int .i64 n86), (.int .i64 n87), (.int .i64 n88), (.int .i64 n89), (.int .i64 n90)]), (.int .i64 4)]), h74, (r68.2.2 + 11)))
    else
    ((call Y 19 [(.slice s70.1 s70.2.1 s70.2.2), (.slice x0a x0n x0c)] r68.2.1 (r68.2.2 + 8)).bind fun r91 =>
    (asB r91.1).bind fun t92 =>
    if (!t92) = true then
    ((x2).bind fun p93 =>
    (stA r91.2.1 p93.1 p93.2 (.agg [(.int .i64 0), (.int .i64 0), (.int .i64 0), (.int .i64 0), (.int .i64 0), (.int .i64 0), (.int .i64 0), (.int .i64 0), (.int .i64 0), (.int .i64 0), (.int .i64 0), (.int .i64 0), (.int .i64 0)]) 13).bind fun b94 =>
    let h95 := AHeap.put r91.2.1 p93.1 (some b94)
    (x2).bind fun p96 =>
    (ldR h95 p96.1 p96.2 13).bind fun l97 =>
    (asAgg 13 (AV.agg l97)).bind fun d98 =>
    (asI .i64 (d98.getD 0 .bad)).bind fun n99 =>
    (asI .i64 (d98.getD 1 .bad)).bind fun n100 =>
    (asI .i64 (d98.getD 2 .bad)).bind fun n101 =>
    (asI .i64 (d98.getD 3 .bad)).bind fun n102 =>
    (asI .i64 (d98.getD 4 .bad)).bind fun n103 =>
    (asI .i64 (d98.getD 5 .bad)).bind fun n104 =>
    (asI .i64 (d98.getD 6 .bad)).bind fun n105 =>
    (asI .i64 (d98.getD 7 .bad)).bind fun n106 =>
    (asI .i64 (d98.getD 8 .bad)).bind fun n107 =>
    (asI .i64 (d98.getD 9 .bad)).bind fun n108 =>
    (asI .i64 (d98.getD 10 .bad)).bind fun n109 =>
    (asI .i64 (d98.getD 11 .bad)).bind fun n110 =>
    (asI .i64 (d98.getD 12 .bad)).bind fun n111 =>
    some ((.tuple [(.agg [(.int .i64 n99), (.int .i64 n100), (.int .i64 n101), (.int .i64 n102), (.int .i64 n103), (.int .i64 n104), (.int .i64 n105), (.int .i64 n106), (.int .i64 n107), (.int .i64 n108), (.int .i64 n109), (.int .i64 n110), (.int .i64 n111)]), (.int .i64 4)]), h95, (r91.2.2 + 3)))
    else
    ((x4).bind fun p112 =>
    (ldR r91.2.1 p112.1 p112.2 13).bind fun l113 =>
    (asAgg 13 (AV.agg l113)).bind fun d114 =>
    (asI .i64 (d114.getD 0 .bad)).bind fun n115 =>
    (asI .i64 (d114.getD 1 .bad)).bind fun n116 =>
    (asI .i64 (d114.getD 2 .bad)).bind fun n117 =>
    (asI .i64 (d114.getD 3 .bad)).bind fun n118 =>
    (asI .i64 (d114.getD 4 .bad)).bind fun n119 =>
    (asI .i64 (d114.getD 5 .bad)).bind fun n120 =>
    (asI .i64 (d114.getD 6 .bad)).bind fun n121 =>
    (asI .i64 (d114.getD 7 .bad)).bind fun n122 =>
    (asI .i64 (d114.getD 8 .bad)).bind fun n123 =>
    (asI .i64 (d114.getD 9 .bad)).bind fun n124 =>
    (asI .i64 (d114.getD 10 .bad)).bind fun n125 =>
    (asI .i64 (d114.getD 11 .bad)).bind fun n126 =>
    (asI .i64 (d114.getD 12 .bad)).bind fun n127 =>
    (x2).bind fun p128 =>
    (stA r91.2.1 p128.1 p128.2 (.agg [(.int .i64 n115), (.int .i64 n116), (.int .i64 n117), (.int .i64 n118), (.int .i64 n119), (.int .i64 n120), (.int .i64 n121), (.int .i64 n122), (.int .i64 n123), (.int .i64 n124), (.int .i64 n125), (.int .i64 n126), (.int .i64 n127)]) 13).bind fun b129 =>
    let h130 := AHeap.put r91.2.1 p128.1 (some b129)
    (x2).bind fun p131 =>
    (ldR h130 p131.1 p131.2 13).bind fun l132 =>
    (asAgg 13 (AV.agg l132)).bind fun d133 =>
    (asI .i64 (d133.getD 0 .bad)).bind fun n134 =>
    (asI .i64 (d133.getD 1 .bad)).bind fun n135 =>
    (asI .i64 (d133.getD 2 .bad)).bind fun n136 =>
    (asI .i64 (d133.getD 3 .bad)).bind fun n137 =>
    (asI .i64 (d133.getD 4 .bad)).bind fun n138 =>
    (asI .i64 (d133.getD 5 .bad)).bind fun n139 =>
    (asI .i64 (d133.getD 6 .bad)).bind fun n140 =>
    (asI .i64 (d133.getD 7 .bad)).bind fun n141 =>
    (asI .i64 (d133.getD 8 .bad)).bind fun n142 =>
    (asI .i64 (d133.getD 9 .bad)).bind fun n143 =>
    (asI .i64 (d133.getD 10 .bad)).bind fun n144 =>
    (asI .i64 (d133.getD 11 .bad)).bind fun n145 =>
    (asI .i64 (d133.getD 12 .bad)).bind fun n146 =>
    some ((.tuple [(.agg [(.int .i64 n134), (.int .i64 n135), (.int .i64 n136), (.int .i64 n137), (.int .i64 n138), (.int .i64 n139), (.int .i64 n140), (.int .i64 n141), (.int .i64 n142), (.int .i64 n143), (.int .i64 n144), (.int .i64 n145), (.int .i64 n146)]), (.int .i64 0)]), h130, (r91.2.2 + 3)))))) := by kernel_rfl

theorem F9_L3_eq (call : YldF → CallF) (Y : YldF) (lf : Nat) (n0 : Nat) (x0a : Option (Nat × Nat)) (x0n : Nat) (x0c : Option Nat) (x2 : Option (Nat × Nat)) (x4 : Option (Nat × Nat)) (x5 : Option (Nat × Nat)) (x6 : Option (Nat × Nat)) (x42 : List AV) (x43 : Int) (h : AHeap) (nx : Nat) : F9_L3 call Y lf (n0 + 1) x0a x0n x0c x2 x4 x5 x6 x42 x43 h nx =
    if (decide ((x43 : Int) < 4)) = true then
    (if 0 ≤ (x43 : Int) ∧ x43 < ((4 : Nat) : Int) then
    ((x42[(Int.toNat x43 * 1)]?).bind fun c1 =>
    (asP c1).bind fun p2 =>
    (call Y 18 [(.ptr x6), (.int .i64 8)] h (nx + 7)).bind fun r3 =>
    (asI .i64 r3.1).bind fun n4 =>
    (p2).bind fun p5 =>
    (stA r3.2.1 p5.1 p5.2 (.int .i64 n4) 1).bind fun b6 =>
    let h7 := AHeap.put r3.2.1 p5.1 (some b6)
    F9_L3 call Y lf n0 x0a x0n x0c x2 x4 x5 x6 x42 (wrapA .i64 (x43 + 1)) h7 (r3.2.2 + 2))
    else none)
    else
    ((cutA h x0a x0n x0c 1 none (some (.int .i64 96)) none).bind fun s8 =>
    (call Y 17 [(.slice s8.1 s8.2.1 s8.2.2)] h (nx + 10)).bind fun r9 =>
    (asTup 2 r9.1).bind fun d10 =>
    (asAgg 4 (d10.getD 0 .bad)).bind fun d11 =>
    (asI .i64 (d11.getD 0 .bad)).bind fun n12 =>
    (asI .i64 (d11.getD 1 .bad)).bind fun n13 =>
    (asI .i64 (d11.getD 2 .bad)).bind fun n14 =>
    (asI .i64 (d11.getD 3 .bad)).bind fun n15 =>
    (asI .i64 (d10.getD 1 .bad)).bind fun n16 =>
    let h17 := AHeap.put r9.2.1 (nx + 7) (some ⟨[(.int .i64 0), (.int .i64 0), (.int .i64 0), (.int .i64 0)], 4, true⟩)
    (stA h17 (nx + 7) 0 (.agg [(.int .i64 n12), (.int .i64 n13), (.int .i64 n14), (.int .i64 n15)]) 4).bind fun b18 =>
    let h19 := AHeap.put h17 (nx + 7) (some b18)
    (ldR h19 (nx + 7) 0 4).bind fun l20 =>
    (asAgg 4 (AV.agg l20)).bind fun d21 =>
    (asI .i64 (d21.getD 0 .bad)).bind fun n22 =>
    (asI .i64 (d21.getD 1 .bad)).bind fun n23 =>
    (asI .i64 (d21.getD 2 .bad)).bind fun n24 =>
    (asI .i64 (d21.getD 3 .bad)).bind fun n25 =>
    (x5).bind fun p26 =>
    (ldR h19 p26.1 p26.2 4).bind fun l27 =>
    (asAgg 4 (AV.agg l27)).bind fun d28 =>
    (asI .i64 (d28.getD 0 .bad)).bind fun n29 =>
    (asI .i64 (d28.getD 1 .bad)).bind fun n30 =>
    (asI .i64 (d28.getD 2 .bad)).bind fun n31 =>
    (asI .i64 (d28.getD 3 .bad)).bind fun n32 =>
    if (!eqCells [(.int .i64 n22), (.int .i64 n23), (.int .i64 n24), (.int .i64 n25)] [(.int .i64 n29), (.int .i64 n30), (.int .i64 n31), (.int .i64 n32)]) = true then
    ((x2).bind fun p33 =>
    (stA h19 p33.1 p33.2 (.agg [(.int .i64 0), (.int .i64 0), (.int .i64 0), (.int .i64 0), (.int .i64 0), (.int .i64 0), (.int .i64 0), (.int .i64 0), (.int .i64 0), (.int .i64 0), (.int .i64 0), (.int .i64 0), (.int .i64 0)]) 13).bind fun b34 =>
    let h35 := AHeap.put h19 p33.1 (some b34)
    (x2).bind fun p36 =>
    (ldR h35 p36.1 p36.2 13).bind fun l37 =>
    (asAgg 13 (AV.agg l37)).bind fun d38 =>
    (asI .i64 (d38.getD 0 .bad)).bind fun n39 =>
    (asI .i64 (d38.getD 1 .bad)).bind fun n40 =>
    (asI .i64 (d38.getD 2 .bad)).bind fun n41 =>
    (asI .i64 (d38.getD 3 .bad)).bind fun n42 =>
    (asI .i64 (d38.getD 4 .bad)).bind fun n43 =>
    (asI .i64 (d38.getD 5 .bad)).bind fun n44 =>
    (asI .i64 (d38.getD 6 .bad)).bind fun n45 =>
    (asI .i64 (d38.getD 7 .bad)).bind fun n46 =>
    (asI .i64 (d38.getD 8 .bad)).bind fun n47 =>
    (asI .i64 (d38.getD 9 .bad)).bind fun n48 =>
    (asI .i64 (d38.getD 10 .bad)).bind fun n49 =>
    (asI .i64 (d38.getD 11 .bad)).bind fun n50 =>
    (asI .i64 (d38.getD 12 .bad)).bind fun n51 =>
    some ((.tuple [(.agg [(.int .i64 n39), (.int .i64 n40), (.int .i64 n41), (.int .i64 n42), (.int .i64 n43), (.int .i64 n44), (.int .i64 n45), (.int .i64 n46), (.int .i64 n47), (.int .i64 n48), (.int .i64 n49), (.int .i64 n50), (.int .i64 n51)]), (.int .i64 11)]), h35, (r9.2.2 + 6)))
    else
    ((x4).bind fun p52 =>
    (ldR h19 p52.1 p52.2 13).bind fun l53 =>
    (asAgg 13 (AV.agg l53)).bind fun d54 =>
    (asI .i64 (d54.getD 0 .bad)).bind fun n55 =>
    (asI .i64 (d54.getD 1 .bad)).bind fun n56 =>
    (asI .i64 (d54.getD 2 .bad)).bind fun n57 =>
    (asI .i64 (d54.getD 3 .bad)).bind fun n58 =>
    (asI .i64 (d54.getD 4 .bad)).bind fun n59 =>
    (asI .i64 (d54.getD 5 .bad)).bind fun n60 =>
    (asI .i64 (d54.getD 6 .bad)).bind fun n61 =>
    (asI .i64 (d54.getD 7 .bad)).bind fun n62 =>
    (asI .i64 (d54.getD 8 .bad)).bind fun n63 =>
    (asI .i64 (d54.getD 9 .bad)).bind fun n64 =>
    (asI .i64 (d54.getD 10 .bad)).bind fun n65 =>
    (asI .i64 (d54.getD 11 .bad)).bind fun n66 =>
    (asI .i64 (d54.getD 12 .bad)).bind fun n67 =>
    (call Y 8 [(.agg [(.int .i64 n55), (.int .i64 n56), (.int .i64 n57), (.int .i64 n58), (.int .i64 n59), (.int .i64 n60), (.int .i64 n61), (.int .i64 n62), (.int .i64 n63), (.int .i64 n64), (.int .i64 n65), (.int .i64 n66), (.int .i64 n67)])] h19 (r9.2.2 + 10)).bind fun r68 =>
    (asTup 2 r68.1).bind fun d69 =>
    (asSl (d69.getD 0 .bad)).bind fun s70 =>
    (asI .i64 (d69.getD 1 .bad)).bind fun n71 =>
    if ((n71 : Int) != 0) = true then
    ((x2).bind fun p72 =>
    (stA r68.2.1 p72.1 p72.2 (.agg [(.int .i64 0), (.int .i64 0), (.int .i64 0), (.int .i64 0), (.int .i64 0), (.int .i64 0), (.int .i64 0), (.int .i64 0), (.int .i64 0), (.int .i64 0), (.int .i64 0), (.int .i64 0), (.int .i64 0)]) 13).bind fun b73 =>
    let h74 := AHeap.put r68.2.1 p72.1 (some b73)
    (x2).bind fun p75 =>
    (ldR h74 p75.1 p75.2 13).bind fun l76 =>
    (asAgg 13 (AV.agg l76)).bind fun d77 =>
    (asI .i64 (d77.getD 0 .bad)).bind fun n78 =>
    (asI .i64 (d77.getD 1 .bad)).bind fun n79 =>
    (asI .i64 (d77.getD 2 .bad)).bind fun n80 =>
    (asI .i64 (d77.getD 3 .bad)).bind fun n81 =>
    (asI .i64 (d77.getD 4 .bad)).bind fun n82 =>
    (asI .i64 (d77.getD 5 .bad)).bind fun n83 =>
    (asI .i64 (d77.getD 6 .bad)).bind fun n84 =>
    (asI .i64 (d77.getD 7 .bad)).bind fun n85 =>
    (asI .i64 (d77.getD 8 .bad)).bind fun n86 =>
    (asI .i64 (d77.getD 9 .bad)).bind fun n87 =>
    (asI .i64 (d77.getD 10 .bad)).bind fun n88 =>
    (asI .i64 (d77.getD 11 .bad)).bind fun n89 =>
    (asI .i64 (d77.getD 12 .bad)).bind fun n90 =>
    some ((.tuple [(.agg [(.int .i64 n78), (.int .i64 n79), (.int .i64 n80), (.int .i64 n81), (.int .i64 n82), (.int .i64 n83), (.int .i64 n84), (.int .i64 n85), (.int .i64 n86), (.int .i64 n87), (.int .i64 n88), (.int .i64 n89), (.int .i64 n90)]), (.int .i64 4)]), h74, (r68.2.2 + 11)))
    else
    ((call Y 19 [(.slice s70.1 s70.2.1 s70.2.2), (.slice x0a x0n x0c)] r68.2.1 (r68.2.2 + 8)).bind fun r91 =>
    (asB r91.1).bind fun t92 =>
    if (!t92) = true then
    ((x2).bind fun p93 =>
    (stA r91.2.1 p93.1 p93.2 (.agg [(.int .i64 0), (.int .i64 0), (.int .i64 0), (.int .i64 0), (.int .i64 0), (.int .i64 0), (.int .i64 0), (.int .i64 0), (.int .i64 0), (.int .i64 0), (.int .i64 0), (.int .i64 0), (.int .i64 0)]) 13).bind fun b94 =>
    let h95 := AHeap.put r91.2.1 p93.1 (some b94)
    (x2).bind fun p96 =>
    (ldR h95 p96.1 p96.2 13).bind fun l97 =>
    (asAgg 13 (AV.agg l97)).bind fun d98 =>
    (asI .i64 (d98.getD 0 .bad)).bind fun n99 =>
    (asI .i64 (d98.getD 1 .bad)).bind fun n100 =>
    (asI .i64 (d98.getD 2 .bad)).bind fun n101 =>
    (asI .i64 (d98.getD 3 .bad)).bind fun n102 =>
    (asI .i64 (d98.getD 4 .bad)).bind fun n103 =>
    (asI .i64 (d98.getD 5 .bad)).bind fun n104 =>
    (asI .i64 (d98.getD 6 .bad)).bind fun n105 =>
    (asI .i64 (d98.getD 7 .bad)).bind fun n106 =>
    (asI .i64 (d98.getD 8 .bad)).bind fun n107 =>
    (asI .i64 (d98.getD 9 .bad)).bind fun n108 =>
    (asI .i64 (d98.getD 10 .bad)).bind fun n109 =>
    (asI .i64 (d98.getD 11 .bad)).bind fun n110 =>
    (asI .i64 (d98.getD 12 .bad)).bind fun n111 =>
    some ((.tuple [(.agg [(.int .i64 n99), (.int .i64 n100), (.int .i64 n101), (.int .i64 n102), (.int .i64 n103), (.int .i64 n104), (.int .i64 n105), (.int .i64 n106), (.int .i64 n107), (.int .i64 n108), (.int .i64 n109), (.int .i64 n110), (.int .i64 n111)]), (.int .i64 4)]), h95, (r91.2.2 + 3)))
    else
    ((x4).bind fun p112 =>
    (ldR r91.2.1 p112.1 p112.2 13).bind fun l113 =>
    (asAgg 13 (AV.agg l113)).bind fun d114 =>
    (asI .i64 (d114.getD 0 .bad)).bind fun n115 =>
    (asI .i64 (d114.getD 1 .bad)).bind fun n116 =>
    (asI .i64 (d114.getD 2 .bad)).bind fun n117 =>
    (asI .i64 (d114.getD 3 .bad)).bind fun n118 =>
    (asI .i64 (d114.getD 4 .bad)).bind fun n119 =>
    (asI .i64 (d114.getD 5 .bad)).bind fun n120 =>
    (asI .i64 (d114.getD 6 .bad)).bind fun n121 =>
    (asI .i64 (d114.getD 7 .bad)).bind fun n122 =>
    (asI .i64 (d114.getD 8 .bad)).bind fun n123 =>
    (asI .i64 (d114.getD 9 .bad)).bind fun n124 =>
    (asI .i64 (d114.getD 10 .bad)).bind fun n125 =>
    (asI .i64 (d114.getD 11 .bad)).bind fun n126 =>
    (asI .i64 (d114.getD 12 .bad)).bind fun n127 =>
    (x2).bind fun p128 =>
    (stA r91.2.1 p128.1 p128.2 (.agg [(.int .i64 n115), (.int .i64 n116), (.int .i64 n117), (.int .i64 n118), (.int .i64 n119), (.int .i64 n120), (.int .i64 n121), (.int .i64 n122), (.int .i64 n123), (.int .i64 n124), (.int .i64 n125), (.int .i64 n126), (.int .i64 n127)]) 13).bind fun b129 =>
    let h130 := AHeap.put r91.2.1 p128.1 (some b129)
    (x2).bind fun p131 =>
    (ldR h130 p131.1 p131.2 13).bind fun l132 =>
    (asAgg 13 (AV.agg l132)).bind fun d133 =>
    (asI .i64 (d133.getD 0 .bad)).bind fun n134 =>
    (asI .i64 (d133.getD 1 .bad)).bind fun n135 =>
    (asI .i64 (d133.getD 2 .bad)).bind fun n136 =>
    (asI .i64 (d133.getD 3 .bad)).bind fun n137 =>
    (asI .i64 (d133.getD 4 .bad)).bind fun n138 =>
    (asI .i64 (d133.getD 5 .bad)).bind fun n139 =>
    (asI .i64 (d133.getD 6 .bad)).bind fun n140 =>
    (asI .i64 (d133.getD 7 .bad)).bind fun n141 =>
    (asI .i64 (d133.getD 8 .bad)).bind fun n142 =>
    (asI .i64 (d133.getD 9 .bad)).bind fun n143 =>
    (asI .i64 (d133.getD 10 .bad)).bind fun n144 =>
    (asI .i64 (d133.getD 11 .bad)).bind fun n145 =>
    (asI .i64 (d133.getD 12 .bad)).bind fun n146 =>
    some ((.tuple [(.agg [(.int .i64 n134), (.int .i64 n135), (.int .i64 n136), (.int .i64 n137), (.int .i64 n138), (.int .i64 n139), (.int .i64 n140), (.int .i64 n141), (.int .i64 n142), (.int .i64 n143), (.int .i64 n144), (.int .i64 n145), (.int .i64 n146)]), (.int .i64 0)]), h130, (r91.2.2 + 3)))))) := F9_L3_eq' go1 call Y lf n0 x0a x0n x0c x2 x4 x5 x6 x42 x43 h nx

theorem F9_L3_zero (call : YldF → CallF) (Y : YldF) (lf : Nat) (x0a : Option (Nat × Nat)) (x0n : Nat) (x0c : Option Nat) (x2 : Option (Nat × Nat)) (x4 : Option (Nat × Nat)) (x5 : Option (Nat × Nat)) (x6 : Option (Nat × Nat)) (x42 : List AV) (x43 : Int) (h : AHeap) (nx : Nat) : F9_L3 call Y lf 0 x0a x0n x0c x2 x4 x5 x6 x42 x43 h nx = none := by kernel_rfl

theorem F9_eq' (J : StepF (AV × AHeap × Nat) → StepF (AV × AHeap × Nat)) (n : Nat) (Y : YldF) (x0a : Option (Nat × Nat)) (x0n : Nat) (x0c : Option Nat) (h : AHeap) (nx : Nat) : rootJ J Try.prog keepT (callP Try.prog keepT n) Y n 9 [(.slice x0a x0n x0c)] h nx =
    let h1 := AHeap.put h nx (some ⟨[(.int .i64 0), (.int .i64 0), (.int .i64 0), (.int .i64 0), (.int .i64 0), (.int .i64 0), (.int .i64 0), (.int .i64 0), (.int .i64 0), (.int .i64 0), (.int .i64 0), (.int .i64 0), (.int .i64 0)], 13, true⟩)
    if ((((x0n : Nat) : Int) : Int) != 128) = true then
    ((stA h1 nx 0 (.agg [(.int .i64 0), (.int .i64 0), (.int .i64 0), (.int .i64 0), (.int .i64 0), (.int .i64 0), (.int .i64 0), (.int .i64 0), (.int .i64 0), (.int .i64 0), (.int .i64 0), (.int .i64 0), (.int .i64 0)]) 13).bind fun b2 =>
    let h3 := AHeap.put h1 nx (some b2)
    (ldR h3 nx 0 13).bind fun l4 =>
    (asAgg 13 (AV.agg l4)).bind fun d5 =>
    (asI .i64 (d5.getD 0 .bad)).bind fun n6 =>
    (asI .i64 (d5.getD 1 .bad)).bind fun n7 =>
    (asI .i64 (d5.getD 2 .bad)).bind fun n8 =>
    (asI .i64 (d5.getD 3 .bad)).bind fun n9 =>
    (asI .i64 (d5.getD 4 .bad)).bind fun n10 =>
    (asI .i64 (d5.getD 5 .bad)).bind fun n11 =>
    (asI .i64 (d5.getD 6 .bad)).bind fun n12 =>
    (asI .i64 (d5.getD 7 .bad)).bind fun n13 =>
    (asI .i64 (d5.getD 8 .bad)).bind fun n14 =>
    (asI .i64 (d5.getD 9 .bad)).bind fun n15 =>
    (asI .i64 (d5.getD 10 .bad)).bind fun n16 =>
    (asI .i64 (d5.getD 11 .bad)).bind fun n17 =>
    (asI .i64 (d5.getD 12 .bad)).bind fun n18 =>
    some ((.tuple [(.agg [(.int .i64 n6), (.int .i64 n7), (.int .i64 n8), (.int .i64 n9), (.int .i64 n10), (.int .i64 n11), (.int .i64 n12), (.int .i64 n13), (.int .i64 n14), (.int .i64 n15), (.int .i64 n16), (.int .i64 n17), (.int .i64 n18)]), (.int .i64 1)]), h3, (nx + 8)))
    else
    (let h19 := AHeap.put h1 (nx + 5) (some ⟨[(.int .i64 0), (.int .i64 0), (.int .i64 0), (.int .i64 0), (.int .i64 0), (.int .i64 0), (.int .i64 0), (.int .i64 0), (.int .i64 0), (.int .i64 0), (.int .i64 0), (.int .i64 0), (.int .i64 0)], 13, true⟩)
    let h20 := AHeap.put h19 (nx + 6) (some ⟨[(.int .i64 0), (.int .i64 0), (.int .i64 0), (.int .i64 0)], 4, true⟩)
    let h21 := AHeap.put h20 (nx + 8) (some ⟨[(.slice none 0 none)], 1, true⟩)
    (stA h21 (nx + 8) 0 (.slice x0a x0n x0c) 1).bind fun b22 =>
    let h23 := AHeap.put h21 (nx + 8) (some b22)
    ((callP Try.prog keepT n) Y 14 [(.ptr (some ((nx + 5), 0)))] h23 (nx + 12)).bind fun r24 =>
    (asRow r24.1).bind fun d25 =>
    F9_L1' J J (callP Try.prog keepT n) Y n n x0a x0n x0c (some (nx, 0)) (some ((nx + 5), 0)) (some ((nx + 6), 0)) (some ((nx + 8), 0)) d25 0 r24.2.1 r24.2.2) := by kernel_rfl

/-- quickset/label.Decode -/
theorem F9_eq (n : Nat) (Y : YldF) (x0a : Option (Nat × Nat)) (x0n : Nat) (x0c : Option Nat) (h : AHeap) (nx : Nat) : callP Try.prog keepT (n + 1) Y 9 [(.slice x0a x0n x0c)] h nx =
    let h1 := AHeap.put h nx (some ⟨[(.int .i64 0), (.int .i64 0), (.int .i64 0), (.int .i64 0), (.int .i64 0), (.int .i64 0), (.int .i64 0), (.int .i64 0), (.int .i64 0), (.int .i64 0), (.int .i64 0), (.int .i64 0), (.int .i64 0)], 13, true⟩)
    if ((((x0n : Nat) : Int) : Int) != 128) = true then
    ((stA h1 nx 0 (.agg [(.int .i64 0), (.int .i64 0), (.int .i64 0), (.int .i64 0), (.int .i64 0), (.int .i64 0), (.int .i64 0), (.int .i64 0), (.int .i64 0), (.int .i64 0), (.int .i64 0), (.int .i64 0), (.int .i64 0)]) 13).bind fun b2 =>
    let h3 := AHeap.put h1 nx (some b2)
    (ldR h3 nx 0 13).bind fun l4 =>
    (asAgg 13 (AV.agg l4)).bind fun d5 =>
    (asI .i64 (d5.getD 0 .bad)).bind fun n6 =>
    (asI .i64 (d5.getD 1 .bad)).bind fun n7 =>
    (asI .i64 (d5.getD 2 .bad)).bind fun n8 =>
    (asI .i64 (d5.getD 3 .bad)).bind fun n9 =>
    (asI .i64 (d5.getD 4 .bad)).bind fun n10 =>
    (asI .i64 (d5.getD 5 .bad)).bind fun n11 =>
    (asI .i64 (d5.getD 6 .bad)).bind fun n12 =>
    (asI .i64 (d5.getD 7 .bad)).bind fun n13 =>
    (asI .i64 (d5.getD 8 .bad)).bind fun n14 =>
    (asI .i64 (d5.getD 9 .bad)).bind fun n15 =>
    (asI .i64 (d5.getD 10 .bad)).bind fun n16 =>
    (asI .i64 (d5.getD 11 .bad)).bind fun n17 =>
    (asI .i64 (d5.getD 12 .bad)).bind fun n18 =>
    some ((.tuple [(.agg [(.int .i64 n6), (.int .i64 n7), (.int .i64 n8), (.int .i64 n9), (.int .i64 n10), (.int .i64 n11), (.int .i64 n12), (.int .i64 n13), (.int .i64 n14), (.int .i64 n15), (.int .i64 n16), (.int .i64 n17), (.int .i64 n18)]), (.int .i64 1)]), h3, (nx + 8)))
    else
    (let h19 := AHeap.put h1 (nx + 5) (some ⟨[(.int .i64 0), (.int .i64 0), (.int .i64 0), (.int .i64 0), (.int .i64 0), (.int .i64 0), (.int .i64 0), (.int .i64 0), (.int .i64 0), (.int .i64 0), (.int .i64 0), (.int .i64 0), (.int .i64 0)], 13, true⟩)
    let h20 := AHeap.put h19 (nx + 6) (some ⟨[(.int .i64 0), (.int .i64 0), (.int .i64 0), (.int .i64 0)], 4, true⟩)
    let h21 := AHeap.put h20 (nx + 8) (some ⟨[(.slice none 0 none)], 1, true⟩)
    (stA h21 (nx + 8) 0 (.slice x0a x0n x0c) 1).bind fun b22 =>
    let h23 := AHeap.put h21 (nx + 8) (some b22)
    ((callP Try.prog keepT n) Y 14 [(.ptr (some ((nx + 5), 0)))] h23 (nx + 12)).bind fun r24 =>
    (asRow r24.1).bind fun d25 =>
    F9_L1 (callP Try.prog keepT n) Y n n x0a x0n x0c (some (nx, 0)) (some ((nx + 5), 0)) (some ((nx + 6), 0)) (some ((nx + 8), 0)) d25 0 r24.2.1 r24.2.2) := F9_eq' go1 n Y x0a x0n x0c h nx

noncomputable def c10 : Code := (Try.f10.body).getD .skip

noncomputable def r10 : List ResultVar := Try.f10.results.toList

theorem F10_eq' (J : StepF (AV × AHeap × Nat) → StepF (AV × AHeap × Nat)) (n : Nat) (Y : YldF) (x0_0 : Int) (x0_1 : Int) (x0_2 : Int) (x0_3 : Int) (x0_4 : Int) (x0_5 : Int) (x0_6 : Int) (x0_7 : Int) (x0_8 : Int) (x0_9 : Int) (x0_10 : Int) (x0_11 : Int) (x0_12 : Int) (h : AHeap) (nx : Nat) : rootJ J Try.prog keepT (callP Try.prog keepT n) Y n 10 [(.agg [(.int .i64 x0_0), (.int .i64 x0_1), (.int .i64 x0_2), (.int .i64 x0_3), (.int .i64 x0_4), (.int .i64 x0_5), (.int .i64 x0_6), (.int .i64 x0_7), (.int .i64 x0_8), (.int .i64 x0_9), (.int .i64 x0_10), (.int .i64 x0_11), (.int .i64 x0_12)])] h nx =
    let h1 := AHeap.put h nx (some ⟨[(.int .i64 x0_0), (.int .i64 x0_1), (.int .i64 x0_2), (.int .i64 x0_3), (.int .i64 x0_4), (.int .i64 x0_5), (.int .i64 x0_6), (.int .i64 x0_7), (.int .i64 x0_8), (.int .i64 x0_9), (.int .i64 x0_10), (.int .i64 x0_11), (.int .i64 x0_12)], 13, true⟩)
    (ldR h1 nx 5 8).bind fun l2 =>
    (asAgg 8 (AV.agg l2)).bind fun d3 =>
    (asI .i64 (d3.getD 0 .bad)).bind fun n4 =>
    (asI .i64 (d3.getD 1 .bad)).bind fun n5 =>
    (asI .i64 (d3.getD 2 .bad)).bind fun n6 =>
    (asI .i64 (d3.getD 3 .bad)).bind fun n7 =>
    (asI .i64 (d3.getD 4 .bad)).bind fun n8 =>
    (asI .i64 (d3.getD 5 .bad)).bind fun n9 =>
    (asI .i64 (d3.getD 6 .bad)).bind fun n10 =>
    (asI .i64 (d3.getD 7 .bad)).bind fun n11 =>
    let h12 := AHeap.put h1 (nx + 4) (some ⟨[(.int .i64 0), (.int .i64 0), (.int .i64 0), (.int .i64 0), (.int .i64 0), (.int .i64 0), (.int .i64 0), (.int .i64 0)], 8, true⟩)
    (stA h12 (nx + 4) 0 (.agg [(.int .i64 n4), (.int .i64 n5), (.int .i64 n6), (.int .i64 n7), (.int .i64 n8), (.int .i64 n9), (.int .i64 n10), (.int .i64 n11)]) 8).bind fun b13 =>
    let h14 := AHeap.put h12 (nx + 4) (some b13)
    (ldA h14 nx 0).bind fun v15 =>
    (asI .i64 v15).bind fun n16 =>
    ((callP Try.prog keepT n) Y 20 [(.int .i64 n16), (.int .i64 1), (.int .i64 1048576)] h14 (nx + 62)).bind fun r17 =>
    (asB r17.1).bind fun t18 =>
    if t18 = true then
    ((ldA r17.2.1 nx 2).bind fun v19 =>
    (asI .i64 v19).bind fun n20 =>
    ((callP Try.prog keepT n) Y 20 [(.int .i64 n20), (.int .i64 2), (.int .i64 8)] r17.2.1 r17.2.2).bind fun r21 =>
    (asB r21.1).bind fun t22 =>
    if t22 = true then
    ((ldA r21.2.1 nx 1).bind fun v23 =>
    (asI .i64 v23).bind fun n24 =>
    (ldA r21.2.1 nx 2).bind fun v25 =>
    (asI .i64 v25).bind fun n26 =>
    ((callP Try.prog keepT n) Y 20 [(.int .i64 n24), (.int .i64 0), (.int .i64 (wrapA .i64 (n26 - 1)))] r21.2.1 r21.2.2).bind fun r27 =>
    (asB r27.1).bind fun t28 =>
    if t28 = true then
    ((ldA r27.2.1 nx 3).bind fun v29 =>
    (asI .i64 v29).bind fun n30 =>
    (ldA r27.2.1 nx 2).bind fun v31 =>
    (asI .i64 v31).bind fun n32 =>
    ((callP Try.prog keepT n) Y 20 [(.int .i64 n30), (.int .i64 1), (.int .i64 (if (wrapA .i64 (n32 - 1)) < 3 then (wrapA .i64 (n32 - 1)) else 3))] r27.2.1 r27.2.2).bind fun r33 =>
    (asB r33.1).bind fun t34 =>
    if t34 = true then
    ((ldA r33.2.1 nx 4).bind fun v35 =>
    (asI .i64 v35).bind fun n36 =>
    ((callP Try.prog keepT n) Y 20 [(.int .i64 n36), (.int .i64 0), (.int .i64 1048576)] r33.2.1 r33.2.2).bind fun r37 =>
    (asB r37.1).bind fun t38 =>
    if t38 = true then
    ((ldA r37.2.1 (nx + 4) 0).bind fun v39 =>
    (asI .i64 v39).bind fun n40 =>
    ((callP Try.prog keepT n) Y 20 [(.int .i64 n40), (.int .i64 0), (.int .i64 65536)] r37.2.1 r37.2.2).bind fun r41 =>
    (asB r41.1).bind fun t42 =>
    if t42 = true then
    ((ldA r41.2.1 (nx + 4) 1).bind fun v43 =>
    (asI .i64 v43).bind fun n44 =>
    ((callP Try.prog keepT n) Y 20 [(.int .i64 n44), (.int .i64 0), (.int .i64 32)] r41.2.1 r41.2.2).bind fun r45 =>
    (asB r45.1).bind fun t46 =>
    if t46 = true then
    ((ldA r45.2.1 (nx + 4) 2).bind fun v47 =>
    (asI .i64 v47).bind fun n48 =>
    (ldA r45.2.1 (nx + 4) 1).bind fun v49 =>
    (asI .i64 v49).bind fun n50 =>
    ((callP Try.prog keepT n) Y 20 [(.int .i64 n48), (.int .i64 0), (.int .i64 (wrapA .i64 (n50 * 128)))] r45.2.1 r45.2.2).bind fun r51 =>
    (asB r51.1).bind fun t52 =>
    if t52 = true then
    ((ldA r51.2.1 (nx + 4) 3).bind fun v53 =>
    (asI .i64 v53).bind fun n54 =>
    (ldA r51.2.1 nx 4).bind fun v55 =>
    (asI .i64 v55).bind fun n56 =>
    ((callP Try.prog keepT n) Y 20 [(.int .i64 n54), (.int .i64 0), (.int .i64 n56)] r51.2.1 r51.2.2).bind fun r57 =>
    (asB r57.1).bind fun t58 =>
    some ((.bool t58), r57.2.1, r57.2.2))
    else
    (some ((.bool false), r51.2.1, r51.2.2)))
    else
    (some ((.bool false), r45.2.1, r45.2.2)))
    else
    (some ((.bool false), r41.2.1, r41.2.2)))
    else
    (some ((.bool false), r37.2.1, r37.2.2)))
    else
    (some ((.bool false), r33.2.1, r33.2.2)))
    else
    (some ((.bool false), r27.2.1, r27.2.2)))
    else
    (some ((.bool false), r21.2.1, r21.2.2)))
    else
    (some ((.bool false), r17.2.1, r17.2.2)) := by kernel_rfl

/-- quickset/label.May -/
theorem F10_eq (n : Nat) (Y : YldF) (x0_0 : Int) (x0_1 : Int) (x0_2 : Int) (x0_3 : Int) (x0_4 : Int) (x0_5 : Int) (x0_6 : Int) (x0_7 : Int) (x0_8 : Int) (x0_9 : Int) (x0_10 : Int) (x0_11 : Int) (x0_12 : Int) (h : AHeap) (nx : Nat) : callP Try.prog keepT (n + 1) Y 10 [(.agg [(.int .i64 x0_0), (.int .i64 x0_1), (.int .i64 x0_2), (.int .i64 x0_3), (.int .i64 x0_4), (.int .i64 x0_5), (.int .i64 x0_6), (.int .i64 x0_7), (.int .i64 x0_8), (.int .i64 x0_9), (.int .i64 x0_10), (.int .i64 x0_11), (.int .i64 x0_12)])] h nx =
    let h1 := AHeap.put h nx (some ⟨[(.int .i64 x0_0), (.int .i64 x0_1), (.int .i64 x0_2), (.int .i64 x0_3), (.int .i64 x0_4), (.int .i64 x0_5), (.int .i64 x0_6), (.int .i64 x0_7), (.int .i64 x0_8), (.int .i64 x0_9), (.int .i64 x0_10), (.int .i64 x0_11), (.int .i64 x0_12)], 13, true⟩)
    (ldR h1 nx 5 8).bind fun l2 =>
    (asAgg 8 (AV.agg l2)).bind fun d3 =>
    (asI .i64 (d3.getD 0 .bad)).bind fun n4 =>
    (asI .i64 (d3.getD 1 .bad)).bind fun n5 =>
    (asI .i64 (d3.getD 2 .bad)).bind fun n6 =>
    (asI .i64 (d3.getD 3 .bad)).bind fun n7 =>
    (asI .i64 (d3.getD 4 .bad)).bind fun n8 =>
    (asI .i64 (d3.getD 5 .bad)).bind fun n9 =>
    (asI .i64 (d3.getD 6 .bad)).bind fun n10 =>
    (asI .i64 (d3.getD 7 .bad)).bind fun n11 =>
    let h12 := AHeap.put h1 (nx + 4) (some ⟨[(.int .i64 0), (.int .i64 0), (.int .i64 0), (.int .i64 0), (.int .i64 0), (.int .i64 0), (.int .i64 0), (.int .i64 0)], 8, true⟩)
    (stA h12 (nx + 4) 0 (.agg [(.int .i64 n4), (.int .i64 n5), (.int .i64 n6), (.int .i64 n7), (.int .i64 n8), (.int .i64 n9), (.int .i64 n10), (.int .i64 n11)]) 8).bind fun b13 =>
    let h14 := AHeap.put h12 (nx + 4) (some b13)
    (ldA h14 nx 0).bind fun v15 =>
    (asI .i64 v15).bind fun n16 =>
    ((callP Try.prog keepT n) Y 20 [(.int .i64 n16), (.int .i64 1), (.int .i64 1048576)] h14 (nx + 62)).bind fun r17 =>
    (asB r17.1).bind fun t18 =>
    if t18 = true then
    ((ldA r17.2.1 nx 2).bind fun v19 =>
    (asI .i64 v19).bind fun n20 =>
    ((callP Try.prog keepT n) Y 20 [(.int .i64 n20), (.int .i64 2), (.int .i64 8)] r17.2.1 r17.2.2).bind fun r21 =>
    (asB r21.1).bind fun t22 =>
    if t22 = true then
    ((ldA r21.2.1 nx 1).bind fun v23 =>
    (asI .i64 v23).bind fun n24 =>
    (ldA r21.2.1 nx 2).bind fun v25 =>
    (asI .i64 v25).bind fun n26 =>
    ((callP Try.prog keepT n) Y 20 [(.int .i64 n24), (.int .i64 0), (.int .i64 (wrapA .i64 (n26 - 1)))] r21.2.1 r21.2.2).bind fun r27 =>
    (asB r27.1).bind fun t28 =>
    if t28 = true then
    ((ldA r27.2.1 nx 3).bind fun v29 =>
    (asI .i64 v29).bind fun n30 =>
    (ldA r27.2.1 nx 2).bind fun v31 =>
    (asI .i64 v31).bind fun n32 =>
    ((callP Try.prog keepT n) Y 20 [(.int .i64 n30), (.int .i64 1), (.int .i64 (if (wrapA .i64 (n32 - 1)) < 3 then (wrapA .i64 (n32 - 1)) else 3))] r27.2.1 r27.2.2).bind fun r33 =>
    (asB r33.1).bind fun t34 =>
    if t34 = true then
    ((ldA r33.2.1 nx 4).bind fun v35 =>
    (asI .i64 v35).bind fun n36 =>
    ((callP Try.prog keepT n) Y 20 [(.int .i64 n36), (.int .i64 0), (.int .i64 1048576)] r33.2.1 r33.2.2).bind fun r37 =>
    (asB r37.1).bind fun t38 =>
    if t38 = true then
    ((ldA r37.2.1 (nx + 4) 0).bind fun v39 =>
    (asI .i64 v39).bind fun n40 =>
    ((callP Try.prog keepT n) Y 20 [(.int .i64 n40), (.int .i64 0), (.int .i64 65536)] r37.2.1 r37.2.2).bind fun r41 =>
    (asB r41.1).bind fun t42 =>
    if t42 = true then
    ((ldA r41.2.1 (nx + 4) 1).bind fun v43 =>
    (asI .i64 v43).bind fun n44 =>
    ((callP Try.prog keepT n) Y 20 [(.int .i64 n44), (.int .i64 0), (.int .i64 32)] r41.2.1 r41.2.2).bind fun r45 =>
    (asB r45.1).bind fun t46 =>
    if t46 = true then
    ((ldA r45.2.1 (nx + 4) 2).bind fun v47 =>
    (asI .i64 v47).bind fun n48 =>
    (ldA r45.2.1 (nx + 4) 1).bind fun v49 =>
    (asI .i64 v49).bind fun n50 =>
    ((callP Try.prog keepT n) Y 20 [(.int .i64 n48), (.int .i64 0), (.int .i64 (wrapA .i64 (n50 * 128)))] r45.2.1 r45.2.2).bind fun r51 =>
    (asB r51.1).bind fun t52 =>
    if t52 = true then
    ((ldA r51.2.1 (nx + 4) 3).bind fun v53 =>
    (asI .i64 v53).bind fun n54 =>
    (ldA r51.2.1 nx 4).bind fun v55 =>
    (asI .i64 v55).bind fun n56 =>
    ((callP Try.prog keepT n) Y 20 [(.int .i64 n54), (.int .i64 0), (.int .i64 n56)] r51.2.1 r51.2.2).bind fun r57 =>
    (asB r57.1).bind fun t58 =>
    some ((.bool t58), r57.2.1, r57.2.2))
    else
    (some ((.bool false), r51.2.1, r51.2.2)))
    else
    (some ((.bool false), r45.2.1, r45.2.2)))
    else
    (some ((.bool false), r41.2.1, r41.2.2)))
    else
    (some ((.bool false), r37.2.1, r37.2.2)))
    else
    (some ((.bool false), r33.2.1, r33.2.2)))
    else
    (some ((.bool false), r27.2.1, r27.2.2)))
    else
    (some ((.bool false), r21.2.1, r21.2.2)))
    else
    (some ((.bool false), r17.2.1, r17.2.2)) := F10_eq' go1 n Y x0_0 x0_1 x0_2 x0_3 x0_4 x0_5 x0_6 x0_7 x0_8 x0_9 x0_10 x0_11 x0_12 h nx

noncomputable def c11 : Code := (Try.f11.body).getD .skip

noncomputable def r11 : List ResultVar := Try.f11.results.toList

noncomputable def F11_L1' (W J : StepF (AV × AHeap × Nat) → StepF (AV × AHeap × Nat)) (call : YldF → CallF) (Y : YldF) (lf : Nat) (n0 : Nat) (x0a : Option (Nat × Nat)) (x0n : Nat) (x0c : Option Nat) (x1a : Option (Nat × Nat)) (x1n : Nat) (x1c : Option Nat) (x5 : Int) (h : AHeap) (nx : Nat) : Option (AV × AHeap × Nat) :=
  goK W J drawK (machOf Try.prog) call Y (keepT 11) lf c11 [1, 1, 0, 1, 0, 9] [n0] (retK (machOf Try.prog) ⟨c11, 26, r11, keepT 11⟩) ⟨26, mkL [(0, (.slice x0a x0n x0c)), (1, (.slice x1a x1n x1c)), (5, (.int .i64 x5))]⟩ h nx

noncomputable def F11_L1 (call : YldF → CallF) (Y : YldF) (lf : Nat) (n0 : Nat) (x0a : Option (Nat × Nat)) (x0n : Nat) (x0c : Option Nat) (x1a : Option (Nat × Nat)) (x1n : Nat) (x1c : Option Nat) (x5 : Int) (h : AHeap) (nx : Nat) : Option (AV × AHeap × Nat) := F11_L1' go1 go1 call Y lf n0 x0a x0n x0c x1a x1n x1c x5 h nx

theorem F11_L1_eq' (J : StepF (AV × AHeap × Nat) → StepF (AV × AHeap × Nat)) (call : YldF → CallF) (Y : YldF) (lf : Nat) (n0 : Nat) (x0a : Option (Nat × Nat)) (x0n : Nat) (x0c : Option Nat) (x1a : Option (Nat × Nat)) (x1n : Nat) (x1c : Option Nat) (x5 : Int) (h : AHeap) (nx : Nat) : F11_L1' go1 J call Y lf (n0 + 1) x0a x0n x0c x1a x1n x1c x5 h nx =
    if (decide ((x5 : Int) < ((x0n : Nat) : Int))) = true then
    ((x0a).bind fun p1 =>
    if 0 ≤ (x5 : Int) ∧ x5 < ((x0n : Nat) : Int) then
    ((ldA h p1.1 (p1.2 + Int.toNat x5 * 1)).bind fun v2 =>
    (asI .u8 v2).bind fun n3 =>
    (x1a).bind fun p4 =>
    if 0 ≤ (x5 : Int) ∧ x5 < ((x1n : Nat) : Int) then
    ((ldA h p4.1 (p4.2 + Int.toNat x5 * 1)).bind fun v5 =>
    (asI .u8 v5).bind fun n6 =>
    if ((n3 : Int) != n6) = true then
    (some ((.bool false), h, (nx + 14)))
    else
    (F11_L1' J J call Y lf n0 x0a x0n x0c x1a x1n x1c (wrapA .i64 (x5 + 1)) h (nx + 16)))
    else none)
    else none)
    else
    (some ((.bool true), h, (nx + 5))) := by kernel_rfl

theorem F11_L1_eq (call : YldF → CallF) (Y : YldF) (lf : Nat) (n0 : Nat) (x0a : Option (Nat × Nat)) (x0n : Nat) (x0c : Option Nat) (x1a : Option (Nat × Nat)) (x1n : Nat) (x1c : Option Nat) (x5 : Int) (h : AHeap) (nx : Nat) : F11_L1 call Y lf (n0 + 1) x0a x0n x0c x1a x1n x1c x5 h nx =
    if (decide ((x5 : Int) < ((x0n : Nat) : Int))) = true then
    ((x0a).bind fun p1 =>
    if 0 ≤ (x5 : Int) ∧ x5 < ((x0n : Nat) : Int) then
    ((ldA h p1.1 (p1.2 + Int.toNat x5 * 1)).bind fun v2 =>
    (asI .u8 v2).bind fun n3 =>
    (x1a).bind fun p4 =>
    if 0 ≤ (x5 : Int) ∧ x5 < ((x1n : Nat) : Int) then
    ((ldA h p4.1 (p4.2 + Int.toNat x5 * 1)).bind fun v5 =>
    (asI .u8 v5).bind fun n6 =>
    if ((n3 : Int) != n6) = true then
    (some ((.bool false), h, (nx + 14)))
    else
    (F11_L1 call Y lf n0 x0a x0n x0c x1a x1n x1c (wrapA .i64 (x5 + 1)) h (nx + 16)))
    else none)
    else none)
    else
    (some ((.bool true), h, (nx + 5))) := F11_L1_eq' go1 call Y lf n0 x0a x0n x0c x1a x1n x1c x5 h nx

theorem F11_L1_zero (call : YldF → CallF) (Y : YldF) (lf : Nat) (x0a : Option (Nat × Nat)) (x0n : Nat) (x0c : Option Nat) (x1a : Option (Nat × Nat)) (x1n : Nat) (x1c : Option Nat) (x5 : Int) (h : AHeap) (nx : Nat) : F11_L1 call Y lf 0 x0a x0n x0c x1a x1n x1c x5 h nx = none := by kernel_rfl

theorem F11_eq' (J : StepF (AV × AHeap × Nat) → StepF (AV × AHeap × Nat)) (n : Nat) (Y : YldF) (x0a : Option (Nat × Nat)) (x0n : Nat) (x0c : Option Nat) (x1a : Option (Nat × Nat)) (x1n : Nat) (x1c : Option Nat) (h : AHeap) (nx : Nat) : rootJ J Try.prog keepT (callP Try.prog keepT n) Y n 11 [(.slice x0a x0n x0c), (.slice x1a x1n x1c)] h nx =
    if ((((x0n : Nat) : Int) : Int) != ((x1n : Nat) : Int)) = true then
    (some ((.bool false), h, (nx + 7)))
    else
    (F11_L1' J J (callP Try.prog keepT n) Y n n x0a x0n x0c x1a x1n x1c 0 h (nx + 7)) := by kernel_rfl

/-- quickset/quicksetkeep.sameBytes -/
theorem F11_eq (n : Nat) (Y : YldF) (x0a : Option (Nat × Nat)) (x0n : Nat) (x0c : Option Nat) (x1a : Option (Nat × Nat)) (x1n : Nat) (x1c : Option Nat) (h : AHeap) (nx : Nat) : callP Try.prog keepT (n + 1) Y 11 [(.slice x0a x0n x0c), (.slice x1a x1n x1c)] h nx =
    if ((((x0n : Nat) : Int) : Int) != ((x1n : Nat) : Int)) = true then
    (some ((.bool false), h, (nx + 7)))
    else
    (F11_L1 (callP Try.prog keepT n) Y n n x0a x0n x0c x1a x1n x1c 0 h (nx + 7)) := F11_eq' go1 n Y x0a x0n x0c x1a x1n x1c h nx

noncomputable def c12 : Code := (Try.f12.body).getD .skip

noncomputable def r12 : List ResultVar := Try.f12.results.toList

theorem F12_eq' (J : StepF (AV × AHeap × Nat) → StepF (AV × AHeap × Nat)) (n : Nat) (Y : YldF) (x0 : Int) (x1 : Int) (h : AHeap) (nx : Nat) : rootJ J Try.prog keepT (callP Try.prog keepT n) Y n 12 [(.int .i64 x0), (.int .i64 x1)] h nx =
    if (x1 : Int) = 0 then none else
    (if (decide (((Int.tmod x0 x1) : Int) < 0)) = true then
    (some ((.int .i64 (wrapA .i64 ((Int.tmod x0 x1) + x1))), h, (nx + 11)))
    else
    (some ((.int .i64 (Int.tmod x0 x1)), h, (nx + 9)))) := by kernel_rfl

/-- quickset/quicksetkeep.Picked -/
theorem F12_eq (n : Nat) (Y : YldF) (x0 : Int) (x1 : Int) (h : AHeap) (nx : Nat) : callP Try.prog keepT (n + 1) Y 12 [(.int .i64 x0), (.int .i64 x1)] h nx =
    if (x1 : Int) = 0 then none else
    (if (decide (((Int.tmod x0 x1) : Int) < 0)) = true then
    (some ((.int .i64 (wrapA .i64 ((Int.tmod x0 x1) + x1))), h, (nx + 11)))
    else
    (some ((.int .i64 (Int.tmod x0 x1)), h, (nx + 9)))) := F12_eq' go1 n Y x0 x1 h nx

noncomputable def c13 : Code := (Try.f13.body).getD .skip

noncomputable def r13 : List ResultVar := Try.f13.results.toList

noncomputable def F13_L1' (W J : StepF (AV × AHeap × Nat) → StepF (AV × AHeap × Nat)) (call : YldF → CallF) (Y : YldF) (lf : Nat) (n0 : Nat) (x2 : Option (Nat × Nat)) (x5 : Option (Nat × Nat)) (x6 : Int) (x12a : Option (Nat × Nat)) (x12n : Nat) (x12c : Option Nat) (x13 : Int) (x14 : Int) (h : AHeap) (nx : Nat) : Option (AV × AHeap × Nat) :=
  goK W J drawK (machOf Try.prog) call Y (keepT 13) lf c13 [1, 1, 0, 1, 0, 9] [n0] (retK (machOf Try.prog) ⟨c13, 41, r13, keepT 13⟩) ⟨41, mkL [(2, (.ptr x2)), (5, (.ptr x5)), (6, (.int .i64 x6)), (12, (.slice x12a x12n x12c)), (13, (.int .i64 x13)), (14, (.int .i64 x14))]⟩ h nx

noncomputable def F13_L1 (call : YldF → CallF) (Y : YldF) (lf : Nat) (n0 : Nat) (x2 : Option (Nat × Nat)) (x5 : Option (Nat × Nat)) (x6 : Int) (x12a : Option (Nat × Nat)) (x12n : Nat) (x12c : Option Nat) (x13 : Int) (x14 : Int) (h : AHeap) (nx : Nat) : Option (AV × AHeap × Nat) := F13_L1' go1 go1 call Y lf n0 x2 x5 x6 x12a x12n x12c x13 x14 h nx

theorem F13_L1_eq' (J : StepF (AV × AHeap × Nat) → StepF (AV × AHeap × Nat)) (call : YldF → CallF) (Y : YldF) (lf : Nat) (n0 : Nat) (x2 : Option (Nat × Nat)) (x5 : Option (Nat × Nat)) (x6 : Int) (x12a : Option (Nat × Nat)) (x12n : Nat) (x12c : Option Nat) (x13 : Int) (x14 : Int) (h : AHeap) (nx : Nat) : F13_L1' go1 J call Y lf (n0 + 1) x2 x5 x6 x12a x12n x12c x13 x14 h nx =
    if (decide ((x14 : Int) < x13)) = true then
    ((x12a).bind fun p1 =>
    if 0 ≤ (x14 : Int) ∧ x14 < ((x12n : Nat) : Int) then
    ((ldA h p1.1 (p1.2 + Int.toNat x14 * 1)).bind fun v2 =>
    (asSl v2).bind fun s3 =>
    (call Y 9 [(.slice s3.1 s3.2.1 s3.2.2)] h (nx + 14)).bind fun r4 =>
    (asTup 2 r4.1).bind fun d5 =>
    (asAgg 13 (d5.getD 0 .bad)).bind fun d6 =>
    (asI .i64 (d6.getD 0 .bad)).bind fun n7 =>
    (asI .i64 (d6.getD 1 .bad)).bind fun n8 =>
    (asI .i64 (d6.getD 2 .bad)).bind fun n9 =>
    (asI .i64 (d6.getD 3 .bad)).bind fun n10 =>
    (asI .i64 (d6.getD 4 .bad)).bind fun n11 =>
    (asI .i64 (d6.getD 5 .bad)).bind fun n12 =>
    (asI .i64 (d6.getD 6 .bad)).bind fun n13 =>
    (asI .i64 (d6.getD 7 .bad)).bind fun n14 =>
    (asI .i64 (d6.getD 8 .bad)).bind fun n15 =>
    (asI .i64 (d6.getD 9 .bad)).bind fun n16 =>
    (asI .i64 (d6.getD 10 .bad)).bind fun n17 =>
    (asI .i64 (d6.getD 11 .bad)).bind fun n18 =>
    (asI .i64 (d6.getD 12 .bad)).bind fun n19 =>
    (asI .i64 (d5.getD 1 .bad)).bind fun n20 =>
    let h21 := AHeap.put r4.2.1 (nx + 11) (some ⟨[(.int .i64 0), (.int .i64 0), (.int .i64 0), (.int .i64 0), (.int .i64 0), (.int .i64 0), (.int .i64 0), (.int .i64 0), (.int .i64 0), (.int .i64 0), (.int .i64 0), (.int .i64 0), (.int .i64 0)], 13, true⟩)
    (stA h21 (nx + 11) 0 (.agg [(.int .i64 n7), (.int .i64 n8), (.int .i64 n9), (.int .i64 n10), (.int .i64 n11), (.int .i64 n12), (.int .i64 n13), (.int .i64 n14), (.int .i64 n15), (.int .i64 n16), (.int .i64 n17), (.int .i64 n18), (.int .i64 n19)]) 13).bind fun b22 =>
    let h23 := AHeap.put h21 (nx + 11) (some b22)
    if ((n20 : Int) == 0) = true then
    ((ldA h23 (nx + 11) 4).bind fun v24 =>
    (asI .i64 v24).bind fun n25 =>
    (x5).bind fun p26 =>
    (ldA h23 p26.1 (p26.2 + 4)).bind fun v27 =>
    (asI .i64 v27).bind fun n28 =>
    if (decide ((n25 : Int) > n28)) = true then
    ((ldR h23 (nx + 11) 0 13).bind fun l29 =>
    (asAgg 13 (AV.agg l29)).bind fun d30 =>
    (asI .i64 (d30.getD 0 .bad)).bind fun n31 =>
    (asI .i64 (d30.getD 1 .bad)).bind fun n32 =>
    (asI .i64 (d30.getD 2 .bad)).bind fun n33 =>
    (asI .i64 (d30.getD 3 .bad)).bind fun n34 =>
    (asI .i64 (d30.getD 4 .bad)).bind fun n35 =>
    (asI .i64 (d30.getD 5 .bad)).bind fun n36 =>
    (asI .i64 (d30.getD 6 .bad)).bind fun n37 =>
    (asI .i64 (d30.getD 7 .bad)).bind fun n38 =>
    (asI .i64 (d30.getD 8 .bad)).bind fun n39 =>
    (asI .i64 (d30.getD 9 .bad)).bind fun n40 =>
    (asI .i64 (d30.getD 10 .bad)).bind fun n41 =>
    (asI .i64 (d30.getD 11 .bad)).bind fun n42 =>
    (asI .i64 (d30.getD 12 .bad)).bind fun n43 =>
    (x5).bind fun p44 =>
    (stA h23 p44.1 p44.2 (.agg [(.int .i64 n31), (.int .i64 n32), (.int .i64 n33), (.int .i64 n34), (.int .i64 n35), (.int .i64 n36), (.int .i64 n37), (.int .i64 n38), (.int .i64 n39), (.int .i64 n40), (.int .i64 n41), (.int .i64 n42), (.int .i64 n43)]) 13).bind fun b45 =>
    let h46 := AHeap.put h23 p44.1 (some b45)
    F13_L1' J J call Y lf n0 x2 x5 x14 x12a x12n x12c x13 (wrapA .i64 (x14 + 1)) h46 (r4.2.2 + 15))
    else
    (F13_L1' J J call Y lf n0 x2 x5 x6 x12a x12n x12c x13 (wrapA .i64 (x14 + 1)) h23 (r4.2.2 + 11)))
    else
    (F13_L1' J J call Y lf n0 x2 x5 x6 x12a x12n x12c x13 (wrapA .i64 (x14 + 1)) h23 (r4.2.2 + 11)))
    else none)
    else
    (if (decide ((x6 : Int) < 0)) = true then
    ((x2).bind fun p47 =>
    (stA h p47.1 p47.2 (.agg [(.int .i64 0), (.int .i64 0), (.int .i64 0), (.int .i64 0), (.int .i64 0), (.int .i64 0), (.int .i64 0), (.int .i64 0), (.int .i64 0), (.int .i64 0), (.int .i64 0), (.int .i64 0), (.int .i64 0)]) 13).bind fun b48 =>
    let h49 := AHeap.put h p47.1 (some b48)
    (x2).bind fun p50 =>
    (ldR h49 p50.1 p50.2 13).bind fun l51 =>
    (asAgg 13 (AV.agg l51)).bind fun d52 =>
    (asI .i64 (d52.getD 0 .bad)).bind fun n53 =>
    (asI .i64 (d52.getD 1 .bad)).bind fun n54 =>
    (asI .i64 (d52.getD 2 .bad)).bind fun n55 =>
    (asI .i64 (d52.getD 3 .bad)).bind fun n56 =>
    (asI .i64 (d52.getD 4 .bad)).bind fun n57 =>
    (asI .i64 (d52.getD 5 .bad)).bind fun n58 =>
    (asI .i64 (d52.getD 6 .bad)).bind fun n59 =>
    (asI .i64 (d52.getD 7 .bad)).bind fun n60 =>
    (asI .i64 (d52.getD 8 .bad)).bind fun n61 =>
    (asI .i64 (d52.getD 9 .bad)).bind fun n62 =>
    (asI .i64 (d52.getD 10 .bad)).bind fun n63 =>
    (asI .i64 (d52.getD 11 .bad)).bind fun n64 =>
    (asI .i64 (d52.getD 12 .bad)).bind fun n65 =>
    some ((.tuple [(.agg [(.int .i64 n53), (.int .i64 n54), (.int .i64 n55), (.int .i64 n56), (.int .i64 n57), (.int .i64 n58), (.int .i64 n59), (.int .i64 n60), (.int .i64 n61), (.int .i64 n62), (.int .i64 n63), (.int .i64 n64), (.int .i64 n65)]), (.int .i64 0), (.int .i64 6)]), h49, (nx + 7)))
    else
    ((x5).bind fun p66 =>
    (ldR h p66.1 p66.2 13).bind fun l67 =>
    (asAgg 13 (AV.agg l67)).bind fun d68 =>
    (asI .i64 (d68.getD 0 .bad)).bind fun n69 =>
    (asI .i64 (d68.getD 1 .bad)).bind fun n70 =>
    (asI .i64 (d68.getD 2 .bad)).bind fun n71 =>
    (asI .i64 (d68.getD 3 .bad)).bind fun n72 =>
    (asI .i64 (d68.getD 4 .bad)).bind fun n73 =>
    (asI .i64 (d68.getD 5 .bad)).bind fun n74 =>
    (asI .i64 (d68.getD 6 .bad)).bind fun n75 =>
    (asI .i64 (d68.getD 7 .bad)).bind fun n76 =>
    (asI .i64 (d68.getD 8 .bad)).bind fun n77 =>
    (asI .i64 (d68.getD 9 .bad)).bind fun n78 =>
    (asI .i64 (d68.getD 10 .bad)).bind fun n79 =>
    (asI .i64 (d68.getD 11 .bad)).bind fun n80 =>
    (asI .i64 (d68.getD 12 .bad)).bind fun n81 =>
    (x2).bind fun p82 =>
    (stA h p82.1 p82.2 (.agg [(.int .i64 n69), (.int .i64 n70), (.int .i64 n71), (.int .i64 n72), (.int .i64 n73), (.int .i64 n74), (.int .i64 n75), (.int .i64 n76), (.int .i64 n77), (.int .i64 n78), (.int .i64 n79), (.int .i64 n80), (.int .i64 n81)]) 13).bind fun b83 =>
    let h84 := AHeap.put h p82.1 (some b83)
    (x2).bind fun p85 =>
    (ldR h84 p85.1 p85.2 13).bind fun l86 =>
    (asAgg 13 (AV.agg l86)).bind fun d87 =>
    (asI .i64 (d87.getD 0 .bad)).bind fun n88 =>
    (asI .i64 (d87.getD 1 .bad)).bind fun n89 =>
    (asI .i64 (d87.getD 2 .bad)).bind fun n90 =>
    (asI .i64 (d87.getD 3 .bad)).bind fun n91 =>
    (asI .i64 (d87.getD 4 .bad)).bind fun n92 =>
    (asI .i64 (d87.getD 5 .bad)).bind fun n93 =>
    (asI .i64 (d87.getD 6 .bad)).bind fun n94 =>
    (asI .i64 (d87.getD 7 .bad)).bind fun n95 =>
    (asI .i64 (d87.getD 8 .bad)).bind fun n96 =>
    (asI .i64 (d87.getD 9 .bad)).bind fun n97 =>
    (asI .i64 (d87.getD 10 .bad)).bind fun n98 =>
    (asI .i64 (d87.getD 11 .bad)).bind fun n99 =>
    (asI .i64 (d87.getD 12 .bad)).bind fun n100 =>
    some ((.tuple [(.agg [(.int .i64 n88), (.int .i64 n89), (.int .i64 n90), (.int .i64 n91), (.int .i64 n92), (.int .i64 n93), (.int .i64 n94), (.int .i64 n95), (.int .i64 n96), (.int .i64 n97), (.int .i64 n98), (.int .i64 n99), (.int .i64 n100)]), (.int .i64 x6), (.int .i64 0)]), h84, (nx + 8)))) := by kernel_rfl

theorem F13_L1_eq (call : YldF → CallF) (Y : YldF) (lf : Nat) (n0 : Nat) (x2 : Option (Nat × Nat)) (x5 : Option (Nat × Nat)) (x6 : Int) (x12a : Option (Nat × Nat)) (x12n : Nat) (x12c : Option Nat) (x13 : Int) (x14 : Int) (h : AHeap) (nx : Nat) : F13_L1 call Y lf (n0 + 1) x2 x5 x6 x12a x12n x12c x13 x14 h nx =
    if (decide ((x14 : Int) < x13)) = true then
    ((x12a).bind fun p1 =>
    if 0 ≤ (x14 : Int) ∧ x14 < ((x12n : Nat) : Int) then
    ((ldA h p1.1 (p1.2 + Int.toNat x14 * 1)).bind fun v2 =>
    (asSl v2).bind fun s3 =>
    (call Y 9 [(.slice s3.1 s3.2.1 s3.2.2)] h (nx + 14)).bind fun r4 =>
    (asTup 2 r4.1).bind fun d5 =>
    (asAgg 13 (d5.getD 0 .bad)).bind fun d6 =>
    (asI .i64 (d6.getD 0 .bad)).bind fun n7 =>
    (asI .i64 (d6.getD 1 .bad)).bind fun n8 =>
    (asI .i64 (d6.getD 2 .bad)).bind fun n9 =>
    (asI .i64 (d6.getD 3 .bad)).bind fun n10 =>
    (asI .i64 (d6.getD 4 .bad)).bind fun n11 =>
    (asI .i64 (d6.getD 5 .bad)).bind fun n12 =>
    (asI .i64 (d6.getD 6 .bad)).bind fun n13 =>
    (asI .i64 (d6.getD 7 .bad)).bind fun n14 =>
    (asI .i64 (d6.getD 8 .bad)).bind fun n15 =>
    (asI .i64 (d6.getD 9 .bad)).bind fun n16 =>
    (asI .i64 (d6.getD 10 .bad)).bind fun n17 =>
    (asI .i64 (d6.getD 11 .bad)).bind fun n18 =>
    (asI .i64 (d6.getD 12 .bad)).bind fun n19 =>
    (asI .i64 (d5.getD 1 .bad)).bind fun n20 =>
    let h21 := AHeap.put r4.2.1 (nx + 11) (some ⟨[(.int .i64 0), (.int .i64 0), (.int .i64 0), (.int .i64 0), (.int .i64 0), (.int .i64 0), (.int .i64 0), (.int .i64 0), (.int .i64 0), (.int .i64 0), (.int .i64 0), (.int .i64 0), (.int .i64 0)], 13, true⟩)
    (stA h21 (nx + 11) 0 (.agg [(.int .i64 n7), (.int .i64 n8), (.int .i64 n9), (.int .i64 n10), (.int .i64 n11), (.int .i64 n12), (.int .i64 n13), (.int .i64 n14), (.int .i64 n15), (.int .i64 n16), (.int .i64 n17), (.int .i64 n18), (.int .i64 n19)]) 13).bind fun b22 =>
    let h23 := AHeap.put h21 (nx + 11) (some b22)
    if ((n20 : Int) == 0) = true then
    ((ldA h23 (nx + 11) 4).bind fun v24 =>
    (asI .i64 v24).bind fun n25 =>
    (x5).bind fun p26 =>
    (ldA h23 p26.1 (p26.2 + 4)).bind fun v27 =>
    (asI .i64 v27).bind fun n28 =>
    if (decide ((n25 : Int) > n28)) = true then
    ((ldR h23 (nx + 11) 0 13).bind fun l29 =>
    (asAgg 13 (AV.agg l29)).bind fun d30 =>
    (asI .i64 (d30.getD 0 .bad)).bind fun n31 =>
    (asI .i64 (d30.getD 1 .bad)).bind fun n32 =>
    (asI .i64 (d30.getD 2 .bad)).bind fun n33 =>
    (asI .i64 (d30.getD 3 .bad)).bind fun n34 =>
    (asI .i64 (d30.getD 4 .bad)).bind fun n35 =>
    (asI .i64 (d30.getD 5 .bad)).bind fun n36 =>
    (asI .i64 (d30.getD 6 .bad)).bind fun n37 =>
    (asI .i64 (d30.getD 7 .bad)).bind fun n38 =>
    (asI .i64 (d30.getD 8 .bad)).bind fun n39 =>
    (asI .i64 (d30.getD 9 .bad)).bind fun n40 =>
    (asI .i64 (d30.getD 10 .bad)).bind fun n41 =>
    (asI .i64 (d30.getD 11 .bad)).bind fun n42 =>
    (asI .i64 (d30.getD 12 .bad)).bind fun n43 =>
    (x5).bind fun p44 =>
    (stA h23 p44.1 p44.2 (.agg [(.int .i64 n31), (.int .i64 n32), (.int .i64 n33), (.int .i64 n34), (.int .i64 n35), (.int .i64 n36), (.int .i64 n37), (.int .i64 n38), (.int .i64 n39), (.int .i64 n40), (.int .i64 n41), (.int .i64 n42), (.int .i64 n43)]) 13).bind fun b45 =>
    let h46 := AHeap.put h23 p44.1 (some b45)
    F13_L1 call Y lf n0 x2 x5 x14 x12a x12n x12c x13 (wrapA .i64 (x14 + 1)) h46 (r4.2.2 + 15))
    else
    (F13_L1 call Y lf n0 x2 x5 x6 x12a x12n x12c x13 (wrapA .i64 (x14 + 1)) h23 (r4.2.2 + 11)))
    else
    (F13_L1 call Y lf n0 x2 x5 x6 x12a x12n x12c x13 (wrapA .i64 (x14 + 1)) h23 (r4.2.2 + 11)))
    else none)
    else
    (if (decide ((x6 : Int) < 0)) = true then
    ((x2).bind fun p47 =>
    (stA h p47.1 p47.2 (.agg [(.int .i64 0), (.int .i64 0), (.int .i64 0), (.int .i64 0), (.int .i64 0), (.int .i64 0), (.int .i64 0), (.int .i64 0), (.int .i64 0), (.int .i64 0), (.int .i64 0), (.int .i64 0), (.int .i64 0)]) 13).bind fun b48 =>
    let h49 := AHeap.put h p47.1 (some b48)
    (x2).bind fun p50 =>
    (ldR h49 p50.1 p50.2 13).bind fun l51 =>
    (asAgg 13 (AV.agg l51)).bind fun d52 =>
    (asI .i64 (d52.getD 0 .bad)).bind fun n53 =>
    (asI .i64 (d52.getD 1 .bad)).bind fun n54 =>
    (asI .i64 (d52.getD 2 .bad)).bind fun n55 =>
    (asI .i64 (d52.getD 3 .bad)).bind fun n56 =>
    (asI .i64 (d52.getD 4 .bad)).bind fun n57 =>
    (asI .i64 (d52.getD 5 .bad)).bind fun n58 =>
    (asI .i64 (d52.getD 6 .bad)).bind fun n59 =>
    (asI .i64 (d52.getD 7 .bad)).bind fun n60 =>
    (asI .i64 (d52.getD 8 .bad)).bind fun n61 =>
    (asI .i64 (d52.getD 9 .bad)).bind fun n62 =>
    (asI .i64 (d52.getD 10 .bad)).bind fun n63 =>
    (asI .i64 (d52.getD 11 .bad)).bind fun n64 =>
    (asI .i64 (d52.getD 12 .bad)).bind fun n65 =>
    some ((.tuple [(.agg [(.int .i64 n53), (.int .i64 n54), (.int .i64 n55), (.int .i64 n56), (.int .i64 n57), (.int .i64 n58), (.int .i64 n59), (.int .i64 n60), (.int .i64 n61), (.int .i64 n62), (.int .i64 n63), (.int .i64 n64), (.int .i64 n65)]), (.int .i64 0), (.int .i64 6)]), h49, (nx + 7)))
    else
    ((x5).bind fun p66 =>
    (ldR h p66.1 p66.2 13).bind fun l67 =>
    (asAgg 13 (AV.agg l67)).bind fun d68 =>
    (asI .i64 (d68.getD 0 .bad)).bind fun n69 =>
    (asI .i64 (d68.getD 1 .bad)).bind fun n70 =>
    (asI .i64 (d68.getD 2 .bad)).bind fun n71 =>
    (asI .i64 (d68.getD 3 .bad)).bind fun n72 =>
    (asI .i64 (d68.getD 4 .bad)).bind fun n73 =>
    (asI .i64 (d68.getD 5 .bad)).bind fun n74 =>
    (asI .i64 (d68.getD 6 .bad)).bind fun n75 =>
    (asI .i64 (d68.getD 7 .bad)).bind fun n76 =>
    (asI .i64 (d68.getD 8 .bad)).bind fun n77 =>
    (asI .i64 (d68.getD 9 .bad)).bind fun n78 =>
    (asI .i64 (d68.getD 10 .bad)).bind fun n79 =>
    (asI .i64 (d68.getD 11 .bad)).bind fun n80 =>
    (asI .i64 (d68.getD 12 .bad)).bind fun n81 =>
    (x2).bind fun p82 =>
    (stA h p82.1 p82.2 (.agg [(.int .i64 n69), (.int .i64 n70), (.int .i64 n71), (.int .i64 n72), (.int .i64 n73), (.int .i64 n74), (.int .i64 n75), (.int .i64 n76), (.int .i64 n77), (.int .i64 n78), (.int .i64 n79), (.int .i64 n80), (.int .i64 n81)]) 13).bind fun b83 =>
    let h84 := AHeap.put h p82.1 (some b83)
    (x2).bind fun p85 =>
    (ldR h84 p85.1 p85.2 13).bind fun l86 =>
    (asAgg 13 (AV.agg l86)).bind fun d87 =>
    (asI .i64 (d87.getD 0 .bad)).bind fun n88 =>
    (asI .i64 (d87.getD 1 .bad)).bind fun n89 =>
    (asI .i64 (d87.getD 2 .bad)).bind fun n90 =>
    (asI .i64 (d87.getD 3 .bad)).bind fun n91 =>
    (asI .i64 (d87.getD 4 .bad)).bind fun n92 =>
    (asI .i64 (d87.getD 5 .bad)).bind fun n93 =>
    (asI .i64 (d87.getD 6 .bad)).bind fun n94 =>
    (asI .i64 (d87.getD 7 .bad)).bind fun n95 =>
    (asI .i64 (d87.getD 8 .bad)).bind fun n96 =>
    (asI .i64 (d87.getD 9 .bad)).bind fun n97 =>
    (asI .i64 (d87.getD 10 .bad)).bind fun n98 =>
    (asI .i64 (d87.getD 11 .bad)).bind fun n99 =>
    (asI .i64 (d87.getD 12 .bad)).bind fun n100 =>
    some ((.tuple [(.agg [(.int .i64 n88), (.int .i64 n89), (.int .i64 n90), (.int .i64 n91), (.int .i64 n92), (.int .i64 n93), (.int .i64 n94), (.int .i64 n95), (.int .i64 n96), (.int .i64 n97), (.int .i64 n98), (.int .i64 n99), (.int .i64 n100)]), (.int .i64 x6), (.int .i64 0)]), h84, (nx + 8)))) := F13_L1_eq' go1 call Y lf n0 x2 x5 x6 x12a x12n x12c x13 x14 h nx

theorem F13_L1_zero (call : YldF → CallF) (Y : YldF) (lf : Nat) (x2 : Option (Nat × Nat)) (x5 : Option (Nat × Nat)) (x6 : Int) (x12a : Option (Nat × Nat)) (x12n : Nat) (x12c : Option Nat) (x13 : Int) (x14 : Int) (h : AHeap) (nx : Nat) : F13_L1 call Y lf 0 x2 x5 x6 x12a x12n x12c x13 x14 h nx = none := by kernel_rfl

theorem F13_eq' (J : StepF (AV × AHeap × Nat) → StepF (AV × AHeap × Nat)) (n : Nat) (Y : YldF) (x0a : Option (Nat × Nat)) (x0n : Nat) (x0c : Option Nat) (h : AHeap) (nx : Nat) : rootJ J Try.prog keepT (callP Try.prog keepT n) Y n 13 [(.slice x0a x0n x0c)] h nx =
    let h1 := AHeap.put h nx (some ⟨[(.int .i64 0), (.int .i64 0), (.int .i64 0), (.int .i64 0), (.int .i64 0), (.int .i64 0), (.int .i64 0), (.int .i64 0), (.int .i64 0), (.int .i64 0), (.int .i64 0), (.int .i64 0), (.int .i64 0)], 13, true⟩)
    let h2 := AHeap.put h1 (nx + 4) (some ⟨[(.int .i64 0), (.int .i64 0), (.int .i64 0), (.int .i64 0), (.int .i64 0), (.int .i64 0), (.int .i64 0), (.int .i64 0), (.int .i64 0), (.int .i64 0), (.int .i64 0), (.int .i64 0), (.int .i64 0)], 13, true⟩)
    (stA h2 (nx + 4) 0 (.agg [(.int .i64 0), (.int .i64 0), (.int .i64 0), (.int .i64 0), (.int .i64 (-1)), (.int .i64 0), (.int .i64 0), (.int .i64 0), (.int .i64 0), (.int .i64 0), (.int .i64 0), (.int .i64 0), (.int .i64 0)]) 13).bind fun b3 =>
    let h4 := AHeap.put h2 (nx + 4) (some b3)
    F13_L1' J J (callP Try.prog keepT n) Y n n (some (nx, 0)) (some ((nx + 4), 0)) (-1) x0a x0n x0c ((x0n : Nat) : Int) 0 h4 (nx + 10) := by kernel_rfl

/-- quickset/label.Best -/
theorem F13_eq (n : Nat) (Y : YldF) (x0a : Option (Nat × Nat)) (x0n : Nat) (x0c : Option Nat) (h : AHeap) (nx : Nat) : callP Try.prog keepT (n + 1) Y 13 [(.slice x0a x0n x0c)] h nx =
    let h1 := AHeap.put h nx (some ⟨[(.int .i64 0), (.int .i64 0), (.int .i64 0), (.int .i64 0), (.int .i64 0), (.int .i64 0), (.int .i64 0), (.int .i64 0), (.int .i64 0), (.int .i64 0), (.int .i64 0), (.int .i64 0), (.int .i64 0)], 13, true⟩)
    let h2 := AHeap.put h1 (nx + 4) (some ⟨[(.int .i64 0), (.int .i64 0), (.int .i64 0), (.int .i64 0), (.int .i64 0), (.int .i64 0), (.int .i64 0), (.int .i64 0), (.int .i64 0), (.int .i64 0), (.int .i64 0), (.int .i64 0), (.int .i64 0)], 13, true⟩)
    (stA h2 (nx + 4) 0 (.agg [(.int .i64 0), (.int .i64 0), (.int .i64 0), (.int .i64 0), (.int .i64 (-1)), (.int .i64 0), (.int .i64 0), (.int .i64 0), (.int .i64 0), (.int .i64 0), (.int .i64 0), (.int .i64 0), (.int .i64 0)]) 13).bind fun b3 =>
    let h4 := AHeap.put h2 (nx + 4) (some b3)
    F13_L1 (callP Try.prog keepT n) Y n n (some (nx, 0)) (some ((nx + 4), 0)) (-1) x0a x0n x0c ((x0n : Nat) : Int) 0 h4 (nx + 10) := F13_eq' go1 n Y x0a x0n x0c h nx

noncomputable def c14 : Code := (Try.f14.body).getD .skip

noncomputable def r14 : List ResultVar := Try.f14.results.toList

theorem F14_eq' (J : StepF (AV × AHeap × Nat) → StepF (AV × AHeap × Nat)) (n : Nat) (Y : YldF) (x0 : Option (Nat × Nat)) (h : AHeap) (nx : Nat) : rootJ J Try.prog keepT (callP Try.prog keepT n) Y n 14 [(.ptr x0)] h nx =
    let h1 := AHeap.put h nx (some ⟨[(.ptr none), (.ptr none), (.ptr none), (.ptr none), (.ptr none), (.ptr none), (.ptr none), (.ptr none), (.ptr none)], 1, true⟩)
    (x0).bind fun p2 =>
    (x0).bind fun p3 =>
    (x0).bind fun p4 =>
    (x0).bind fun p5 =>
    (x0).bind fun p6 =>
    (x0).bind fun p7 =>
    (x0).bind fun p8 =>
    (x0).bind fun p9 =>
    (x0).bind fun p10 =>
    (stA h1 nx 0 (.agg [(.ptr (some p2)), (.ptr (some (p3.1, (p3.2 + 1)))), (.ptr (some (p4.1, (p4.2 + 2)))), (.ptr (some (p5.1, (p5.2 + 3)))), (.ptr (some (p6.1, (p6.2 + 4)))), (.ptr (some (p7.1, (p7.2 + 5)))), (.ptr (some (p8.1, ((p8.2 + 5) + 1)))), (.ptr (some (p9.1, ((p9.2 + 5) + 2)))), (.ptr (some (p10.1, ((p10.2 + 5) + 3))))]) 9).bind fun b11 =>
    let h12 := AHeap.put h1 nx (some b11)
    (ldR h12 nx 0 9).bind fun l13 =>
    some ((.agg l13), h12, (nx + 34)) := by kernel_rfl

/-- quickset/label.small -/
theorem F14_eq (n : Nat) (Y : YldF) (x0 : Option (Nat × Nat)) (h : AHeap) (nx : Nat) : callP Try.prog keepT (n + 1) Y 14 [(.ptr x0)] h nx =
    let h1 := AHeap.put h nx (some ⟨[(.ptr none), (.ptr none), (.ptr none), (.ptr none), (.ptr none), (.ptr none), (.ptr none), (.ptr none), (.ptr none)], 1, true⟩)
    (x0).bind fun p2 =>
    (x0).bind fun p3 =>
    (x0).bind fun p4 =>
    (x0).bind fun p5 =>
    (x0).bind fun p6 =>
    (x0).bind fun p7 =>
    (x0).bind fun p8 =>
    (x0).bind fun p9 =>
    (x0).bind fun p10 =>
    (stA h1 nx 0 (.agg [(.ptr (some p2)), (.ptr (some (p3.1, (p3.2 + 1)))), (.ptr (some (p4.1, (p4.2 + 2)))), (.ptr (some (p5.1, (p5.2 + 3)))), (.ptr (some (p6.1, (p6.2 + 4)))), (.ptr (some (p7.1, (p7.2 + 5)))), (.ptr (some (p8.1, ((p8.2 + 5) + 1)))), (.ptr (some (p9.1, ((p9.2 + 5) + 2)))), (.ptr (some (p10.1, ((p10.2 + 5) + 3))))]) 9).bind fun b11 =>
    let h12 := AHeap.put h1 nx (some b11)
    (ldR h12 nx 0 9).bind fun l13 =>
    some ((.agg l13), h12, (nx + 34)) := F14_eq' go1 n Y x0 h nx

noncomputable def c15 : Code := (Try.f15.body).getD .skip

noncomputable def r15 : List ResultVar := Try.f15.results.toList

noncomputable def F15_L1' (W J : StepF (AV × AHeap × Nat) → StepF (AV × AHeap × Nat)) (call : YldF → CallF) (Y : YldF) (lf : Nat) (n0 : Nat) (x0a : Option (Nat × Nat)) (x0n : Nat) (x0c : Option Nat) (x1 : Int) (x7 : Int) (x8 : Int) (h : AHeap) (nx : Nat) : Option (AV × AHeap × Nat) :=
  goK W J drawK (machOf Try.prog) call Y (keepT 15) lf c15 [1, 0, 1, 0, 9] [n0] (retK (machOf Try.prog) ⟨c15, 19, r15, keepT 15⟩) ⟨19, mkL [(0, (.slice x0a x0n x0c)), (1, (.int .i64 x1)), (7, (.int .i64 x7)), (8, (.int .i64 x8))]⟩ h nx

noncomputable def F15_L1 (call : YldF → CallF) (Y : YldF) (lf : Nat) (n0 : Nat) (x0a : Option (Nat × Nat)) (x0n : Nat) (x0c : Option Nat) (x1 : Int) (x7 : Int) (x8 : Int) (h : AHeap) (nx : Nat) : Option (AV × AHeap × Nat) := F15_L1' go1 go1 call Y lf n0 x0a x0n x0c x1 x7 x8 h nx

theorem F15_L1_eq' (J : StepF (AV × AHeap × Nat) → StepF (AV × AHeap × Nat)) (call : YldF → CallF) (Y : YldF) (lf : Nat) (n0 : Nat) (x0a : Option (Nat × Nat)) (x0n : Nat) (x0c : Option Nat) (x1 : Int) (x7 : Int) (x8 : Int) (h : AHeap) (nx : Nat) : F15_L1' go1 J call Y lf (n0 + 1) x0a x0n x0c x1 x7 x8 h nx =
    if (decide ((x8 : Int) < x7)) = true then
    (let h1 := AHeap.put h (nx + 4) (some ⟨[(.int .u8 (wrapA .u8 x1))], 1, true⟩)
    (srcS h1 (some ((nx + 4), 0)) 1 1).bind fun q2 =>
    (appD h1 x0a x0n x0c 1 1 (nx + 5) q2).bind fun e3 =>
    let h4 := AHeap.puts h1 e3.sets
    F15_L1' J J call Y lf n0 e3.a e3.n e3.c (Int.fdiv x1 ((2:Int) ^ min (Int.toNat 8) (IntKind.bits .i64))) x7 (wrapA .i64 (x8 + 1)) h4 (nx + 12))
    else
    (some ((.slice x0a x0n x0c), h, (nx + 3))) := by kernel_rfl

theorem F15_L1_eq (call : YldF → CallF) (Y : YldF) (lf : Nat) (n0 : Nat) (x0a : Option (Nat × Nat)) (x0n : Nat) (x0c : Option Nat) (x1 : Int) (x7 : Int) (x8 : Int) (h : AHeap) (nx : Nat) : F15_L1 call Y lf (n0 + 1) x0a x0n x0c x1 x7 x8 h nx =
    if (decide ((x8 : Int) < x7)) = true then
    (let h1 := AHeap.put h (nx + 4) (some ⟨[(.int .u8 (wrapA .u8 x1))], 1, true⟩)
    (srcS h1 (some ((nx + 4), 0)) 1 1).bind fun q2 =>
    (appD h1 x0a x0n x0c 1 1 (nx + 5) q2).bind fun e3 =>
    let h4 := AHeap.puts h1 e3.sets
    F15_L1 call Y lf n0 e3.a e3.n e3.c (Int.fdiv x1 ((2:Int) ^ min (Int.toNat 8) (IntKind.bits .i64))) x7 (wrapA .i64 (x8 + 1)) h4 (nx + 12))
    else
    (some ((.slice x0a x0n x0c), h, (nx + 3))) := F15_L1_eq' go1 call Y lf n0 x0a x0n x0c x1 x7 x8 h nx

theorem F15_L1_zero (call : YldF → CallF) (Y : YldF) (lf : Nat) (x0a : Option (Nat × Nat)) (x0n : Nat) (x0c : Option Nat) (x1 : Int) (x7 : Int) (x8 : Int) (h : AHeap) (nx : Nat) : F15_L1 call Y lf 0 x0a x0n x0c x1 x7 x8 h nx = none := by kernel_rfl

theorem F15_eq' (J : StepF (AV × AHeap × Nat) → StepF (AV × AHeap × Nat)) (n : Nat) (Y : YldF) (x0a : Option (Nat × Nat)) (x0n : Nat) (x0c : Option Nat) (x1 : Int) (x2 : Int) (h : AHeap) (nx : Nat) : rootJ J Try.prog keepT (callP Try.prog keepT n) Y n 15 [(.slice x0a x0n x0c), (.int .i64 x1), (.int .i64 x2)] h nx =
    F15_L1' J J (callP Try.prog keepT n) Y n n x0a x0n x0c x1 x2 0 h (nx + 3) := by kernel_rfl

/-- quickset/label.write -/
theorem F15_eq (n : Nat) (Y : YldF) (x0a : Option (Nat × Nat)) (x0n : Nat) (x0c : Option Nat) (x1 : Int) (x2 : Int) (h : AHeap) (nx : Nat) : callP Try.prog keepT (n + 1) Y 15 [(.slice x0a x0n x0c), (.int .i64 x1), (.int .i64 x2)] h nx =
    F15_L1 (callP Try.prog keepT n) Y n n x0a x0n x0c x1 x2 0 h (nx + 3) := F15_eq' go1 n Y x0a x0n x0c x1 x2 h nx

noncomputable def c16 : Code := (Try.f16.body).getD .skip

noncomputable def r16 : List ResultVar := Try.f16.results.toList

theorem F16_eq' (J : StepF (AV × AHeap × Nat) → StepF (AV × AHeap × Nat)) (n : Nat) (Y : YldF) (x0 : Option (Nat × Nat)) (h : AHeap) (nx : Nat) : rootJ J Try.prog keepT (callP Try.prog keepT n) Y n 16 [(.ptr x0)] h nx =
    let h1 := AHeap.put h nx (some ⟨[(.ptr none), (.ptr none), (.ptr none), (.ptr none)], 1, true⟩)
    (x0).bind fun p2 =>
    (x0).bind fun p3 =>
    (x0).bind fun p4 =>
    (x0).bind fun p5 =>
    (stA h1 nx 0 (.agg [(.ptr (some p2)), (.ptr (some (p3.1, (p3.2 + 1)))), (.ptr (some (p4.1, (p4.2 + 2)))), (.ptr (some (p5.1, (p5.2 + 3))))]) 4).bind fun b6 =>
    let h7 := AHeap.put h1 nx (some b6)
    (ldR h7 nx 0 4).bind fun l8 =>
    some ((.agg l8), h7, (nx + 15)) := by kernel_rfl

/-- quickset/label.sums -/
theorem F16_eq (n : Nat) (Y : YldF) (x0 : Option (Nat × Nat)) (h : AHeap) (nx : Nat) : callP Try.prog keepT (n + 1) Y 16 [(.ptr x0)] h nx =
    let h1 := AHeap.put h nx (some ⟨[(.ptr none), (.ptr none), (.ptr none), (.ptr none)], 1, true⟩)
    (x0).bind fun p2 =>
    (x0).bind fun p3 =>
    (x0).bind fun p4 =>
    (x0).bind fun p5 =>
    (stA h1 nx 0 (.agg [(.ptr (some p2)), (.ptr (some (p3.1, (p3.2 + 1)))), (.ptr (some (p4.1, (p4.2 + 2)))), (.ptr (some (p5.1, (p5.2 + 3))))]) 4).bind fun b6 =>
    let h7 := AHeap.put h1 nx (some b6)
    (ldR h7 nx 0 4).bind fun l8 =>
    some ((.agg l8), h7, (nx + 15)) := F16_eq' go1 n Y x0 h nx

noncomputable def c17 : Code := (Try.f17.body).getD .skip

noncomputable def r17 : List ResultVar := Try.f17.results.toList

theorem F17_eq' (J : StepF (AV × AHeap × Nat) → StepF (AV × AHeap × Nat)) (n : Nat) (Y : YldF) (x0a : Option (Nat × Nat)) (x0n : Nat) (x0c : Option Nat) (h : AHeap) (nx : Nat) : rootJ J Try.prog keepT (callP Try.prog keepT n) Y n 17 [(.slice x0a x0n x0c)] h nx =
    let h1 := AHeap.put h nx (some ⟨[(.int .i64 0), (.int .i64 0), (.int .i64 0), (.int .i64 0)], 4, true⟩)
    ((callP Try.prog keepT n) Y 21 [(.agg [(.int .i64 0), (.int .i64 0), (.int .i64 0), (.int .i64 0)]), (.slice x0a x0n x0c)] h1 (nx + 9)).bind fun r2 =>
    (asTup 2 r2.1).bind fun d3 =>
    (asAgg 4 (d3.getD 0 .bad)).bind fun d4 =>
    (asI .i64 (d4.getD 0 .bad)).bind fun n5 =>
    (asI .i64 (d4.getD 1 .bad)).bind fun n6 =>
    (asI .i64 (d4.getD 2 .bad)).bind fun n7 =>
    (asI .i64 (d4.getD 3 .bad)).bind fun n8 =>
    (asI .i64 (d3.getD 1 .bad)).bind fun n9 =>
    (stA r2.2.1 nx 0 (.agg [(.int .i64 n5), (.int .i64 n6), (.int .i64 n7), (.int .i64 n8)]) 4).bind fun b10 =>
    let h11 := AHeap.put r2.2.1 nx (some b10)
    (ldR h11 nx 0 4).bind fun l12 =>
    (asAgg 4 (AV.agg l12)).bind fun d13 =>
    (asI .i64 (d13.getD 0 .bad)).bind fun n14 =>
    (asI .i64 (d13.getD 1 .bad)).bind fun n15 =>
    (asI .i64 (d13.getD 2 .bad)).bind fun n16 =>
    (asI .i64 (d13.getD 3 .bad)).bind fun n17 =>
    some ((.tuple [(.agg [(.int .i64 n14), (.int .i64 n15), (.int .i64 n16), (.int .i64 n17)]), (.int .i64 n9)]), h11, r2.2.2) := by kernel_rfl

/-- quickset/flet.Of -/
theorem F17_eq (n : Nat) (Y : YldF) (x0a : Option (Nat × Nat)) (x0n : Nat) (x0c : Option Nat) (h : AHeap) (nx : Nat) : callP Try.prog keepT (n + 1) Y 17 [(.slice x0a x0n x0c)] h nx =
    let h1 := AHeap.put h nx (some ⟨[(.int .i64 0), (.int .i64 0), (.int .i64 0), (.int .i64 0)], 4, true⟩)
    ((callP Try.prog keepT n) Y 21 [(.agg [(.int .i64 0), (.int .i64 0), (.int .i64 0), (.int .i64 0)]), (.slice x0a x0n x0c)] h1 (nx + 9)).bind fun r2 =>
    (asTup 2 r2.1).bind fun d3 =>
    (asAgg 4 (d3.getD 0 .bad)).bind fun d4 =>
    (asI .i64 (d4.getD 0 .bad)).bind fun n5 =>
    (asI .i64 (d4.getD 1 .bad)).bind fun n6 =>
    (asI .i64 (d4.getD 2 .bad)).bind fun n7 =>
    (asI .i64 (d4.getD 3 .bad)).bind fun n8 =>
    (asI .i64 (d3.getD 1 .bad)).bind fun n9 =>
    (stA r2.2.1 nx 0 (.agg [(.int .i64 n5), (.int .i64 n6), (.int .i64 n7), (.int .i64 n8)]) 4).bind fun b10 =>
    let h11 := AHeap.put r2.2.1 nx (some b10)
    (ldR h11 nx 0 4).bind fun l12 =>
    (asAgg 4 (AV.agg l12)).bind fun d13 =>
    (asI .i64 (d13.getD 0 .bad)).bind fun n14 =>
    (asI .i64 (d13.getD 1 .bad)).bind fun n15 =>
    (asI .i64 (d13.getD 2 .bad)).bind fun n16 =>
    (asI .i64 (d13.getD 3 .bad)).bind fun n17 =>
    some ((.tuple [(.agg [(.int .i64 n14), (.int .i64 n15), (.int .i64 n16), (.int .i64 n17)]), (.int .i64 n9)]), h11, r2.2.2) := F17_eq' go1 n Y x0a x0n x0c h nx

noncomputable def c18 : Code := (Try.f18.body).getD .skip

noncomputable def r18 : List ResultVar := Try.f18.results.toList

noncomputable def F18_L1' (W J : StepF (AV × AHeap × Nat) → StepF (AV × AHeap × Nat)) (call : YldF → CallF) (Y : YldF) (lf : Nat) (n0 : Nat) (x0 : Option (Nat × Nat)) (x1 : Int) (x5 : Int) (x6 : Int) (h : AHeap) (nx : Nat) : Option (AV × AHeap × Nat) :=
  goK W J drawK (machOf Try.prog) call Y (keepT 18) lf c18 [1, 1, 0, 1, 0, 9] [n0] (retK (machOf Try.prog) ⟨c18, 31, r18, keepT 18⟩) ⟨31, mkL [(0, (.ptr x0)), (1, (.int .i64 x1)), (5, (.int .i64 x5)), (6, (.int .i64 x6))]⟩ h nx

noncomputable def F18_L1 (call : YldF → CallF) (Y : YldF) (lf : Nat) (n0 : Nat) (x0 : Option (Nat × Nat)) (x1 : Int) (x5 : Int) (x6 : Int) (h : AHeap) (nx : Nat) : Option (AV × AHeap × Nat) := F18_L1' go1 go1 call Y lf n0 x0 x1 x5 x6 h nx

theorem F18_L1_eq' (J : StepF (AV × AHeap × Nat) → StepF (AV × AHeap × Nat)) (call : YldF → CallF) (Y : YldF) (lf : Nat) (n0 : Nat) (x0 : Option (Nat × Nat)) (x1 : Int) (x5 : Int) (x6 : Int) (h : AHeap) (nx : Nat) : F18_L1' go1 J call Y lf (n0 + 1) x0 x1 x5 x6 h nx =
    if (decide ((x6 : Int) ≥ 0)) = true then
    ((x0).bind fun p1 =>
    (ldA h p1.1 p1.2).bind fun v2 =>
    (asSl v2).bind fun s3 =>
    (s3.1).bind fun p4 =>
    if 0 ≤ (x6 : Int) ∧ x6 < ((s3.2.1 : Nat) : Int) then
    ((ldA h p4.1 (p4.2 + Int.toNat x6 * 1)).bind fun v5 =>
    (asI .u8 v5).bind fun n6 =>
    F18_L1' J J call Y lf n0 x0 x1 (bits .or .i64 (wrapA .i64 (x5 * (2:Int) ^ min (Int.toNat 8) (IntKind.bits .i64))) (wrapA .i64 n6)) (wrapA .i64 (x6 - 1)) h (nx + 16))
    else none)
    else
    ((x0).bind fun p7 =>
    (ldA h p7.1 p7.2).bind fun v8 =>
    (asSl v8).bind fun s9 =>
    (cutA h s9.1 s9.2.1 s9.2.2 1 (some (.int .i64 x1)) none none).bind fun s10 =>
    (x0).bind fun p11 =>
    (stA h p11.1 p11.2 (.slice s10.1 s10.2.1 s10.2.2) 1).bind fun b12 =>
    let h13 := AHeap.put h p11.1 (some b12)
    some ((.int .i64 x5), h13, (nx + 12))) := by kernel_rfl

theorem F18_L1_eq (call : YldF → CallF) (Y : YldF) (lf : Nat) (n0 : Nat) (x0 : Option (Nat × Nat)) (x1 : Int) (x5 : Int) (x6 : Int) (h : AHeap) (nx : Nat) : F18_L1 call Y lf (n0 + 1) x0 x1 x5 x6 h nx =
    if (decide ((x6 : Int) ≥ 0)) = true then
    ((x0).bind fun p1 =>
    (ldA h p1.1 p1.2).bind fun v2 =>
    (asSl v2).bind fun s3 =>
    (s3.1).bind fun p4 =>
    if 0 ≤ (x6 : Int) ∧ x6 < ((s3.2.1 : Nat) : Int) then
    ((ldA h p4.1 (p4.2 + Int.toNat x6 * 1)).bind fun v5 =>
    (asI .u8 v5).bind fun n6 =>
    F18_L1 call Y lf n0 x0 x1 (bits .or .i64 (wrapA .i64 (x5 * (2:Int) ^ min (Int.toNat 8) (IntKind.bits .i64))) (wrapA .i64 n6)) (wrapA .i64 (x6 - 1)) h (nx + 16))
    else none)
    else
    ((x0).bind fun p7 =>
    (ldA h p7.1 p7.2).bind fun v8 =>
    (asSl v8).bind fun s9 =>
    (cutA h s9.1 s9.2.1 s9.2.2 1 (some (.int .i64 x1)) none none).bind fun s10 =>
    (x0).bind fun p11 =>
    (stA h p11.1 p11.2 (.slice s10.1 s10.2.1 s10.2.2) 1).bind fun b12 =>
    let h13 := AHeap.put h p11.1 (some b12)
    some ((.int .i64 x5), h13, (nx + 12))) := F18_L1_eq' go1 call Y lf n0 x0 x1 x5 x6 h nx

theorem F18_L1_zero (call : YldF → CallF) (Y : YldF) (lf : Nat) (x0 : Option (Nat × Nat)) (x1 : Int) (x5 : Int) (x6 : Int) (h : AHeap) (nx : Nat) : F18_L1 call Y lf 0 x0 x1 x5 x6 h nx = none := by kernel_rfl

theorem F18_eq' (J : StepF (AV × AHeap × Nat) → StepF (AV × AHeap × Nat)) (n : Nat) (Y : YldF) (x0 : Option (Nat × Nat)) (x1 : Int) (h : AHeap) (nx : Nat) : rootJ J Try.prog keepT (callP Try.prog keepT n) Y n 18 [(.ptr x0), (.int .i64 x1)] h nx =
    F18_L1' J J (callP Try.prog keepT n) Y n n x0 x1 0 (wrapA .i64 (x1 - 1)) h (nx + 5) := by kernel_rfl

/-- (*quickset/label.reader).number -/
theorem F18_eq (n : Nat) (Y : YldF) (x0 : Option (Nat × Nat)) (x1 : Int) (h : AHeap) (nx : Nat) : callP Try.prog keepT (n + 1) Y 18 [(.ptr x0), (.int .i64 x1)] h nx =
    F18_L1 (callP Try.prog keepT n) Y n n x0 x1 0 (wrapA .i64 (x1 - 1)) h (nx + 5) := F18_eq' go1 n Y x0 x1 h nx

noncomputable def c19 : Code := (Try.f19.body).getD .skip

noncomputable def r19 : List ResultVar := Try.f19.results.toList

noncomputable def F19_L1' (W J : StepF (AV × AHeap × Nat) → StepF (AV × AHeap × Nat)) (call : YldF → CallF) (Y : YldF) (lf : Nat) (n0 : Nat) (x0a : Option (Nat × Nat)) (x0n : Nat) (x0c : Option Nat) (x1a : Option (Nat × Nat)) (x1n : Nat) (x1c : Option Nat) (x12 : Int) (x13 : Int) (h : AHeap) (nx : Nat) : Option (AV × AHeap × Nat) :=
  goK W J drawK (machOf Try.prog) call Y (keepT 19) lf c19 [1, 1, 0, 1, 0, 9] [n0] (retK (machOf Try.prog) ⟨c19, 26, r19, keepT 19⟩) ⟨26, mkL [(0, (.slice x0a x0n x0c)), (1, (.slice x1a x1n x1c)), (12, (.int .i64 x12)), (13, (.int .i64 x13))]⟩ h nx

noncomputable def F19_L1 (call : YldF → CallF) (Y : YldF) (lf : Nat) (n0 : Nat) (x0a : Option (Nat × Nat)) (x0n : Nat) (x0c : Option Nat) (x1a : Option (Nat × Nat)) (x1n : Nat) (x1c : Option Nat) (x12 : Int) (x13 : Int) (h : AHeap) (nx : Nat) : Option (AV × AHeap × Nat) := F19_L1' go1 go1 call Y lf n0 x0a x0n x0c x1a x1n x1c x12 x13 h nx

theorem F19_L1_eq' (J : StepF (AV × AHeap × Nat) → StepF (AV × AHeap × Nat)) (call : YldF → CallF) (Y : YldF) (lf : Nat) (n0 : Nat) (x0a : Option (Nat × Nat)) (x0n : Nat) (x0c : Option Nat) (x1a : Option (Nat × Nat)) (x1n : Nat) (x1c : Option Nat) (x12 : Int) (x13 : Int) (h : AHeap) (nx : Nat) : F19_L1' go1 J call Y lf (n0 + 1) x0a x0n x0c x1a x1n x1c x12 x13 h nx =
    if (decide ((x13 : Int) < x12)) = true then
    ((x0a).bind fun p1 =>
    if 0 ≤ (x13 : Int) ∧ x13 < ((x0n : Nat) : Int) then
    ((ldA h p1.1 (p1.2 + Int.toNat x13 * 1)).bind fun v2 =>
    (asI .u8 v2).bind fun n3 =>
    (x1a).bind fun p4 =>
    if 0 ≤ (x13 : Int) ∧ x13 < ((x1n : Nat) : Int) then
    ((ldA h p4.1 (p4.2 + Int.toNat x13 * 1)).bind fun v5 =>
    (asI .u8 v5).bind fun n6 =>
    if ((n3 : Int) != n6) = true then
    (some ((.bool false), h, (nx + 13)))
    else
    (F19_L1' J J call Y lf n0 x0a x0n x0c x1a x1n x1c x12 (wrapA .i64 (x13 + 1)) h (nx + 14)))
    else none)
    else none)
    else
    (some ((.bool true), h, (nx + 2))) := by kernel_rfl

theorem F19_L1_eq (call : YldF → CallF) (Y : YldF) (lf : Nat) (n0 : Nat) (x0a : Option (Nat × Nat)) (x0n : Nat) (x0c : Option Nat) (x1a : Option (Nat × Nat)) (x1n : Nat) (x1c : Option Nat) (x12 : Int) (x13 : Int) (h : AHeap) (nx : Nat) : F19_L1 call Y lf (n0 + 1) x0a x0n x0c x1a x1n x1c x12 x13 h nx =
    if (decide ((x13 : Int) < x12)) = true then
    ((x0a).bind fun p1 =>
    if 0 ≤ (x13 : Int) ∧ x13 < ((x0n : Nat) : Int) then
    ((ldA h p1.1 (p1.2 + Int.toNat x13 * 1)).bind fun v2 =>
    (asI .u8 v2).bind fun n3 =>
    (x1a).bind fun p4 =>
    if 0 ≤ (x13 : Int) ∧ x13 < ((x1n : Nat) : Int) then
    ((ldA h p4.1 (p4.2 + Int.toNat x13 * 1)).bind fun v5 =>
    (asI .u8 v5).bind fun n6 =>
    if ((n3 : Int) != n6) = true then
    (some ((.bool false), h, (nx + 13)))
    else
    (F19_L1 call Y lf n0 x0a x0n x0c x1a x1n x1c x12 (wrapA .i64 (x13 + 1)) h (nx + 14)))
    else none)
    else none)
    else
    (some ((.bool true), h, (nx + 2))) := F19_L1_eq' go1 call Y lf n0 x0a x0n x0c x1a x1n x1c x12 x13 h nx

theorem F19_L1_zero (call : YldF → CallF) (Y : YldF) (lf : Nat) (x0a : Option (Nat × Nat)) (x0n : Nat) (x0c : Option Nat) (x1a : Option (Nat × Nat)) (x1n : Nat) (x1c : Option Nat) (x12 : Int) (x13 : Int) (h : AHeap) (nx : Nat) : F19_L1 call Y lf 0 x0a x0n x0c x1a x1n x1c x12 x13 h nx = none := by kernel_rfl

theorem F19_eq' (J : StepF (AV × AHeap × Nat) → StepF (AV × AHeap × Nat)) (n : Nat) (Y : YldF) (x0a : Option (Nat × Nat)) (x0n : Nat) (x0c : Option Nat) (x1a : Option (Nat × Nat)) (x1n : Nat) (x1c : Option Nat) (h : AHeap) (nx : Nat) : rootJ J Try.prog keepT (callP Try.prog keepT n) Y n 19 [(.slice x0a x0n x0c), (.slice x1a x1n x1c)] h nx =
    if ((((x0n : Nat) : Int) : Int) != ((x1n : Nat) : Int)) = true then
    (some ((.bool false), h, (nx + 7)))
    else
    (F19_L1' J J (callP Try.prog keepT n) Y n n x0a x0n x0c x1a x1n x1c ((x0n : Nat) : Int) 0 h (nx + 9)) := by kernel_rfl

/-- slices.Equal[[]byte,byte] -/
theorem F19_eq (n : Nat) (Y : YldF) (x0a : Option (Nat × Nat)) (x0n : Nat) (x0c : Option Nat) (x1a : Option (Nat × Nat)) (x1n : Nat) (x1c : Option Nat) (h : AHeap) (nx : Nat) : callP Try.prog keepT (n + 1) Y 19 [(.slice x0a x0n x0c), (.slice x1a x1n x1c)] h nx =
    if ((((x0n : Nat) : Int) : Int) != ((x1n : Nat) : Int)) = true then
    (some ((.bool false), h, (nx + 7)))
    else
    (F19_L1 (callP Try.prog keepT n) Y n n x0a x0n x0c x1a x1n x1c ((x0n : Nat) : Int) 0 h (nx + 9)) := F19_eq' go1 n Y x0a x0n x0c x1a x1n x1c h nx

noncomputable def c20 : Code := (Try.f20.body).getD .skip

noncomputable def r20 : List ResultVar := Try.f20.results.toList

theorem F20_eq' (J : StepF (AV × AHeap × Nat) → StepF (AV × AHeap × Nat)) (n : Nat) (Y : YldF) (x0 : Int) (x1 : Int) (x2 : Int) (h : AHeap) (nx : Nat) : rootJ J Try.prog keepT (callP Try.prog keepT n) Y n 20 [(.int .i64 x0), (.int .i64 x1), (.int .i64 x2)] h nx =
    if (decide ((x0 : Int) ≥ x1)) = true then
    (some ((.bool (decide ((x0 : Int) ≤ x2))), h, (nx + 10)))
    else
    (some ((.bool false), h, (nx + 10))) := by kernel_rfl

/-- quickset/label.in -/
theorem F20_eq (n : Nat) (Y : YldF) (x0 : Int) (x1 : Int) (x2 : Int) (h : AHeap) (nx : Nat) : callP Try.prog keepT (n + 1) Y 20 [(.int .i64 x0), (.int .i64 x1), (.int .i64 x2)] h nx =
    if (decide ((x0 : Int) ≥ x1)) = true then
    (some ((.bool (decide ((x0 : Int) ≤ x2))), h, (nx + 10)))
    else
    (some ((.bool false), h, (nx + 10))) := F20_eq' go1 n Y x0 x1 x2 h nx

noncomputable def c21 : Code := (Try.f21.body).getD .skip

noncomputable def r21 : List ResultVar := Try.f21.results.toList

noncomputable def F21_L1' (W J : StepF (AV × AHeap × Nat) → StepF (AV × AHeap × Nat)) (call : YldF → CallF) (Y : YldF) (lf : Nat) (n0 : Nat) (x1a : Option (Nat × Nat)) (x1n : Nat) (x1c : Option Nat) (x4 : Option (Nat × Nat)) (x6 : Option (Nat × Nat)) (h : AHeap) (nx : Nat) : Option (AV × AHeap × Nat) :=
  goK W J drawK (machOf Try.prog) call Y (keepT 21) lf c21 [1, 1, 1, 0, 0, 9] [n0] (retK (machOf Try.prog) ⟨c21, 45, r21, keepT 21⟩) ⟨45, mkL [(1, (.slice x1a x1n x1c)), (4, (.ptr x4)), (6, (.ptr x6))]⟩ h nx

noncomputable def F21_L1 (call : YldF → CallF) (Y : YldF) (lf : Nat) (n0 : Nat) (x1a : Option (Nat × Nat)) (x1n : Nat) (x1c : Option Nat) (x4 : Option (Nat × Nat)) (x6 : Option (Nat × Nat)) (h : AHeap) (nx : Nat) : Option (AV × AHeap × Nat) := F21_L1' go1 go1 call Y lf n0 x1a x1n x1c x4 x6 h nx

theorem F21_L1_eq' (J : StepF (AV × AHeap × Nat) → StepF (AV × AHeap × Nat)) (call : YldF → CallF) (Y : YldF) (lf : Nat) (n0 : Nat) (x1a : Option (Nat × Nat)) (x1n : Nat) (x1c : Option Nat) (x4 : Option (Nat × Nat)) (x6 : Option (Nat × Nat)) (h : AHeap) (nx : Nat) : F21_L1' go1 J call Y lf (n0 + 1) x1a x1n x1c x4 x6 h nx =
    if (decide ((((x1n : Nat) : Int) : Int) > 0)) = true then
    ((x6).bind fun p1 =>
    (ldR h p1.1 p1.2 4).bind fun l2 =>
    (x1a).bind fun p3 =>
    if 0 ≤ (0 : Int) ∧ 0 < ((x1n : Nat) : Int) then
    ((ldA h p3.1 (p3.2 + Int.toNat 0 * 1)).bind fun v4 =>
    (asI .u8 v4).bind fun n5 =>
    (x1a).bind fun p6 =>
    if 0 ≤ (1 : Int) ∧ 1 < ((x1n : Nat) : Int) then
    ((ldA h p6.1 (p6.2 + Int.toNat 1 * 1)).bind fun v7 =>
    (asI .u8 v7).bind fun n8 =>
    (x1a).bind fun p9 =>
    if 0 ≤ (2 : Int) ∧ 2 < ((x1n : Nat) : Int) then
    ((ldA h p9.1 (p9.2 + Int.toNat 2 * 1)).bind fun v10 =>
    (asI .u8 v10).bind fun n11 =>
    (x1a).bind fun p12 =>
    if 0 ≤ (3 : Int) ∧ 3 < ((x1n : Nat) : Int) then
    ((ldA h p12.1 (p12.2 + Int.toNat 3 * 1)).bind fun v13 =>
    (asI .u8 v13).bind fun n14 =>
    (call Y 23 [(.agg l2), (.int .i64 (bits .or .i64 (bits .or .i64 (bits .or .i64 (wrapA .i64 n5) (wrapA .i64 ((wrapA .i64 n8) * (2:Int) ^ min (Int.toNat 8) (IntKind.bits .i64)))) (wrapA .i64 ((wrapA .i64 n11) * (2:Int) ^ min (Int.toNat 16) (IntKind.bits .i64)))) (wrapA .i64 ((wrapA .i64 n14) * (2:Int) ^ min (Int.toNat 24) (IntKind.bits .i64)))))] h (nx + 28)).bind fun r15 =>
    (asRow r15.1).bind fun d16 =>
    (x6).bind fun p17 =>
    (stA r15.2.1 p17.1 p17.2 (.agg d16) 4).bind fun b18 =>
    let h19 := AHeap.put r15.2.1 p17.1 (some b18)
    (cutA h19 x1a x1n x1c 1 (some (.int .i64 4)) none none).bind fun s20 =>
    F21_L1' J J call Y lf n0 s20.1 s20.2.1 s20.2.2 x4 x6 h19 (r15.2.2 + 3))
    else none)
    else none)
    else none)
    else none)
    else
    ((x6).bind fun p21 =>
    (ldR h p21.1 p21.2 4).bind fun l22 =>
    (call Y 24 [(.agg l22)] h (nx + 7)).bind fun r23 =>
    (asAgg 4 r23.1).bind fun d24 =>
    (asI .i64 (d24.getD 0 .bad)).bind fun n25 =>
    (asI .i64 (d24.getD 1 .bad)).bind fun n26 =>
    (asI .i64 (d24.getD 2 .bad)).bind fun n27 =>
    (asI .i64 (d24.getD 3 .bad)).bind fun n28 =>
    (x4).bind fun p29 =>
    (stA r23.2.1 p29.1 p29.2 (.agg [(.int .i64 n25), (.int .i64 n26), (.int .i64 n27), (.int .i64 n28)]) 4).bind fun b30 =>
    let h31 := AHeap.put r23.2.1 p29.1 (some b30)
    (x4).bind fun p32 =>
    (ldR h31 p32.1 p32.2 4).bind fun l33 =>
    (asAgg 4 (AV.agg l33)).bind fun d34 =>
    (asI .i64 (d34.getD 0 .bad)).bind fun n35 =>
    (asI .i64 (d34.getD 1 .bad)).bind fun n36 =>
    (asI .i64 (d34.getD 2 .bad)).bind fun n37 =>
    (asI .i64 (d34.getD 3 .bad)).bind fun n38 =>
    some ((.tuple [(.agg [(.int .i64 n35), (.int .i64 n36), (.int .i64 n37), (.int .i64 n38)]), (.int .i64 0)]), h31, r23.2.2)) := by kernel_rfl

theorem F21_L1_eq (call : YldF → CallF) (Y : YldF) (lf : Nat) (n0 : Nat) (x1a : Option (Nat × Nat)) (x1n : Nat) (x1c : Option Nat) (x4 : Option (Nat × Nat)) (x6 : Option (Nat × Nat)) (h : AHeap) (nx : Nat) : F21_L1 call Y lf (n0 + 1) x1a x1n x1c x4 x6 h nx =
    if (decide ((((x1n : Nat) : Int) : Int) > 0)) = true then
    ((x6).bind fun p1 =>
    (ldR h p1.1 p1.2 4).bind fun l2 =>
    (x1a).bind fun p3 =>
    if 0 ≤ (0 : Int) ∧ 0 < ((x1n : Nat) : Int) then
    ((ldA h p3.1 (p3.2 + Int.toNat 0 * 1)).bind fun v4 =>
    (asI .u8 v4).bind fun n5 =>
    (x1a).bind fun p6 =>
    if 0 ≤ (1 : Int) ∧ 1 < ((x1n : Nat) : Int) then
    ((ldA h p6.1 (p6.2 + Int.toNat 1 * 1)).bind fun v7 =>
    (asI .u8 v7).bind fun n8 =>
    (x1a).bind fun p9 =>
    if 0 ≤ (2 : Int) ∧ 2 < ((x1n : Nat) : Int) then
    ((ldA h p9.1 (p9.2 + Int.toNat 2 * 1)).bind fun v10 =>
    (asI .u8 v10).bind fun n11 =>
    (x1a).bind fun p12 =>
    if 0 ≤ (3 : Int) ∧ 3 < ((x1n : Nat) : Int) then
    ((ldA h p12.1 (p12.2 + Int.toNat 3 * 1)).bind fun v13 =>
    (asI .u8 v13).bind fun n14 =>
    (call Y 23 [(.agg l2), (.int .i64 (bits .or .i64 (bits .or .i64 (bits .or .i64 (wrapA .i64 n5) (wrapA .i64 ((wrapA .i64 n8) * (2:Int) ^ min (Int.toNat 8) (IntKind.bits .i64)))) (wrapA .i64 ((wrapA .i64 n11) * (2:Int) ^ min (Int.toNat 16) (IntKind.bits .i64)))) (wrapA .i64 ((wrapA .i64 n14) * (2:Int) ^ min (Int.toNat 24) (IntKind.bits .i64)))))] h (nx + 28)).bind fun r15 =>
    (asRow r15.1).bind fun d16 =>
    (x6).bind fun p17 =>
    (stA r15.2.1 p17.1 p17.2 (.agg d16) 4).bind fun b18 =>
    let h19 := AHeap.put r15.2.1 p17.1 (some b18)
    (cutA h19 x1a x1n x1c 1 (some (.int .i64 4)) none none).bind fun s20 =>
    F21_L1 call Y lf n0 s20.1 s20.2.1 s20.2.2 x4 x6 h19 (r15.2.2 + 3))
    else none)
    else none)
    else none)
    else none)
    else
    ((x6).bind fun p21 =>
    (ldR h p21.1 p21.2 4).bind fun l22 =>
    (call Y 24 [(.agg l22)] h (nx + 7)).bind fun r23 =>
    (asAgg 4 r23.1).bind fun d24 =>
    (asI .i64 (d24.getD 0 .bad)).bind fun n25 =>
    (asI .i64 (d24.getD 1 .bad)).bind fun n26 =>
    (asI .i64 (d24.getD 2 .bad)).bind fun n27 =>
    (asI .i64 (d24.getD 3 .bad)).bind fun n28 =>
    (x4).bind fun p29 =>
    (stA r23.2.1 p29.1 p29.2 (.agg [(.int .i64 n25), (.int .i64 n26), (.int .i64 n27), (.int .i64 n28)]) 4).bind fun b30 =>
    let h31 := AHeap.put r23.2.1 p29.1 (some b30)
    (x4).bind fun p32 =>
    (ldR h31 p32.1 p32.2 4).bind fun l33 =>
    (asAgg 4 (AV.agg l33)).bind fun d34 =>
    (asI .i64 (d34.getD 0 .bad)).bind fun n35 =>
    (asI .i64 (d34.getD 1 .bad)).bind fun n36 =>
    (asI .i64 (d34.getD 2 .bad)).bind fun n37 =>
    (asI .i64 (d34.getD 3 .bad)).bind fun n38 =>
    some ((.tuple [(.agg [(.int .i64 n35), (.int .i64 n36), (.int .i64 n37), (.int .i64 n38)]), (.int .i64 0)]), h31, r23.2.2)) := F21_L1_eq' go1 call Y lf n0 x1a x1n x1c x4 x6 h nx

theorem F21_L1_zero (call : YldF → CallF) (Y : YldF) (lf : Nat) (x1a : Option (Nat × Nat)) (x1n : Nat) (x1c : Option Nat) (x4 : Option (Nat × Nat)) (x6 : Option (Nat × Nat)) (h : AHeap) (nx : Nat) : F21_L1 call Y lf 0 x1a x1n x1c x4 x6 h nx = none := by kernel_rfl

theorem F21_eq' (J : StepF (AV × AHeap × Nat) → StepF (AV × AHeap × Nat)) (n : Nat) (Y : YldF) (x0_0 : Int) (x0_1 : Int) (x0_2 : Int) (x0_3 : Int) (x1a : Option (Nat × Nat)) (x1n : Nat) (x1c : Option Nat) (h : AHeap) (nx : Nat) : rootJ J Try.prog keepT (callP Try.prog keepT n) Y n 21 [(.agg [(.int .i64 x0_0), (.int .i64 x0_1), (.int .i64 x0_2), (.int .i64 x0_3)]), (.slice x1a x1n x1c)] h nx =
    let h1 := AHeap.put h nx (some ⟨[(.int .i64 x0_0), (.int .i64 x0_1), (.int .i64 x0_2), (.int .i64 x0_3)], 4, true⟩)
    let h2 := AHeap.put h1 (nx + 1) (some ⟨[(.int .i64 0), (.int .i64 0), (.int .i64 0), (.int .i64 0)], 4, true⟩)
    if (((Int.tmod ((x1n : Nat) : Int) 4) : Int) != 0) = true then
    ((stA h2 (nx + 1) 0 (.agg [(.int .i64 0), (.int .i64 0), (.int .i64 0), (.int .i64 0)]) 4).bind fun b3 =>
    let h4 := AHeap.put h2 (nx + 1) (some b3)
    (ldR h4 (nx + 1) 0 4).bind fun l5 =>
    (asAgg 4 (AV.agg l5)).bind fun d6 =>
    (asI .i64 (d6.getD 0 .bad)).bind fun n7 =>
    (asI .i64 (d6.getD 1 .bad)).bind fun n8 =>
    (asI .i64 (d6.getD 2 .bad)).bind fun n9 =>
    (asI .i64 (d6.getD 3 .bad)).bind fun n10 =>
    some ((.tuple [(.agg [(.int .i64 n7), (.int .i64 n8), (.int .i64 n9), (.int .i64 n10)]), (.int .i64 4)]), h4, (nx + 10)))
    else
    ((ldR h2 nx 0 4).bind fun l11 =>
    (asAgg 4 (AV.agg l11)).bind fun d12 =>
    (asI .i64 (d12.getD 0 .bad)).bind fun n13 =>
    (asI .i64 (d12.getD 1 .bad)).bind fun n14 =>
    (asI .i64 (d12.getD 2 .bad)).bind fun n15 =>
    (asI .i64 (d12.getD 3 .bad)).bind fun n16 =>
    ((callP Try.prog keepT n) Y 22 [(.agg [(.int .i64 n13), (.int .i64 n14), (.int .i64 n15), (.int .i64 n16)])] h2 (nx + 11)).bind fun r17 =>
    (asRow r17.1).bind fun d18 =>
    let h19 := AHeap.put r17.2.1 (nx + 9) (some ⟨[(.int .i64 0), (.int .i64 0), (.int .i64 0), (.int .i64 0)], 1, true⟩)
    (stA h19 (nx + 9) 0 (.agg d18) 4).bind fun b20 =>
    let h21 := AHeap.put h19 (nx + 9) (some b20)
    F21_L1' J J (callP Try.prog keepT n) Y n n x1a x1n x1c (some ((nx + 1), 0)) (some ((nx + 9), 0)) h21 r17.2.2) := by kernel_rfl

/-- quickset/flet.More -/
theorem F21_eq (n : Nat) (Y : YldF) (x0_0 : Int) (x0_1 : Int) (x0_2 : Int) (x0_3 : Int) (x1a : Option (Nat × Nat)) (x1n : Nat) (x1c : Option Nat) (h : AHeap) (nx : Nat) : callP Try.prog keepT (n + 1) Y 21 [(.agg [(.int .i64 x0_0), (.int .i64 x0_1), (.int .i64 x0_2), (.int .i64 x0_3)]), (.slice x1a x1n x1c)] h nx =
    let h1 := AHeap.put h nx (some ⟨[(.int .i64 x0_0), (.int .i64 x0_1), (.int .i64 x0_2), (.int .i64 x0_3)], 4, true⟩)
    let h2 := AHeap.put h1 (nx + 1) (some ⟨[(.int .i64 0), (.int .i64 0), (.int .i64 0), (.int .i64 0)], 4, true⟩)
    if (((Int.tmod ((x1n : Nat) : Int) 4) : Int) != 0) = true then
    ((stA h2 (nx + 1) 0 (.agg [(.int .i64 0), (.int .i64 0), (.int .i64 0), (.int .i64 0)]) 4).bind fun b3 =>
    let h4 := AHeap.put h2 (nx + 1) (some b3)
    (ldR h4 (nx + 1) 0 4).bind fun l5 =>
    (asAgg 4 (AV.agg l5)).bind fun d6 =>
    (asI .i64 (d6.getD 0 .bad)).bind fun n7 =>
    (asI .i64 (d6.getD 1 .bad)).bind fun n8 =>
    (asI .i64 (d6.getD 2 .bad)).bind fun n9 =>
    (asI .i64 (d6.getD 3 .bad)).bind fun n10 =>
    some ((.tuple [(.agg [(.int .i64 n7), (.int .i64 n8), (.int .i64 n9), (.int .i64 n10)]), (.int .i64 4)]), h4, (nx + 10)))
    else
    ((ldR h2 nx 0 4).bind fun l11 =>
    (asAgg 4 (AV.agg l11)).bind fun d12 =>
    (asI .i64 (d12.getD 0 .bad)).bind fun n13 =>
    (asI .i64 (d12.getD 1 .bad)).bind fun n14 =>
    (asI .i64 (d12.getD 2 .bad)).bind fun n15 =>
    (asI .i64 (d12.getD 3 .bad)).bind fun n16 =>
    ((callP Try.prog keepT n) Y 22 [(.agg [(.int .i64 n13), (.int .i64 n14), (.int .i64 n15), (.int .i64 n16)])] h2 (nx + 11)).bind fun r17 =>
    (asRow r17.1).bind fun d18 =>
    let h19 := AHeap.put r17.2.1 (nx + 9) (some ⟨[(.int .i64 0), (.int .i64 0), (.int .i64 0), (.int .i64 0)], 1, true⟩)
    (stA h19 (nx + 9) 0 (.agg d18) 4).bind fun b20 =>
    let h21 := AHeap.put h19 (nx + 9) (some b20)
    F21_L1 (callP Try.prog keepT n) Y n n x1a x1n x1c (some ((nx + 1), 0)) (some ((nx + 9), 0)) h21 r17.2.2) := F21_eq' go1 n Y x0_0 x0_1 x0_2 x0_3 x1a x1n x1c h nx

noncomputable def c22 : Code := (Try.f22.body).getD .skip

noncomputable def r22 : List ResultVar := Try.f22.results.toList

theorem F22_eq' (J : StepF (AV × AHeap × Nat) → StepF (AV × AHeap × Nat)) (n : Nat) (Y : YldF) (x0_0 : Int) (x0_1 : Int) (x0_2 : Int) (x0_3 : Int) (h : AHeap) (nx : Nat) : rootJ J Try.prog keepT (callP Try.prog keepT n) Y n 22 [(.agg [(.int .i64 x0_0), (.int .i64 x0_1), (.int .i64 x0_2), (.int .i64 x0_3)])] h nx =
    let h1 := AHeap.put h nx (some ⟨[(.int .i64 x0_0), (.int .i64 x0_1), (.int .i64 x0_2), (.int .i64 x0_3)], 4, true⟩)
    let h2 := AHeap.put h1 (nx + 1) (some ⟨[(.int .i64 0), (.int .i64 0), (.int .i64 0), (.int .i64 0)], 1, true⟩)
    (ldA h2 nx 0).bind fun v3 =>
    (asI .i64 v3).bind fun n4 =>
    (ldA h2 nx 1).bind fun v5 =>
    (asI .i64 v5).bind fun n6 =>
    (ldA h2 nx 2).bind fun v7 =>
    (asI .i64 v7).bind fun n8 =>
    (ldA h2 nx 3).bind fun v9 =>
    (asI .i64 v9).bind fun n10 =>
    (stA h2 (nx + 1) 0 (.agg [(.int .i64 n4), (.int .i64 n6), (.int .i64 n8), (.int .i64 n10)]) 4).bind fun b11 =>
    let h12 := AHeap.put h2 (nx + 1) (some b11)
    (ldR h12 (nx + 1) 0 4).bind fun l13 =>
    some ((.agg l13), h12, (nx + 12)) := by kernel_rfl

/-- quickset/flet.of -/
theorem F22_eq (n : Nat) (Y : YldF) (x0_0 : Int) (x0_1 : Int) (x0_2 : Int) (x0_3 : Int) (h : AHeap) (nx : Nat) : callP Try.prog keepT (n + 1) Y 22 [(.agg [(.int .i64 x0_0), (.int .i64 x0_1), (.int .i64 x0_2), (.int .i64 x0_3)])] h nx =
    let h1 := AHeap.put h nx (some ⟨[(.int .i64 x0_0), (.int .i64 x0_1), (.int .i64 x0_2), (.int .i64 x0_3)], 4, true⟩)
    let h2 := AHeap.put h1 (nx + 1) (some ⟨[(.int .i64 0), (.int .i64 0), (.int .i64 0), (.int .i64 0)], 1, true⟩)
    (ldA h2 nx 0).bind fun v3 =>
    (asI .i64 v3).bind fun n4 =>
    (ldA h2 nx 1).bind fun v5 =>
    (asI .i64 v5).bind fun n6 =>
    (ldA h2 nx 2).bind fun v7 =>
    (asI .i64 v7).bind fun n8 =>
    (ldA h2 nx 3).bind fun v9 =>
    (asI .i64 v9).bind fun n10 =>
    (stA h2 (nx + 1) 0 (.agg [(.int .i64 n4), (.int .i64 n6), (.int .i64 n8), (.int .i64 n10)]) 4).bind fun b11 =>
    let h12 := AHeap.put h2 (nx + 1) (some b11)
    (ldR h12 (nx + 1) 0 4).bind fun l13 =>
    some ((.agg l13), h12, (nx + 12)) := F22_eq' go1 n Y x0_0 x0_1 x0_2 x0_3 h nx

noncomputable def c23 : Code := (Try.f23.body).getD .skip

noncomputable def r23 : List ResultVar := Try.f23.results.toList

noncomputable def F23_L1' (W J : StepF (AV × AHeap × Nat) → StepF (AV × AHeap × Nat)) (call : YldF → CallF) (Y : YldF) (lf : Nat) (n0 : Nat) (x1 : Int) (x2 : Option (Nat × Nat)) (x4 : Option (Nat × Nat)) (x6 : Int) (h : AHeap) (nx : Nat) : Option (AV × AHeap × Nat) :=
  goK W J drawK (machOf Try.prog) call Y (keepT 23) lf c23 [1, 0, 1, 0, 9] [n0] (retK (machOf Try.prog) ⟨c23, 20, r23, keepT 23⟩) ⟨20, mkL [(1, (.int .i64 x1)), (2, (.ptr x2)), (4, (.ptr x4)), (6, (.int .i64 x6))]⟩ h nx

noncomputable def F23_L1 (call : YldF → CallF) (Y : YldF) (lf : Nat) (n0 : Nat) (x1 : Int) (x2 : Option (Nat × Nat)) (x4 : Option (Nat × Nat)) (x6 : Int) (h : AHeap) (nx : Nat) : Option (AV × AHeap × Nat) := F23_L1' go1 go1 call Y lf n0 x1 x2 x4 x6 h nx

theorem F23_L1_eq' (J : StepF (AV × AHeap × Nat) → StepF (AV × AHeap × Nat)) (call : YldF → CallF) (Y : YldF) (lf : Nat) (n0 : Nat) (x1 : Int) (x2 : Option (Nat × Nat)) (x4 : Option (Nat × Nat)) (x6 : Int) (h : AHeap) (nx : Nat) : F23_L1' go1 J call Y lf (n0 + 1) x1 x2 x4 x6 h nx =
    if (decide ((x6 : Int) < 4)) = true then
    ((x2).bind fun p1 =>
    if 0 ≤ (x6 : Int) ∧ x6 < ((4 : Nat) : Int) then
    ((ldA h p1.1 (p1.2 + Int.toNat x6 * 1)).bind fun v2 =>
    (asI .i64 v2).bind fun n3 =>
    (x2).bind fun p4 =>
    if 0 ≤ (x6 : Int) ∧ x6 < ((4 : Nat) : Int) then
    ((stA h p4.1 (p4.2 + Int.toNat x6 * 1) (.int .i64 (wrapA .i64 (n3 + x1))) 1).bind fun b5 =>
    let h6 := AHeap.put h p4.1 (some b5)
    (x2).bind fun p7 =>
    if 0 ≤ (x6 : Int) ∧ x6 < ((4 : Nat) : Int) then
    ((ldA h6 p7.1 (p7.2 + Int.toNat x6 * 1)).bind fun v8 =>
    (asI .i64 v8).bind fun n9 =>
    F23_L1' J J call Y lf n0 n9 x2 x4 (wrapA .i64 (x6 + 1)) h6 (nx + 16))
    else none)
    else none)
    else none)
    else
    ((x2).bind fun p10 =>
    (ldR h p10.1 p10.2 4).bind fun l11 =>
    (x4).bind fun p12 =>
    (stA h p12.1 p12.2 (.agg l11) 4).bind fun b13 =>
    let h14 := AHeap.put h p12.1 (some b13)
    (x4).bind fun p15 =>
    (ldR h14 p15.1 p15.2 4).bind fun l16 =>
    some ((.agg l16), h14, (nx + 3))) := by kernel_rfl

theorem F23_L1_eq (call : YldF → CallF) (Y : YldF) (lf : Nat) (n0 : Nat) (x1 : Int) (x2 : Option (Nat × Nat)) (x4 : Option (Nat × Nat)) (x6 : Int) (h : AHeap) (nx : Nat) : F23_L1 call Y lf (n0 + 1) x1 x2 x4 x6 h nx =
    if (decide ((x6 : Int) < 4)) = true then
    ((x2).bind fun p1 =>
    if 0 ≤ (x6 : Int) ∧ x6 < ((4 : Nat) : Int) then
    ((ldA h p1.1 (p1.2 + Int.toNat x6 * 1)).bind fun v2 =>
    (asI .i64 v2).bind fun n3 =>
    (x2).bind fun p4 =>
    if 0 ≤ (x6 : Int) ∧ x6 < ((4 : Nat) : Int) then
    ((stA h p4.1 (p4.2 + Int.toNat x6 * 1) (.int .i64 (wrapA .i64 (n3 + x1))) 1).bind fun b5 =>
    let h6 := AHeap.put h p4.1 (some b5)
    (x2).bind fun p7 =>
    if 0 ≤ (x6 : Int) ∧ x6 < ((4 : Nat) : Int) then
    ((ldA h6 p7.1 (p7.2 + Int.toNat x6 * 1)).bind fun v8 =>
    (asI .i64 v8).bind fun n9 =>
    F23_L1 call Y lf n0 n9 x2 x4 (wrapA .i64 (x6 + 1)) h6 (nx + 16))
    else none)
    else none)
    else none)
    else
    ((x2).bind fun p10 =>
    (ldR h p10.1 p10.2 4).bind fun l11 =>
    (x4).bind fun p12 =>
    (stA h p12.1 p12.2 (.agg l11) 4).bind fun b13 =>
    let h14 := AHeap.put h p12.1 (some b13)
    (x4).bind fun p15 =>
    (ldR h14 p15.1 p15.2 4).bind fun l16 =>
    some ((.agg l16), h14, (nx + 3))) := F23_L1_eq' go1 call Y lf n0 x1 x2 x4 x6 h nx

theorem F23_L1_zero (call : YldF → CallF) (Y : YldF) (lf : Nat) (x1 : Int) (x2 : Option (Nat × Nat)) (x4 : Option (Nat × Nat)) (x6 : Int) (h : AHeap) (nx : Nat) : F23_L1 call Y lf 0 x1 x2 x4 x6 h nx = none := by kernel_rfl

theorem F23_eq' (J : StepF (AV × AHeap × Nat) → StepF (AV × AHeap × Nat)) (n : Nat) (Y : YldF) (x0 : List AV) (x1 : Int) (h : AHeap) (nx : Nat) : rootJ J Try.prog keepT (callP Try.prog keepT n) Y n 23 [(.agg x0), (.int .i64 x1)] h nx =
    if allOne x0 = true then
    (let h1 := AHeap.put h nx (some ⟨x0, 1, true⟩)
    let h2 := AHeap.put h1 (nx + 1) (some ⟨[(.int .i64 0), (.int .i64 0), (.int .i64 0), (.int .i64 0)], 1, true⟩)
    F23_L1' J J (callP Try.prog keepT n) Y n n x1 (some (nx, 0)) (some ((nx + 1), 0)) 0 h2 (nx + 3))
    else none := by kernel_rfl

/-- (quickset/flet.sums).word -/
theorem F23_eq (n : Nat) (Y : YldF) (x0 : List AV) (x1 : Int) (h : AHeap) (nx : Nat) : callP Try.prog keepT (n + 1) Y 23 [(.agg x0), (.int .i64 x1)] h nx =
    if allOne x0 = true then
    (let h1 := AHeap.put h nx (some ⟨x0, 1, true⟩)
    let h2 := AHeap.put h1 (nx + 1) (some ⟨[(.int .i64 0), (.int .i64 0), (.int .i64 0), (.int .i64 0)], 1, true⟩)
    F23_L1 (callP Try.prog keepT n) Y n n x1 (some (nx, 0)) (some ((nx + 1), 0)) 0 h2 (nx + 3))
    else none := F23_eq' go1 n Y x0 x1 h nx

noncomputable def c24 : Code := (Try.f24.body).getD .skip

noncomputable def r24 : List ResultVar := Try.f24.results.toList

theorem F24_eq' (J : StepF (AV × AHeap × Nat) → StepF (AV × AHeap × Nat)) (n : Nat) (Y : YldF) (x0 : List AV) (h : AHeap) (nx : Nat) : rootJ J Try.prog keepT (callP Try.prog keepT n) Y n 24 [(.agg x0)] h nx =
    if allOne x0 = true then
    (let h1 := AHeap.put h nx (some ⟨x0, 1, true⟩)
    let h2 := AHeap.put h1 (nx + 1) (some ⟨[(.int .i64 0), (.int .i64 0), (.int .i64 0), (.int .i64 0)], 4, true⟩)
    if 0 ≤ (0 : Int) ∧ 0 < ((4 : Nat) : Int) then
    ((ldA h2 nx (0 + Int.toNat 0 * 1)).bind fun v3 =>
    (asI .i64 v3).bind fun n4 =>
    if 0 ≤ (1 : Int) ∧ 1 < ((4 : Nat) : Int) then
    ((ldA h2 nx (0 + Int.toNat 1 * 1)).bind fun v5 =>
    (asI .i64 v5).bind fun n6 =>
    if 0 ≤ (2 : Int) ∧ 2 < ((4 : Nat) : Int) then
    ((ldA h2 nx (0 + Int.toNat 2 * 1)).bind fun v7 =>
    (asI .i64 v7).bind fun n8 =>
    if 0 ≤ (3 : Int) ∧ 3 < ((4 : Nat) : Int) then
    ((ldA h2 nx (0 + Int.toNat 3 * 1)).bind fun v9 =>
    (asI .i64 v9).bind fun n10 =>
    (stA h2 (nx + 1) 0 (.agg [(.int .i64 n4), (.int .i64 n6), (.int .i64 n8), (.int .i64 n10)]) 4).bind fun b11 =>
    let h12 := AHeap.put h2 (nx + 1) (some b11)
    (ldR h12 (nx + 1) 0 4).bind fun l13 =>
    (asAgg 4 (AV.agg l13)).bind fun d14 =>
    (asI .i64 (d14.getD 0 .bad)).bind fun n15 =>
    (asI .i64 (d14.getD 1 .bad)).bind fun n16 =>
    (asI .i64 (d14.getD 2 .bad)).bind fun n17 =>
    (asI .i64 (d14.getD 3 .bad)).bind fun n18 =>
    some ((.agg [(.int .i64 n15), (.int .i64 n16), (.int .i64 n17), (.int .i64 n18)]), h12, (nx + 12)))
    else none)
    else none)
    else none)
    else none)
    else none := by kernel_rfl

/-- (quickset/flet.sums).sum -/
theorem F24_eq (n : Nat) (Y : YldF) (x0 : List AV) (h : AHeap) (nx : Nat) : callP Try.prog keepT (n + 1) Y 24 [(.agg x0)] h nx =
    if allOne x0 = true then
    (let h1 := AHeap.put h nx (some ⟨x0, 1, true⟩)
    let h2 := AHeap.put h1 (nx + 1) (some ⟨[(.int .i64 0), (.int .i64 0), (.int .i64 0), (.int .i64 0)], 4, true⟩)
    if 0 ≤ (0 : Int) ∧ 0 < ((4 : Nat) : Int) then
    ((ldA h2 nx (0 + Int.toNat 0 * 1)).bind fun v3 =>
    (asI .i64 v3).bind fun n4 =>
    if 0 ≤ (1 : Int) ∧ 1 < ((4 : Nat) : Int) then
    ((ldA h2 nx (0 + Int.toNat 1 * 1)).bind fun v5 =>
    (asI .i64 v5).bind fun n6 =>
    if 0 ≤ (2 : Int) ∧ 2 < ((4 : Nat) : Int) then
    ((ldA h2 nx (0 + Int.toNat 2 * 1)).bind fun v7 =>
    (asI .i64 v7).bind fun n8 =>
    if 0 ≤ (3 : Int) ∧ 3 < ((4 : Nat) : Int) then
    ((ldA h2 nx (0 + Int.toNat 3 * 1)).bind fun v9 =>
    (asI .i64 v9).bind fun n10 =>
    (stA h2 (nx + 1) 0 (.agg [(.int .i64 n4), (.int .i64 n6), (.int .i64 n8), (.int .i64 n10)]) 4).bind fun b11 =>
    let h12 := AHeap.put h2 (nx + 1) (some b11)
    (ldR h12 (nx + 1) 0 4).bind fun l13 =>
    (asAgg 4 (AV.agg l13)).bind fun d14 =>
    (asI .i64 (d14.getD 0 .bad)).bind fun n15 =>
    (asI .i64 (d14.getD 1 .bad)).bind fun n16 =>
    (asI .i64 (d14.getD 2 .bad)).bind fun n17 =>
    (asI .i64 (d14.getD 3 .bad)).bind fun n18 =>
    some ((.agg [(.int .i64 n15), (.int .i64 n16), (.int .i64 n17), (.int .i64 n18)]), h12, (nx + 12)))
    else none)
    else none)
    else none)
    else none)
    else none := F24_eq' go1 n Y x0 h nx

end Go.Proofs.Ytkidbgfegnmhdaa.T
