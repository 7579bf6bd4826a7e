/- Printed by mp.py: functions of the program as plain Lean, each by the kernel. -/
import Derived.Test.YtncmdbpoceilgaaPp1
set_option linter.unusedVariables false
set_option linter.unusedSimpArgs false
namespace Go.Proofs.Ytncmdbpoceilgaa.T
open Go Go.RowKit Go.Proofs
set_option maxRecDepth 100000

noncomputable def c21 : Code := (Try.f21.body).getD .skip

noncomputable def r21 : List ResultVar := Try.f21.results.toList

theorem F21_eq' (J : StepF (AV × AHeap × Nat) → StepF (AV × AHeap × Nat)) (n : Nat) (Y : YldF) (x0 : Option (Nat × Nat)) (x1_0 : Int) (x1_1 : ByteArray) (x1_2 : ByteArray) (x1_3 : Int) (x1_4 : Int) (x1_5 : Int) (x1_6 : Int) (x1_7a : Option (Nat × Nat)) (x1_7n : Nat) (x1_7c : Option Nat) (h : AHeap) (nx : Nat) : rootJ J Try.prog keepT (callP Try.prog keepT n) Y n 21 [(.ptr x0), (.agg [(.int .i64 x1_0), (.str x1_1), (.str x1_2), (.int .i64 x1_3), (.int .i64 x1_4), (.int .i64 x1_5), (.int .i64 x1_6), (.slice x1_7a x1_7n x1_7c)])] h nx =
    let h1 := AHeap.put h nx (some ⟨[(.int .i64 x1_0), (.str x1_1), (.str x1_2), (.int .i64 x1_3), (.int .i64 x1_4), (.int .i64 x1_5), (.int .i64 x1_6), (.slice x1_7a x1_7n x1_7c)], 8, true⟩)
    let h2 := AHeap.put h1 (nx + 1) (some ⟨[(.int .i64 0), (.bool false), (.int .i64 0), (.slice none 0 none), (.slice none 0 none)], 5, true⟩)
    (ldA h2 nx 0).bind fun v3 =>
    (asI .i64 v3).bind fun n4 =>
    if ((n4 : Int) == 1) = true then
    ((x0).bind fun p5 =>
    (ldA h2 p5.1 p5.2).bind fun v6 =>
    (asMp v6).bind fun m7 =>
    (ldA h2 nx 1).bind fun v8 =>
    (asStr v8).bind fun s9 =>
    ((callP Try.prog keepT n) Y 22 [(.mapv m7), (.str s9), (.int .i64 4)] h2 (nx + 14)).bind fun r10 =>
    (asI .i64 r10.1).bind fun n11 =>
    if ((n11 : Int) != 0) = true then
    (((callP Try.prog keepT n) Y 23 [(.int .i64 n11)] r10.2.1 (r10.2.2 + 5)).bind fun r12 =>
    (asAgg 5 r12.1).bind fun d13 =>
    (asI .i64 (d13.getD 0 .bad)).bind fun n14 =>
    (asB (d13.getD 1 .bad)).bind fun t15 =>
    (asI .i64 (d13.getD 2 .bad)).bind fun n16 =>
    (asSl (d13.getD 3 .bad)).bind fun s17 =>
    (asSl (d13.getD 4 .bad)).bind fun s18 =>
    (stA r12.2.1 (nx + 1) 0 (.agg [(.int .i64 n14), (.bool t15), (.int .i64 n16), (.slice s17.1 s17.2.1 s17.2.2), (.slice s18.1 s18.2.1 s18.2.2)]) 5).bind fun b19 =>
    let h20 := AHeap.put r12.2.1 (nx + 1) (some b19)
    (ldR h20 (nx + 1) 0 5).bind fun l21 =>
    (asAgg 5 (AV.agg l21)).bind fun d22 =>
    (asI .i64 (d22.getD 0 .bad)).bind fun n23 =>
    (asB (d22.getD 1 .bad)).bind fun t24 =>
    (asI .i64 (d22.getD 2 .bad)).bind fun n25 =>
    (asSl (d22.getD 3 .bad)).bind fun s26 =>
    (asSl (d22.getD 4 .bad)).bind fun s27 =>
    some ((.agg [(.int .i64 n23), (.bool t24), (.int .i64 n25), (.slice s26.1 s26.2.1 s26.2.2), (.slice s27.1 s27.2.1 s27.2.2)]), h20, r12.2.2))
    else
    ((x0).bind fun p28 =>
    (ldA r10.2.1 p28.1 p28.2).bind fun v29 =>
    (asMp v29).bind fun m30 =>
    (ldA r10.2.1 nx 1).bind fun v31 =>
    (asStr v31).bind fun s32 =>
    (x0).bind fun p33 =>
    (ldA r10.2.1 p33.1 (p33.2 + 2)).bind fun v34 =>
    (asSl v34).bind fun s35 =>
    (m30).bind fun i36 =>
    (mapD r10.2.1 i36).bind fun es37 =>
    (updE s32 (.slice s35.1 s35.2.1 s35.2.2) es37).bind fun es38 =>
    let h39 := AHeap.put r10.2.1 i36 (some ⟨es38, MB, true⟩)
    (stA h39 (nx + 1) 0 (.agg [(.int .i64 0), (.bool false), (.int .i64 0), (.slice none 0 none), (.slice none 0 none)]) 5).bind fun b40 =>
    let h41 := AHeap.put h39 (nx + 1) (some b40)
    (ldR h41 (nx + 1) 0 5).bind fun l42 =>
    (asAgg 5 (AV.agg l42)).bind fun d43 =>
    (asI .i64 (d43.getD 0 .bad)).bind fun n44 =>
    (asB (d43.getD 1 .bad)).bind fun t45 =>
    (asI .i64 (d43.getD 2 .bad)).bind fun n46 =>
    (asSl (d43.getD 3 .bad)).bind fun s47 =>
    (asSl (d43.getD 4 .bad)).bind fun s48 =>
    some ((.agg [(.int .i64 n44), (.bool t45), (.int .i64 n46), (.slice s47.1 s47.2.1 s47.2.2), (.slice s48.1 s48.2.1 s48.2.2)]), h41, (r10.2.2 + 15))))
    else
    (if ((n4 : Int) == 6) = true then
    ((x0).bind fun p49 =>
    (ldA h2 p49.1 p49.2).bind fun v50 =>
    (asMp v50).bind fun m51 =>
    ((callP Try.prog keepT n) Y 24 [(.mapv m51)] h2 (nx + 15)).bind fun r52 =>
    (asSl r52.1).bind fun s53 =>
    (stA r52.2.1 (nx + 1) 0 (.agg [(.int .i64 0), (.bool false), (.int .i64 0), (.slice none 0 none), (.slice s53.1 s53.2.1 s53.2.2)]) 5).bind fun b54 =>
    let h55 := AHeap.put r52.2.1 (nx + 1) (some b54)
    (ldR h55 (nx + 1) 0 5).bind fun l56 =>
    (asAgg 5 (AV.agg l56)).bind fun d57 =>
    (asI .i64 (d57.getD 0 .bad)).bind fun n58 =>
    (asB (d57.getD 1 .bad)).bind fun t59 =>
    (asI .i64 (d57.getD 2 .bad)).bind fun n60 =>
    (asSl (d57.getD 3 .bad)).bind fun s61 =>
    (asSl (d57.getD 4 .bad)).bind fun s62 =>
    some ((.agg [(.int .i64 n58), (.bool t59), (.int .i64 n60), (.slice s61.1 s61.2.1 s61.2.2), (.slice s62.1 s62.2.1 s62.2.2)]), h55, r52.2.2))
    else
    (if ((n4 : Int) == 11) = true then
    ((x0).bind fun p63 =>
    (ldA h2 p63.1 (p63.2 + 1)).bind fun v64 =>
    (asMp v64).bind fun m65 =>
    ((callP Try.prog keepT n) Y 25 [(.mapv m65)] h2 (nx + 17)).bind fun r66 =>
    (asSl r66.1).bind fun s67 =>
    (stA r66.2.1 (nx + 1) 0 (.agg [(.int .i64 0), (.bool false), (.int .i64 0), (.slice none 0 none), (.slice s67.1 s67.2.1 s67.2.2)]) 5).bind fun b68 =>
    let h69 := AHeap.put r66.2.1 (nx + 1) (some b68)
    (ldR h69 (nx + 1) 0 5).bind fun l70 =>
    (asAgg 5 (AV.agg l70)).bind fun d71 =>
    (asI .i64 (d71.getD 0 .bad)).bind fun n72 =>
    (asB (d71.getD 1 .bad)).bind fun t73 =>
    (asI .i64 (d71.getD 2 .bad)).bind fun n74 =>
    (asSl (d71.getD 3 .bad)).bind fun s75 =>
    (asSl (d71.getD 4 .bad)).bind fun s76 =>
    some ((.agg [(.int .i64 n72), (.bool t73), (.int .i64 n74), (.slice s75.1 s75.2.1 s75.2.2), (.slice s76.1 s76.2.1 s76.2.2)]), h69, r66.2.2))
    else
    (if ((n4 : Int) == 7) = true then
    (if ((n4 : Int) == 7) = true then
    ((ldR h2 nx 0 8).bind fun l77 =>
    (asAgg 8 (AV.agg l77)).bind fun d78 =>
    (asI .i64 (d78.getD 0 .bad)).bind fun n79 =>
    (asStr (d78.getD 1 .bad)).bind fun s80 =>
    (asStr (d78.getD 2 .bad)).bind fun s81 =>
    (asI .i64 (d78.getD 3 .bad)).bind fun n82 =>
    (asI .i64 (d78.getD 4 .bad)).bind fun n83 =>
    (asI .i64 (d78.getD 5 .bad)).bind fun n84 =>
    (asI .i64 (d78.getD 6 .bad)).bind fun n85 =>
    (asSl (d78.getD 7 .bad)).bind fun s86 =>
    ((callP Try.prog keepT n) Y 26 [(.ptr x0), (.agg [(.int .i64 n79), (.str s80), (.str s81), (.int .i64 n82), (.int .i64 n83), (.int .i64 n84), (.int .i64 n85), (.slice s86.1 s86.2.1 s86.2.2)])] h2 (nx + 16)).bind fun r87 =>
    (asAgg 5 r87.1).bind fun d88 =>
    (asI .i64 (d88.getD 0 .bad)).bind fun n89 =>
    (asB (d88.getD 1 .bad)).bind fun t90 =>
    (asI .i64 (d88.getD 2 .bad)).bind fun n91 =>
    (asSl (d88.getD 3 .bad)).bind fun s92 =>
    (asSl (d88.getD 4 .bad)).bind fun s93 =>
    (stA r87.2.1 (nx + 1) 0 (.agg [(.int .i64 n89), (.bool t90), (.int .i64 n91), (.slice s92.1 s92.2.1 s92.2.2), (.slice s93.1 s93.2.1 s93.2.2)]) 5).bind fun b94 =>
    let h95 := AHeap.put r87.2.1 (nx + 1) (some b94)
    (ldR h95 (nx + 1) 0 5).bind fun l96 =>
    (asAgg 5 (AV.agg l96)).bind fun d97 =>
    (asI .i64 (d97.getD 0 .bad)).bind fun n98 =>
    (asB (d97.getD 1 .bad)).bind fun t99 =>
    (asI .i64 (d97.getD 2 .bad)).bind fun n100 =>
    (asSl (d97.getD 3 .bad)).bind fun s101 =>
    (asSl (d97.getD 4 .bad)).bind fun s102 =>
    some ((.agg [(.int .i64 n98), (.bool t99), (.int .i64 n100), (.slice s101.1 s101.2.1 s101.2.2), (.slice s102.1 s102.2.1 s102.2.2)]), h95, r87.2.2))
    else
    (if ((n4 : Int) == 2) = true then
    (if ((n4 : Int) == 2) = true then
    ((x0).bind fun p103 =>
    (ldA h2 p103.1 p103.2).bind fun v104 =>
    (asMp v104).bind fun m105 =>
    (ldA h2 nx 1).bind fun v106 =>
    (asStr v106).bind fun s107 =>
    (mapO h2 m105).bind fun es108 =>
    (findE s107 es108 0).bind fun o109 =>
    (asSl (valE (.slice none 0 none) o109)).bind fun s110 =>
    if (!(hasE o109)) = true then
    (((callP Try.prog keepT n) Y 23 [(.int .i64 6)] h2 (nx + 30)).bind fun r111 =>
    (asAgg 5 r111.1).bind fun d112 =>
    (asI .i64 (d112.getD 0 .bad)).bind fun n113 =>
    (asB (d112.getD 1 .bad)).bind fun t114 =>
    (asI .i64 (d112.getD 2 .bad)).bind fun n115 =>
    (asSl (d112.getD 3 .bad)).bind fun s116 =>
    (asSl (d112.getD 4 .bad)).bind fun s117 =>
    (stA r111.2.1 (nx + 1) 0 (.agg [(.int .i64 n113), (.bool t114), (.int .i64 n115), (.slice s116.1 s116.2.1 s116.2.2), (.slice s117.1 s117.2.1 s117.2.2)]) 5).bind fun b118 =>
    let h119 := AHeap.put r111.2.1 (nx + 1) (some b118)
    (ldR h119 (nx + 1) 0 5).bind fun l120 =>
    (asAgg 5 (AV.agg l120)).bind fun d121 =>
    (asI .i64 (d121.getD 0 .bad)).bind fun n122 =>
    (asB (d121.getD 1 .bad)).bind fun t123 =>
    (asI .i64 (d121.getD 2 .bad)).bind fun n124 =>
    (asSl (d121.getD 3 .bad)).bind fun s125 =>
    (asSl (d121.getD 4 .bad)).bind fun s126 =>
    some ((.agg [(.int .i64 n122), (.bool t123), (.int .i64 n124), (.slice s125.1 s125.2.1 s125.2.2), (.slice s126.1 s126.2.1 s126.2.2)]), h119, r111.2.2))
    else
    ((ldR h2 nx 0 8).bind fun l127 =>
    (asAgg 8 (AV.agg l127)).bind fun d128 =>
    (asI .i64 (d128.getD 0 .bad)).bind fun n129 =>
    (asStr (d128.getD 1 .bad)).bind fun s130 =>
    (asStr (d128.getD 2 .bad)).bind fun s131 =>
    (asI .i64 (d128.getD 3 .bad)).bind fun n132 =>
    (asI .i64 (d128.getD 4 .bad)).bind fun n133 =>
    (asI .i64 (d128.getD 5 .bad)).bind fun n134 =>
    (asI .i64 (d128.getD 6 .bad)).bind fun n135 =>
    (asSl (d128.getD 7 .bad)).bind fun s136 =>
    ((callP Try.prog keepT n) Y 27 [(.ptr x0), (.slice s110.1 s110.2.1 s110.2.2), (.agg [(.int .i64 n129), (.str s130), (.str s131), (.int .i64 n132), (.int .i64 n133), (.int .i64 n134), (.int .i64 n135), (.slice s136.1 s136.2.1 s136.2.2)])] h2 (nx + 33)).bind fun r137 =>
    (asAgg 5 r137.1).bind fun d138 =>
    (asI .i64 (d138.getD 0 .bad)).bind fun n139 =>
    (asB (d138.getD 1 .bad)).bind fun t140 =>
    (asI .i64 (d138.getD 2 .bad)).bind fun n141 =>
    (asSl (d138.getD 3 .bad)).bind fun s142 =>
    (asSl (d138.getD 4 .bad)).bind fun s143 =>
    (stA r137.2.1 (nx + 1) 0 (.agg [(.int .i64 n139), (.bool t140), (.int .i64 n141), (.slice s142.1 s142.2.1 s142.2.2), (.slice s143.1 s143.2.1 s143.2.2)]) 5).bind fun b144 =>
    let h145 := AHeap.put r137.2.1 (nx + 1) (some b144)
    (ldR h145 (nx + 1) 0 5).bind fun l146 =>
    (asAgg 5 (AV.agg l146)).bind fun d147 =>
    (asI .i64 (d147.getD 0 .bad)).bind fun n148 =>
    (asB (d147.getD 1 .bad)).bind fun t149 =>
    (asI .i64 (d147.getD 2 .bad)).bind fun n150 =>
    (asSl (d147.getD 3 .bad)).bind fun s151 =>
    (asSl (d147.getD 4 .bad)).bind fun s152 =>
    some ((.agg [(.int .i64 n148), (.bool t149), (.int .i64 n150), (.slice s151.1 s151.2.1 s151.2.2), (.slice s152.1 s152.2.1 s152.2.2)]), h145, r137.2.2)))
    else
    (if ((n4 : Int) == 12) = true then
    ((stA h2 (nx + 1) 0 (.agg [(.int .i64 0), (.bool false), (.int .i64 0), (.slice none 0 none), (.slice none 0 none)]) 5).bind fun b153 =>
    let h154 := AHeap.put h2 (nx + 1) (some b153)
    (ldR h154 (nx + 1) 0 5).bind fun l155 =>
    (asAgg 5 (AV.agg l155)).bind fun d156 =>
    (asI .i64 (d156.getD 0 .bad)).bind fun n157 =>
    (asB (d156.getD 1 .bad)).bind fun t158 =>
    (asI .i64 (d156.getD 2 .bad)).bind fun n159 =>
    (asSl (d156.getD 3 .bad)).bind fun s160 =>
    (asSl (d156.getD 4 .bad)).bind fun s161 =>
    some ((.agg [(.int .i64 n157), (.bool t158), (.int .i64 n159), (.slice s160.1 s160.2.1 s160.2.2), (.slice s161.1 s161.2.1 s161.2.2)]), h154, (nx + 18)))
    else
    (((callP Try.prog keepT n) Y 23 [(.int .i64 3)] h2 (nx + 18)).bind fun r162 =>
    (asAgg 5 r162.1).bind fun d163 =>
    (asI .i64 (d163.getD 0 .bad)).bind fun n164 =>
    (asB (d163.getD 1 .bad)).bind fun t165 =>
    (asI .i64 (d163.getD 2 .bad)).bind fun n166 =>
    (asSl (d163.getD 3 .bad)).bind fun s167 =>
    (asSl (d163.getD 4 .bad)).bind fun s168 =>
    (stA r162.2.1 (nx + 1) 0 (.agg [(.int .i64 n164), (.bool t165), (.int .i64 n166), (.slice s167.1 s167.2.1 s167.2.2), (.slice s168.1 s168.2.1 s168.2.2)]) 5).bind fun b169 =>
    let h170 := AHeap.put r162.2.1 (nx + 1) (some b169)
    (ldR h170 (nx + 1) 0 5).bind fun l171 =>
    (asAgg 5 (AV.agg l171)).bind fun d172 =>
    (asI .i64 (d172.getD 0 .bad)).bind fun n173 =>
    (asB (d172.getD 1 .bad)).bind fun t174 =>
    (asI .i64 (d172.getD 2 .bad)).bind fun n175 =>
    (asSl (d172.getD 3 .bad)).bind fun s176 =>
    (asSl (d172.getD 4 .bad)).bind fun s177 =>
    some ((.agg [(.int .i64 n173), (.bool t174), (.int .i64 n175), (.slice s176.1 s176.2.1 s176.2.2), (.slice s177.1 s177.2.1 s177.2.2)]), h170, r162.2.2))))
    else
    (if ((n4 : Int) == 3) = true then
    (if ((n4 : Int) == 3) = true then
    ((x0).bind fun p178 =>
    (ldA h2 p178.1 p178.2).bind fun v179 =>
    (asMp v179).bind fun m180 =>
    (ldA h2 nx 1).bind fun v181 =>
    (asStr v181).bind fun s182 =>
    (mapO h2 m180).bind fun es183 =>
    (findE s182 es183 0).bind fun o184 =>
    (asSl (valE (.slice none 0 none) o184)).bind fun s185 =>
    if (!(hasE o184)) = true then
    (((callP Try.prog keepT n) Y 23 [(.int .i64 6)] h2 (nx + 32)).bind fun r186 =>
    (asAgg 5 r186.1).bind fun d187 =>
    (asI .i64 (d187.getD 0 .bad)).bind fun n188 =>
    (asB (d187.getD 1 .bad)).bind fun t189 =>
    (asI .i64 (d187.getD 2 .bad)).bind fun n190 =>
    (asSl (d187.getD 3 .bad)).bind fun s191 =>
    (asSl (d187.getD 4 .bad)).bind fun s192 =>
    (stA r186.2.1 (nx + 1) 0 (.agg [(.int .i64 n188), (.bool t189), (.int .i64 n190), (.slice s191.1 s191.2.1 s191.2.2), (.slice s192.1 s192.2.1 s192.2.2)]) 5).bind fun b193 =>
    let h194 := AHeap.put r186.2.1 (nx + 1) (some b193)
    (ldR h194 (nx + 1) 0 5).bind fun l195 =>
    (asAgg 5 (AV.agg l195)).bind fun d196 =>
    (asI .i64 (d196.getD 0 .bad)).bind fun n197 =>
    (asB (d196.getD 1 .bad)).bind fun t198 =>
    (asI .i64 (d196.getD 2 .bad)).bind fun n199 =>
    (asSl (d196.getD 3 .bad)).bind fun s200 =>
    (asSl (d196.getD 4 .bad)).bind fun s201 =>
    some ((.agg [(.int .i64 n197), (.bool t198), (.int .i64 n199), (.slice s200.1 s200.2.1 s200.2.2), (.slice s201.1 s201.2.1 s201.2.2)]), h194, r186.2.2))
    else
    ((ldR h2 nx 0 8).bind fun l202 =>
    (asAgg 8 (AV.agg l202)).bind fun d203 =>
    (asI .i64 (d203.getD 0 .bad)).bind fun n204 =>
    (asStr (d203.getD 1 .bad)).bind fun s205 =>
    (asStr (d203.getD 2 .bad)).bind fun s206 =>
    (asI .i64 (d203.getD 3 .bad)).bind fun n207 =>
    (asI .i64 (d203.getD 4 .bad)).bind fun n208 =>
    (asI .i64 (d203.getD 5 .bad)).bind fun n209 =>
    (asI .i64 (d203.getD 6 .bad)).bind fun n210 =>
    (asSl (d203.getD 7 .bad)).bind fun s211 =>
    ((callP Try.prog keepT n) Y 27 [(.ptr x0), (.slice s185.1 s185.2.1 s185.2.2), (.agg [(.int .i64 n204), (.str s205), (.str s206), (.int .i64 n207), (.int .i64 n208), (.int .i64 n209), (.int .i64 n210), (.slice s211.1 s211.2.1 s211.2.2)])] h2 (nx + 35)).bind fun r212 =>
    (asAgg 5 r212.1).bind fun d213 =>
    (asI .i64 (d213.getD 0 .bad)).bind fun n214 =>
    (asB (d213.getD 1 .bad)).bind fun t215 =>
    (asI .i64 (d213.getD 2 .bad)).bind fun n216 =>
    (asSl (d213.getD 3 .bad)).bind fun s217 =>
    (asSl (d213.getD 4 .bad)).bind fun s218 =>
    (stA r212.2.1 (nx + 1) 0 (.agg [(.int .i64 n214), (.bool t215), (.int .i64 n216), (.slice s217.1 s217.2.1 s217.2.2), (.slice s218.1 s218.2.1 s218.2.2)]) 5).bind fun b219 =>
    let h220 := AHeap.put r212.2.1 (nx + 1) (some b219)
    (ldR h220 (nx + 1) 0 5).bind fun l221 =>
    (asAgg 5 (AV.agg l221)).bind fun d222 =>
    (asI .i64 (d222.getD 0 .bad)).bind fun n223 =>
    (asB (d222.getD 1 .bad)).bind fun t224 =>
    (asI .i64 (d222.getD 2 .bad)).bind fun n225 =>
    (asSl (d222.getD 3 .bad)).bind fun s226 =>
    (asSl (d222.getD 4 .bad)).bind fun s227 =>
    some ((.agg [(.int .i64 n223), (.bool t224), (.int .i64 n225), (.slice s226.1 s226.2.1 s226.2.2), (.slice s227.1 s227.2.1 s227.2.2)]), h220, r212.2.2)))
    else
    (if ((n4 : Int) == 12) = true then
    ((stA h2 (nx + 1) 0 (.agg [(.int .i64 0), (.bool false), (.int .i64 0), (.slice none 0 none), (.slice none 0 none)]) 5).bind fun b228 =>
    let h229 := AHeap.put h2 (nx + 1) (some b228)
    (ldR h229 (nx + 1) 0 5).bind fun l230 =>
    (asAgg 5 (AV.agg l230)).bind fun d231 =>
    (asI .i64 (d231.getD 0 .bad)).bind fun n232 =>
    (asB (d231.getD 1 .bad)).bind fun t233 =>
    (asI .i64 (d231.getD 2 .bad)).bind fun n234 =>
    (asSl (d231.getD 3 .bad)).bind fun s235 =>
    (asSl (d231.getD 4 .bad)).bind fun s236 =>
    some ((.agg [(.int .i64 n232), (.bool t233), (.int .i64 n234), (.slice s235.1 s235.2.1 s235.2.2), (.slice s236.1 s236.2.1 s236.2.2)]), h229, (nx + 20)))
    else
    (((callP Try.prog keepT n) Y 23 [(.int .i64 3)] h2 (nx + 20)).bind fun r237 =>
    (asAgg 5 r237.1).bind fun d238 =>
    (asI .i64 (d238.getD 0 .bad)).bind fun n239 =>
    (asB (d238.getD 1 .bad)).bind fun t240 =>
    (asI .i64 (d238.getD 2 .bad)).bind fun n241 =>
    (asSl (d238.getD 3 .bad)).bind fun s242 =>
    (asSl (d238.getD 4 .bad)).bind fun s243 =>
    (stA r237.2.1 (nx + 1) 0 (.agg [(.int .i64 n239), (.bool t240), (.int .i64 n241), (.slice s242.1 s242.2.1 s242.2.2), (.slice s243.1 s243.2.1 s243.2.2)]) 5).bind fun b244 =>
    let h245 := AHeap.put r237.2.1 (nx + 1) (some b244)
    (ldR h245 (nx + 1) 0 5).bind fun l246 =>
    (asAgg 5 (AV.agg l246)).bind fun d247 =>
    (asI .i64 (d247.getD 0 .bad)).bind fun n248 =>
    (asB (d247.getD 1 .bad)).bind fun t249 =>
    (asI .i64 (d247.getD 2 .bad)).bind fun n250 =>
    (asSl (d247.getD 3 .bad)).bind fun s251 =>
    (asSl (d247.getD 4 .bad)).bind fun s252 =>
    some ((.agg [(.int .i64 n248), (.bool t249), (.int .i64 n250), (.slice s251.1 s251.2.1 s251.2.2), (.slice s252.1 s252.2.1 s252.2.2)]), h245, r237.2.2))))
    else
    (if ((n4 : Int) == 4) = true then
    (if ((n4 : Int) == 4) = true then
    ((x0).bind fun p253 =>
    (ldA h2 p253.1 p253.2).bind fun v254 =>
    (asMp v254).bind fun m255 =>
    (ldA h2 nx 1).bind fun v256 =>
    (asStr v256).bind fun s257 =>
    (mapO h2 m255).bind fun es258 =>
    (findE s257 es258 0).bind fun o259 =>
    (asSl (valE (.slice none 0 none) o259)).bind fun s260 =>
    if (!(hasE o259)) = true then
    (((callP Try.prog keepT n) Y 23 [(.int .i64 6)] h2 (nx + 34)).bind fun r261 =>
    (asAgg 5 r261.1).bind fun d262 =>
    (asI .i64 (d262.getD 0 .bad)).bind fun n263 =>
    (asB (d262.getD 1 .bad)).bind fun t264 =>
    (asI .i64 (d262.getD 2 .bad)).bind fun n265 =>
    (asSl (d262.getD 3 .bad)).bind fun s266 =>
    (asSl (d262.getD 4 .bad)).bind fun s267 =>
    (stA r261.2.1 (nx + 1) 0 (.agg [(.int .i64 n263), (.bool t264), (.int .i64 n265), (.slice s266.1 s266.2.1 s266.2.2), (.slice s267.1 s267.2.1 s267.2.2)]) 5).bind fun b268 =>
    let h269 := AHeap.put r261.2.1 (nx + 1) (some b268)
    (ldR h269 (nx + 1) 0 5).bind fun l270 =>
    (asAgg 5 (AV.agg l270)).bind fun d271 =>
    (asI .i64 (d271.getD 0 .bad)).bind fun n272 =>
    (asB (d271.getD 1 .bad)).bind fun t273 =>
    (asI .i64 (d271.getD 2 .bad)).bind fun n274 =>
    (asSl (d271.getD 3 .bad)).bind fun s275 =>
    (asSl (d271.getD 4 .bad)).bind fun s276 =>
    some ((.agg [(.int .i64 n272), (.bool t273), (.int .i64 n274), (.slice s275.1 s275.2.1 s275.2.2), (.slice s276.1 s276.2.1 s276.2.2)]), h269, r261.2.2))
    else
    ((ldR h2 nx 0 8).bind fun l277 =>
    (asAgg 8 (AV.agg l277)).bind fun d278 =>
    (asI .i64 (d278.getD 0 .bad)).bind fun n279 =>
    (asStr (d278.getD 1 .bad)).bind fun s280 =>
    (asStr (d278.getD 2 .bad)).bind fun s281 =>
    (asI .i64 (d278.getD 3 .bad)).bind fun n282 =>
    (asI .i64 (d278.getD 4 .bad)).bind fun n283 =>
    (asI .i64 (d278.getD 5 .bad)).bind fun n284 =>
    (asI .i64 (d278.getD 6 .bad)).bind fun n285 =>
    (asSl (d278.getD 7 .bad)).bind fun s286 =>
    ((callP Try.prog keepT n) Y 27 [(.ptr x0), (.slice s260.1 s260.2.1 s260.2.2), (.agg [(.int .i64 n279), (.str s280), (.str s281), (.int .i64 n282), (.int .i64 n283), (.int .i64 n284), (.int .i64 n285), (.slice s286.1 s286.2.1 s286.2.2)])] h2 (nx + 37)).bind fun r287 =>
    (asAgg 5 r287.1).bind fun d288 =>
    (asI .i64 (d288.getD 0 .bad)).bind fun n289 =>
    (asB (d288.getD 1 .bad)).bind fun t290 =>
    (asI .i64 (d288.getD 2 .bad)).bind fun n291 =>
    (asSl (d288.getD 3 .bad)).bind fun s292 =>
    (asSl (d288.getD 4 .bad)).bind fun s293 =>
    (stA r287.2.1 (nx + 1) 0 (.agg [(.int .i64 n289), (.bool t290), (.int .i64 n291), (.slice s292.1 s292.2.1 s292.2.2), (.slice s293.1 s293.2.1 s293.2.2)]) 5).bind fun b294 =>
    let h295 := AHeap.put r287.2.1 (nx + 1) (some b294)
    (ldR h295 (nx + 1) 0 5).bind fun l296 =>
    (asAgg 5 (AV.agg l296)).bind fun d297 =>
    (asI .i64 (d297.getD 0 .bad)).bind fun n298 =>
    (asB (d297.getD 1 .bad)).bind fun t299 =>
    (asI .i64 (d297.getD 2 .bad)).bind fun n300 =>
    (asSl (d297.getD 3 .bad)).bind fun s301 =>
    (asSl (d297.getD 4 .bad)).bind fun s302 =>
    some ((.agg [(.int .i64 n298), (.bool t299), (.int .i64 n300), (.slice s301.1 s301.2.1 s301.2.2), (.slice s302.1 s302.2.1 s302.2.2)]), h295, r287.2.2)))
    else
    (if ((n4 : Int) == 12) = true then
    ((stA h2 (nx + 1) 0 (.agg [(.int .i64 0), (.bool false), (.int .i64 0), (.slice none 0 none), (.slice none 0 none)]) 5).bind fun b303 =>
    let h304 := AHeap.put h2 (nx + 1) (some b303)
    (ldR h304 (nx + 1) 0 5).bind fun l305 =>
    (asAgg 5 (AV.agg l305)).bind fun d306 =>
    (asI .i64 (d306.getD 0 .bad)).bind fun n307 =>
    (asB (d306.getD 1 .bad)).bind fun t308 =>
    (asI .i64 (d306.getD 2 .bad)).bind fun n309 =>
    (asSl (d306.getD 3 .bad)).bind fun s310 =>
    (asSl (d306.getD 4 .bad)).bind fun s311 =>
    some ((.agg [(.int .i64 n307), (.bool t308), (.int .i64 n309), (.slice s310.1 s310.2.1 s310.2.2), (.slice s311.1 s311.2.1 s311.2.2)]), h304, (nx + 22)))
    else
    (((callP Try.prog keepT n) Y 23 [(.int .i64 3)] h2 (nx + 22)).bind fun r312 =>
    (asAgg 5 r312.1).bind fun d313 =>
    (asI .i64 (d313.getD 0 .bad)).bind fun n314 =>
    (asB (d313.getD 1 .bad)).bind fun t315 =>
    (asI .i64 (d313.getD 2 .bad)).bind fun n316 =>
    (asSl (d313.getD 3 .bad)).bind fun s317 =>
    (asSl (d313.getD 4 .bad)).bind fun s318 =>
    (stA r312.2.1 (nx + 1) 0 (.agg [(.int .i64 n314), (.bool t315), (.int .i64 n316), (.slice s317.1 s317.2.1 s317.2.2), (.slice s318.1 s318.2.1 s318.2.2)]) 5).bind fun b319 =>
    let h320 := AHeap.put r312.2.1 (nx + 1) (some b319)
    (ldR h320 (nx + 1) 0 5).bind fun l321 =>
    (asAgg 5 (AV.agg l321)).bind fun d322 =>
    (asI .i64 (d322.getD 0 .bad)).bind fun n323 =>
    (asB (d322.getD 1 .bad)).bind fun t324 =>
    (asI .i64 (d322.getD 2 .bad)).bind fun n325 =>
    (asSl (d322.getD 3 .bad)).bind fun s326 =>
    (asSl (d322.getD 4 .bad)).bind fun s327 =>
    some ((.agg [(.int .i64 n323), (.bool t324), (.int .i64 n325), (.slice s326.1 s326.2.1 s326.2.2), (.slice s327.1 s327.2.1 s327.2.2)]), h320, r312.2.2))))
    else
    (if ((n4 : Int) == 5) = true then
    ((x0).bind fun p328 =>
    (ldA h2 p328.1 p328.2).bind fun v329 =>
    (asMp v329).bind fun m330 =>
    (ldA h2 nx 1).bind fun v331 =>
    (asStr v331).bind fun s332 =>
    (mapO h2 m330).bind fun es333 =>
    (findE s332 es333 0).bind fun o334 =>
    (asSl (valE (.slice none 0 none) o334)).bind fun s335 =>
    if (!(hasE o334)) = true then
    (((callP Try.prog keepT n) Y 23 [(.int .i64 6)] h2 (nx + 36)).bind fun r336 =>
    (asAgg 5 r336.1).bind fun d337 =>
    (asI .i64 (d337.getD 0 .bad)).bind fun n338 =>
    (asB (d337.getD 1 .bad)).bind fun t339 =>
    (asI .i64 (d337.getD 2 .bad)).bind fun n340 =>
    (asSl (d337.getD 3 .bad)).bind fun s341 =>
    (asSl (d337.getD 4 .bad)).bind fun s342 =>
    (stA r336.2.1 (nx + 1) 0 (.agg [(.int .i64 n338), (.bool t339), (.int .i64 n340), (.slice s341.1 s341.2.1 s341.2.2), (.slice s342.1 s342.2.1 s342.2.2)]) 5).bind fun b343 =>
    let h344 := AHeap.put r336.2.1 (nx + 1) (some b343)
    (ldR h344 (nx + 1) 0 5).bind fun l345 =>
    (asAgg 5 (AV.agg l345)).bind fun d346 =>
    (asI .i64 (d346.getD 0 .bad)).bind fun n347 =>
    (asB (d346.getD 1 .bad)).bind fun t348 =>
    (asI .i64 (d346.getD 2 .bad)).bind fun n349 =>
    (asSl (d346.getD 3 .bad)).bind fun s350 =>
    (asSl (d346.getD 4 .bad)).bind fun s351 =>
    some ((.agg [(.int .i64 n347), (.bool t348), (.int .i64 n349), (.slice s350.1 s350.2.1 s350.2.2), (.slice s351.1 s351.2.1 s351.2.2)]), h344, r336.2.2))
    else
    ((ldR h2 nx 0 8).bind fun l352 =>
    (asAgg 8 (AV.agg l352)).bind fun d353 =>
    (asI .i64 (d353.getD 0 .bad)).bind fun n354 =>
    (asStr (d353.getD 1 .bad)).bind fun s355 =>
    (asStr (d353.getD 2 .bad)).bind fun s356 =>
    (asI .i64 (d353.getD 3 .bad)).bind fun n357 =>
    (asI .i64 (d353.getD 4 .bad)).bind fun n358 =>
    (asI .i64 (d353.getD 5 .bad)).bind fun n359 =>
    (asI .i64 (d353.getD 6 .bad)).bind fun n360 =>
    (asSl (d353.getD 7 .bad)).bind fun s361 =>
    ((callP Try.prog keepT n) Y 27 [(.ptr x0), (.slice s335.1 s335.2.1 s335.2.2), (.agg [(.int .i64 n354), (.str s355), (.str s356), (.int .i64 n357), (.int .i64 n358), (.int .i64 n359), (.int .i64 n360), (.slice s361.1 s361.2.1 s361.2.2)])] h2 (nx + 39)).bind fun r362 =>
    (asAgg 5 r362.1).bind fun d363 =>
    (asI .i64 (d363.getD 0 .bad)).bind fun n364 =>
    (asB (d363.getD 1 .bad)).bind fun t365 =>
    (asI .i64 (d363.getD 2 .bad)).bind fun n366 =>
    (asSl (d363.getD 3 .bad)).bind fun s367 =>
    (asSl (d363.getD 4 .bad)).bind fun s368 =>
    (stA r362.2.1 (nx + 1) 0 (.agg [(.int .i64 n364), (.bool t365), (.int .i64 n366), (.slice s367.1 s367.2.1 s367.2.2), (.slice s368.1 s368.2.1 s368.2.2)]) 5).bind fun b369 =>
    let h370 := AHeap.put r362.2.1 (nx + 1) (some b369)
    (ldR h370 (nx + 1) 0 5).bind fun l371 =>
    (asAgg 5 (AV.agg l371)).bind fun d372 =>
    (asI .i64 (d372.getD 0 .bad)).bind fun n373 =>
    (asB (d372.getD 1 .bad)).bind fun t374 =>
    (asI .i64 (d372.getD 2 .bad)).bind fun n375 =>
    (asSl (d372.getD 3 .bad)).bind fun s376 =>
    (asSl (d372.getD 4 .bad)).bind fun s377 =>
    some ((.agg [(.int .i64 n373), (.bool t374), (.int .i64 n375), (.slice s376.1 s376.2.1 s376.2.2), (.slice s377.1 s377.2.1 s377.2.2)]), h370, r362.2.2)))
    else
    (if ((n4 : Int) == 12) = true then
    ((stA h2 (nx + 1) 0 (.agg [(.int .i64 0), (.bool false), (.int .i64 0), (.slice none 0 none), (.slice none 0 none)]) 5).bind fun b378 =>
    let h379 := AHeap.put h2 (nx + 1) (some b378)
    (ldR h379 (nx + 1) 0 5).bind fun l380 =>
    (asAgg 5 (AV.agg l380)).bind fun d381 =>
    (asI .i64 (d381.getD 0 .bad)).bind fun n382 =>
    (asB (d381.getD 1 .bad)).bind fun t383 =>
    (asI .i64 (d381.getD 2 .bad)).bind fun n384 =>
    (asSl (d381.getD 3 .bad)).bind fun s385 =>
    (asSl (d381.getD 4 .bad)).bind fun s386 =>
    some ((.agg [(.int .i64 n382), (.bool t383), (.int .i64 n384), (.slice s385.1 s385.2.1 s385.2.2), (.slice s386.1 s386.2.1 s386.2.2)]), h379, (nx + 24)))
    else
    (((callP Try.prog keepT n) Y 23 [(.int .i64 3)] h2 (nx + 24)).bind fun r387 =>
    (asAgg 5 r387.1).bind fun d388 =>
    (asI .i64 (d388.getD 0 .bad)).bind fun n389 =>
    (asB (d388.getD 1 .bad)).bind fun t390 =>
    (asI .i64 (d388.getD 2 .bad)).bind fun n391 =>
    (asSl (d388.getD 3 .bad)).bind fun s392 =>
    (asSl (d388.getD 4 .bad)).bind fun s393 =>
    (stA r387.2.1 (nx + 1) 0 (.agg [(.int .i64 n389), (.bool t390), (.int .i64 n391), (.slice s392.1 s392.2.1 s392.2.2), (.slice s393.1 s393.2.1 s393.2.2)]) 5).bind fun b394 =>
    let h395 := AHeap.put r387.2.1 (nx + 1) (some b394)
    (ldR h395 (nx + 1) 0 5).bind fun l396 =>
    (asAgg 5 (AV.agg l396)).bind fun d397 =>
    (asI .i64 (d397.getD 0 .bad)).bind fun n398 =>
    (asB (d397.getD 1 .bad)).bind fun t399 =>
    (asI .i64 (d397.getD 2 .bad)).bind fun n400 =>
    (asSl (d397.getD 3 .bad)).bind fun s401 =>
    (asSl (d397.getD 4 .bad)).bind fun s402 =>
    some ((.agg [(.int .i64 n398), (.bool t399), (.int .i64 n400), (.slice s401.1 s401.2.1 s401.2.2), (.slice s402.1 s402.2.1 s402.2.2)]), h395, r387.2.2))))))))
    else
    (if ((n4 : Int) == 8) = true then
    (if ((n4 : Int) == 8) = true then
    ((ldR h2 nx 0 8).bind fun l403 =>
    (asAgg 8 (AV.agg l403)).bind fun d404 =>
    (asI .i64 (d404.getD 0 .bad)).bind fun n405 =>
    (asStr (d404.getD 1 .bad)).bind fun s406 =>
    (asStr (d404.getD 2 .bad)).bind fun s407 =>
    (asI .i64 (d404.getD 3 .bad)).bind fun n408 =>
    (asI .i64 (d404.getD 4 .bad)).bind fun n409 =>
    (asI .i64 (d404.getD 5 .bad)).bind fun n410 =>
    (asI .i64 (d404.getD 6 .bad)).bind fun n411 =>
    (asSl (d404.getD 7 .bad)).bind fun s412 =>
    ((callP Try.prog keepT n) Y 26 [(.ptr x0), (.agg [(.int .i64 n405), (.str s406), (.str s407), (.int .i64 n408), (.int .i64 n409), (.int .i64 n410), (.int .i64 n411), (.slice s412.1 s412.2.1 s412.2.2)])] h2 (nx + 18)).bind fun r413 =>
    (asAgg 5 r413.1).bind fun d414 =>
    (asI .i64 (d414.getD 0 .bad)).bind fun n415 =>
    (asB (d414.getD 1 .bad)).bind fun t416 =>
    (asI .i64 (d414.getD 2 .bad)).bind fun n417 =>
    (asSl (d414.getD 3 .bad)).bind fun s418 =>
    (asSl (d414.getD 4 .bad)).bind fun s419 =>
    (stA r413.2.1 (nx + 1) 0 (.agg [(.int .i64 n415), (.bool t416), (.int .i64 n417), (.slice s418.1 s418.2.1 s418.2.2), (.slice s419.1 s419.2.1 s419.2.2)]) 5).bind fun b420 =>
    let h421 := AHeap.put r413.2.1 (nx + 1) (some b420)
    (ldR h421 (nx + 1) 0 5).bind fun l422 =>
    (asAgg 5 (AV.agg l422)).bind fun d423 =>
    (asI .i64 (d423.getD 0 .bad)).bind fun n424 =>
    (asB (d423.getD 1 .bad)).bind fun t425 =>
    (asI .i64 (d423.getD 2 .bad)).bind fun n426 =>
    (asSl (d423.getD 3 .bad)).bind fun s427 =>
    (asSl (d423.getD 4 .bad)).bind fun s428 =>
    some ((.agg [(.int .i64 n424), (.bool t425), (.int .i64 n426), (.slice s427.1 s427.2.1 s427.2.2), (.slice s428.1 s428.2.1 s428.2.2)]), h421, r413.2.2))
    else
    (if ((n4 : Int) == 2) = true then
    (if ((n4 : Int) == 2) = true then
    ((x0).bind fun p429 =>
    (ldA h2 p429.1 p429.2).bind fun v430 =>
    (asMp v430).bind fun m431 =>
    (ldA h2 nx 1).bind fun v432 =>
    (asStr v432).bind fun s433 =>
    (mapO h2 m431).bind fun es434 =>
    (findE s433 es434 0).bind fun o435 =>
    (asSl (valE (.slice none 0 none) o435)).bind fun s436 =>
    if (!(hasE o435)) = true then
    (((callP Try.prog keepT n) Y 23 [(.int .i64 6)] h2 (nx + 32)).bind fun r437 =>
    (asAgg 5 r437.1).bind fun d438 =>
    (asI .i64 (d438.getD 0 .bad)).bind fun n439 =>
    (asB (d438.getD 1 .bad)).bind fun t440 =>
    (asI .i64 (d438.getD 2 .bad)).bind fun n441 =>
    (asSl (d438.getD 3 .bad)).bind fun s442 =>
    (asSl (d438.getD 4 .bad)).bind fun s443 =>
    (stA r437.2.1 (nx + 1) 0 (.agg [(.int .i64 n439), (.bool t440), (.int .i64 n441), (.slice s442.1 s442.2.1 s442.2.2), (.slice s443.1 s443.2.1 s443.2.2)]) 5).bind fun b444 =>
    let h445 := AHeap.put r437.2.1 (nx + 1) (some b444)
    (ldR h445 (nx + 1) 0 5).bind fun l446 =>
    (asAgg 5 (AV.agg l446)).bind fun d447 =>
    (asI .i64 (d447.getD 0 .bad)).bind fun n448 =>
    (asB (d447.getD 1 .bad)).bind fun t449 =>
    (asI .i64 (d447.getD 2 .bad)).bind fun n450 =>
    (asSl (d447.getD 3 .bad)).bind fun s451 =>
    (asSl (d447.getD 4 .bad)).bind fun s452 =>
    some ((.agg [(.int .i64 n448), (.bool t449), (.int .i64 n450), (.slice s451.1 s451.2.1 s451.2.2), (.slice s452.1 s452.2.1 s452.2.2)]), h445, r437.2.2))
    else
    ((ldR h2 nx 0 8).bind fun l453 =>
    (asAgg 8 (AV.agg l453)).bind fun d454 =>
    (asI .i64 (d454.getD 0 .bad)).bind fun n455 =>
    (asStr (d454.getD 1 .bad)).bind fun s456 =>
    (asStr (d454.getD 2 .bad)).bind fun s457 =>
    (asI .i64 (d454.getD 3 .bad)).bind fun n458 =>
    (asI .i64 (d454.getD 4 .bad)).bind fun n459 =>
    (asI .i64 (d454.getD 5 .bad)).bind fun n460 =>
    (asI .i64 (d454.getD 6 .bad)).bind fun n461 =>
    (asSl (d454.getD 7 .bad)).bind fun s462 =>
    ((callP Try.prog keepT n) Y 27 [(.ptr x0), (.slice s436.1 s436.2.1 s436.2.2), (.agg [(.int .i64 n455), (.str s456), (.str s457), (.int .i64 n458), (.int .i64 n459), (.int .i64 n460), (.int .i64 n461), (.slice s462.1 s462.2.1 s462.2.2)])] h2 (nx + 35)).bind fun r463 =>
    (asAgg 5 r463.1).bind fun d464 =>
    (asI .i64 (d464.getD 0 .bad)).bind fun n465 =>
    (asB (d464.getD 1 .bad)).bind fun t466 =>
    (asI .i64 (d464.getD 2 .bad)).bind fun n467 =>
    (asSl (d464.getD 3 .bad)).bind fun s468 =>
    (asSl (d464.getD 4 .bad)).bind fun s469 =>
    (stA r463.2.1 (nx + 1) 0 (.agg [(.int .i64 n465), (.bool t466), (.int .i64 n467), (.slice s468.1 s468.2.1 s468.2.2), (.slice s469.1 s469.2.1 s469.2.2)]) 5).bind fun b470 =>
    let h471 := AHeap.put r463.2.1 (nx + 1) (some b470)
    (ldR h471 (nx + 1) 0 5).bind fun l472 =>
    (asAgg 5 (AV.agg l472)).bind fun d473 =>
    (asI .i64 (d473.getD 0 .bad)).bind fun n474 =>
    (asB (d473.getD 1 .bad)).bind fun t475 =>
    (asI .i64 (d473.getD 2 .bad)).bind fun n476 =>
    (asSl (d473.getD 3 .bad)).bind fun s477 =>
    (asSl (d473.getD 4 .bad)).bind fun s478 =>
    some ((.agg [(.int .i64 n474), (.bool t475), (.int .i64 n476), (.slice s477.1 s477.2.1 s477.2.2), (.slice s478.1 s478.2.1 s478.2.2)]), h471, r463.2.2)))
    else
    (if ((n4 : Int) == 12) = true then
    ((stA h2 (nx + 1) 0 (.agg [(.int .i64 0), (.bool false), (.int .i64 0), (.slice none 0 none), (.slice none 0 none)]) 5).bind fun b479 =>
    let h480 := AHeap.put h2 (nx + 1) (some b479)
    (ldR h480 (nx + 1) 0 5).bind fun l481 =>
    (asAgg 5 (AV.agg l481)).bind fun d482 =>
    (asI .i64 (d482.getD 0 .bad)).bind fun n483 =>
    (asB (d482.getD 1 .bad)).bind fun t484 =>
    (asI .i64 (d482.getD 2 .bad)).bind fun n485 =>
    (asSl (d482.getD 3 .bad)).bind fun s486 =>
    (asSl (d482.getD 4 .bad)).bind fun s487 =>
    some ((.agg [(.int .i64 n483), (.bool t484), (.int .i64 n485), (.slice s486.1 s486.2.1 s486.2.2), (.slice s487.1 s487.2.1 s487.2.2)]), h480, (nx + 20)))
    else
    (((callP Try.prog keepT n) Y 23 [(.int .i64 3)] h2 (nx + 20)).bind fun r488 =>
    (asAgg 5 r488.1).bind fun d489 =>
    (asI .i64 (d489.getD 0 .bad)).bind fun n490 =>
    (asB (d489.getD 1 .bad)).bind fun t491 =>
    (asI .i64 (d489.getD 2 .bad)).bind fun n492 =>
    (asSl (d489.getD 3 .bad)).bind fun s493 =>
    (asSl (d489.getD 4 .bad)).bind fun s494 =>
    (stA r488.2.1 (nx + 1) 0 (.agg [(.int .i64 n490), (.bool t491), (.int .i64 n492), (.slice s493.1 s493.2.1 s493.2.2), (.slice s494.1 s494.2.1 s494.2.2)]) 5).bind fun b495 =>
    let h496 := AHeap.put r488.2.1 (nx + 1) (some b495)
    (ldR h496 (nx + 1) 0 5).bind fun l497 =>
    (asAgg 5 (AV.agg l497)).bind fun d498 =>
    (asI .i64 (d498.getD 0 .bad)).bind fun n499 =>
    (asB (d498.getD 1 .bad)).bind fun t500 =>
    (asI .i64 (d498.getD 2 .bad)).bind fun n501 =>
    (asSl (d498.getD 3 .bad)).bind fun s502 =>
    (asSl (d498.getD 4 .bad)).bind fun s503 =>
    some ((.agg [(.int .i64 n499), (.bool t500), (.int .i64 n501), (.slice s502.1 s502.2.1 s502.2.2), (.slice s503.1 s503.2.1 s503.2.2)]), h496, r488.2.2))))
    else
    (if ((n4 : Int) == 3) = true then
    (if ((n4 : Int) == 3) = true then
    ((x0).bind fun p504 =>
    (ldA h2 p504.1 p504.2).bind fun v505 =>
    (asMp v505).bind fun m506 =>
    (ldA h2 nx 1).bind fun v507 =>
    (asStr v507).bind fun s508 =>
    (mapO h2 m506).bind fun es509 =>
    (findE s508 es509 0).bind fun o510 =>
    (asSl (valE (.slice none 0 none) o510)).bind fun s511 =>
    if (!(hasE o510)) = true then
    (((callP Try.prog keepT n) Y 23 [(.int .i64 6)] h2 (nx + 34)).bind fun r512 =>
    (asAgg 5 r512.1).bind fun d513 =>
    (asI .i64 (d513.getD 0 .bad)).bind fun n514 =>
    (asB (d513.getD 1 .bad)).bind fun t515 =>
    (asI .i64 (d513.getD 2 .bad)).bind fun n516 =>
    (asSl (d513.getD 3 .bad)).bind fun s517 =>
    (asSl (d513.getD 4 .bad)).bind fun s518 =>
    (stA r512.2.1 (nx + 1) 0 (.agg [(.int .i64 n514), (.bool t515), (.int .i64 n516), (.slice s517.1 s517.2.1 s517.2.2), (.slice s518.1 s518.2.1 s518.2.2)]) 5).bind fun b519 =>
    let h520 := AHeap.put r512.2.1 (nx + 1) (some b519)
    (ldR h520 (nx + 1) 0 5).bind fun l521 =>
    (asAgg 5 (AV.agg l521)).bind fun d522 =>
    (asI .i64 (d522.getD 0 .bad)).bind fun n523 =>
    (asB (d522.getD 1 .bad)).bind fun t524 =>
    (asI .i64 (d522.getD 2 .bad)).bind fun n525 =>
    (asSl (d522.getD 3 .bad)).bind fun s526 =>
    (asSl (d522.getD 4 .bad)).bind fun s527 =>
    some ((.agg [(.int .i64 n523), (.bool t524), (.int .i64 n525), (.slice s526.1 s526.2.1 s526.2.2), (.slice s527.1 s527.2.1 s527.2.2)]), h520, r512.2.2))
    else
    ((ldR h2 nx 0 8).bind fun l528 =>
    (asAgg 8 (AV.agg l528)).bind fun d529 =>
    (asI .i64 (d529.getD 0 .bad)).bind fun n530 =>
    (asStr (d529.getD 1 .bad)).bind fun s531 =>
    (asStr (d529.getD 2 .bad)).bind fun s532 =>
    (asI .i64 (d529.getD 3 .bad)).bind fun n533 =>
    (asI .i64 (d529.getD 4 .bad)).bind fun n534 =>
    (asI .i64 (d529.getD 5 .bad)).bind fun n535 =>
    (asI .i64 (d529.getD 6 .bad)).bind fun n536 =>
    (asSl (d529.getD 7 .bad)).bind fun s537 =>
    ((callP Try.prog keepT n) Y 27 [(.ptr x0), (.slice s511.1 s511.2.1 s511.2.2), (.agg [(.int .i64 n530), (.str s531), (.str s532), (.int .i64 n533), (.int .i64 n534), (.int .i64 n535), (.int .i64 n536), (.slice s537.1 s537.2.1 s537.2.2)])] h2 (nx + 37)).bind fun r538 =>
    (asAgg 5 r538.1).bind fun d539 =>
    (asI .i64 (d539.getD 0 .bad)).bind fun n540 =>
    (asB (d539.getD 1 .bad)).bind fun t541 =>
    (asI .i64 (d539.getD 2 .bad)).bind fun n542 =>
    (asSl (d539.getD 3 .bad)).bind fun s543 =>
    (asSl (d539.getD 4 .bad)).bind fun s544 =>
    (stA r538.2.1 (nx + 1) 0 (.agg [(.int .i64 n540), (.bool t541), (.int .i64 n542), (.slice s543.1 s543.2.1 s543.2.2), (.slice s544.1 s544.2.1 s544.2.2)]) 5).bind fun b545 =>
    let h546 := AHeap.put r538.2.1 (nx + 1) (some b545)
    (ldR h546 (nx + 1) 0 5).bind fun l547 =>
    (asAgg 5 (AV.agg l547)).bind fun d548 =>
    (asI .i64 (d548.getD 0 .bad)).bind fun n549 =>
    (asB (d548.getD 1 .bad)).bind fun t550 =>
    (asI .i64 (d548.getD 2 .bad)).bind fun n551 =>
    (asSl (d548.getD 3 .bad)).bind fun s552 =>
    (asSl (d548.getD 4 .bad)).bind fun s553 =>
    some ((.agg [(.int .i64 n549), (.bool t550), (.int .i64 n551), (.slice s552.1 s552.2.1 s552.2.2), (.slice s553.1 s553.2.1 s553.2.2)]), h546, r538.2.2)))
    else
    (if ((n4 : Int) == 12) = true then
    ((stA h2 (nx + 1) 0 (.agg [(.int .i64 0), (.bool false), (.int .i64 0), (.slice none 0 none), (.slice none 0 none)]) 5).bind fun b554 =>
    let h555 := AHeap.put h2 (nx + 1) (some b554)
    (ldR h555 (nx + 1) 0 5).bind fun l556 =>
    (asAgg 5 (AV.agg l556)).bind fun d557 =>
    (asI .i64 (d557.getD 0 .bad)).bind fun n558 =>
    (asB (d557.getD 1 .bad)).bind fun t559 =>
    (asI .i64 (d557.getD 2 .bad)).bind fun n560 =>
    (asSl (d557.getD 3 .bad)).bind fun s561 =>
    (asSl (d557.getD 4 .bad)).bind fun s562 =>
    some ((.agg [(.int .i64 n558), (.bool t559), (.int .i64 n560), (.slice s561.1 s561.2.1 s561.2.2), (.slice s562.1 s562.2.1 s562.2.2)]), h555, (nx + 22)))
    else
    (((callP Try.prog keepT n) Y 23 [(.int .i64 3)] h2 (nx + 22)).bind fun r563 =>
    (asAgg 5 r563.1).bind fun d564 =>
    (asI .i64 (d564.getD 0 .bad)).bind fun n565 =>
    (asB (d564.getD 1 .bad)).bind fun t566 =>
    (asI .i64 (d564.getD 2 .bad)).bind fun n567 =>
    (asSl (d564.getD 3 .bad)).bind fun s568 =>
    (asSl (d564.getD 4 .bad)).bind fun s569 =>
    (stA r563.2.1 (nx + 1) 0 (.agg [(.int .i64 n565), (.bool t566), (.int .i64 n567), (.slice s568.1 s568.2.1 s568.2.2), (.slice s569.1 s569.2.1 s569.2.2)]) 5).bind fun b570 =>
    let h571 := AHeap.put r563.2.1 (nx + 1) (some b570)
    (ldR h571 (nx + 1) 0 5).bind fun l572 =>
    (asAgg 5 (AV.agg l572)).bind fun d573 =>
    (asI .i64 (d573.getD 0 .bad)).bind fun n574 =>
    (asB (d573.getD 1 .bad)).bind fun t575 =>
    (asI .i64 (d573.getD 2 .bad)).bind fun n576 =>
    (asSl (d573.getD 3 .bad)).bind fun s577 =>
    (asSl (d573.getD 4 .bad)).bind fun s578 =>
    some ((.agg [(.int .i64 n574), (.bool t575), (.int .i64 n576), (.slice s577.1 s577.2.1 s577.2.2), (.slice s578.1 s578.2.1 s578.2.2)]), h571, r563.2.2))))
    else
    (if ((n4 : Int) == 4) = true then
    (if ((n4 : Int) == 4) = true then
    ((x0).bind fun p579 =>
    (ldA h2 p579.1 p579.2).bind fun v580 =>
    (asMp v580).bind fun m581 =>
    (ldA h2 nx 1).bind fun v582 =>
    (asStr v582).bind fun s583 =>
    (mapO h2 m581).bind fun es584 =>
    (findE s583 es584 0).bind fun o585 =>
    (asSl (valE (.slice none 0 none) o585)).bind fun s586 =>
    if (!(hasE o585)) = true then
    (((callP Try.prog keepT n) Y 23 [(.int .i64 6)] h2 (nx + 36)).bind fun r587 =>
    (asAgg 5 r587.1).bind fun d588 =>
    (asI .i64 (d588.getD 0 .bad)).bind fun n589 =>
    (asB (d588.getD 1 .bad)).bind fun t590 =>
    (asI .i64 (d588.getD 2 .bad)).bind fun n591 =>
    (asSl (d588.getD 3 .bad)).bind fun s592 =>
    (asSl (d588.getD 4 .bad)).bind fun s593 =>
    (stA r587.2.1 (nx + 1) 0 (.agg [(.int .i64 n589), (.bool t590), (.int .i64 n591), (.slice s592.1 s592.2.1 s592.2.2), (.slice s593.1 s593.2.1 s593.2.2)]) 5).bind fun b594 =>
    let h595 := AHeap.put r587.2.1 (nx + 1) (some b594)
    (ldR h595 (nx + 1) 0 5).bind fun l596 =>
    (asAgg 5 (AV.agg l596)).bind fun d597 =>
    (asI .i64 (d597.getD 0 .bad)).bind fun n598 =>
    (asB (d597.getD 1 .bad)).bind fun t599 =>
    (asI .i64 (d597.getD 2 .bad)).bind fun n600 =>
    (asSl (d597.getD 3 .bad)).bind fun s601 =>
    (asSl (d597.getD 4 .bad)).bind fun s602 =>
    some ((.agg [(.int .i64 n598), (.bool t599), (.int .i64 n600), (.slice s601.1 s601.2.1 s601.2.2), (.slice s602.1 s602.2.1 s602.2.2)]), h595, r587.2.2))
    else
    ((ldR h2 nx 0 8).bind fun l603 =>
    (asAgg 8 (AV.agg l603)).bind fun d604 =>
    (asI .i64 (d604.getD 0 .bad)).bind fun n605 =>
    (asStr (d604.getD 1 .bad)).bind fun s606 =>
    (asStr (d604.getD 2 .bad)).bind fun s607 =>
    (asI .i64 (d604.getD 3 .bad)).bind fun n608 =>
    (asI .i64 (d604.getD 4 .bad)).bind fun n609 =>
    (asI .i64 (d604.getD 5 .bad)).bind fun n610 =>
    (asI .i64 (d604.getD 6 .bad)).bind fun n611 =>
    (asSl (d604.getD 7 .bad)).bind fun s612 =>
    ((callP Try.prog keepT n) Y 27 [(.ptr x0), (.slice s586.1 s586.2.1 s586.2.2), (.agg [(.int .i64 n605), (.str s606), (.str s607), (.int .i64 n608), (.int .i64 n609), (.int .i64 n610), (.int .i64 n611), (.slice s612.1 s612.2.1 s612.2.2)])] h2 (nx + 39)).bind fun r613 =>
    (asAgg 5 r613.1).bind fun d614 =>
    (asI .i64 (d614.getD 0 .bad)).bind fun n615 =>
    (asB (d614.getD 1 .bad)).bind fun t616 =>
    (asI .i64 (d614.getD 2 .bad)).bind fun n617 =>
    (asSl (d614.getD 3 .bad)).bind fun s618 =>
    (asSl (d614.getD 4 .bad)).bind fun s619 =>
    (stA r613.2.1 (nx + 1) 0 (.agg [(.int .i64 n615), (.bool t616), (.int .i64 n617), (.slice s618.1 s618.2.1 s618.2.2), (.slice s619.1 s619.2.1 s619.2.2)]) 5).bind fun b620 =>
    let h621 := AHeap.put r613.2.1 (nx + 1) (some b620)
    (ldR h621 (nx + 1) 0 5).bind fun l622 =>
    (asAgg 5 (AV.agg l622)).bind fun d623 =>
    (asI .i64 (d623.getD 0 .bad)).bind fun n624 =>
    (asB (d623.getD 1 .bad)).bind fun t625 =>
    (asI .i64 (d623.getD 2 .bad)).bind fun n626 =>
    (asSl (d623.getD 3 .bad)).bind fun s627 =>
    (asSl (d623.getD 4 .bad)).bind fun s628 =>
    some ((.agg [(.int .i64 n624), (.bool t625), (.int .i64 n626), (.slice s627.1 s627.2.1 s627.2.2), (.slice s628.1 s628.2.1 s628.2.2)]), h621, r613.2.2)))
    else
    (if ((n4 : Int) == 12) = true then
    ((stA h2 (nx + 1) 0 (.agg [(.int .i64 0), (.bool false), (.int .i64 0), (.slice none 0 none), (.slice none 0 none)]) 5).bind fun b629 =>
    let h630 := AHeap.put h2 (nx + 1) (some b629)
    (ldR h630 (nx + 1) 0 5).bind fun l631 =>
    (asAgg 5 (AV.agg l631)).bind fun d632 =>
    (asI .i64 (d632.getD 0 .bad)).bind fun n633 =>
    (asB (d632.getD 1 .bad)).bind fun t634 =>
    (asI .i64 (d632.getD 2 .bad)).bind fun n635 =>
    (asSl (d632.getD 3 .bad)).bind fun s636 =>
    (asSl (d632.getD 4 .bad)).bind fun s637 =>
    some ((.agg [(.int .i64 n633), (.bool t634), (.int .i64 n635), (.slice s636.1 s636.2.1 s636.2.2), (.slice s637.1 s637.2.1 s637.2.2)]), h630, (nx + 24)))
    else
    (((callP Try.prog keepT n) Y 23 [(.int .i64 3)] h2 (nx + 24)).bind fun r638 =>
    (asAgg 5 r638.1).bind fun d639 =>
    (asI .i64 (d639.getD 0 .bad)).bind fun n640 =>
    (asB (d639.getD 1 .bad)).bind fun t641 =>
    (asI .i64 (d639.getD 2 .bad)).bind fun n642 =>
    (asSl (d639.getD 3 .bad)).bind fun s643 =>
    (asSl (d639.getD 4 .bad)).bind fun s644 =>
    (stA r638.2.1 (nx + 1) 0 (.agg [(.int .i64 n640), (.bool t641), (.int .i64 n642), (.slice s643.1 s643.2.1 s643.2.2), (.slice s644.1 s644.2.1 s644.2.2)]) 5).bind fun b645 =>
    let h646 := AHeap.put r638.2.1 (nx + 1) (some b645)
    (ldR h646 (nx + 1) 0 5).bind fun l647 =>
    (asAgg 5 (AV.agg l647)).bind fun d648 =>
    (asI .i64 (d648.getD 0 .bad)).bind fun n649 =>
    (asB (d648.getD 1 .bad)).bind fun t650 =>
    (asI .i64 (d648.getD 2 .bad)).bind fun n651 =>
    (asSl (d648.getD 3 .bad)).bind fun s652 =>
    (asSl (d648.getD 4 .bad)).bind fun s653 =>
    some ((.agg [(.int .i64 n649), (.bool t650), (.int .i64 n651), (.slice s652.1 s652.2.1 s652.2.2), (.slice s653.1 s653.2.1 s653.2.2)]), h646, r638.2.2))))
    else
    (if ((n4 : Int) == 5) = true then
    ((x0).bind fun p654 =>
    (ldA h2 p654.1 p654.2).bind fun v655 =>
    (asMp v655).bind fun m656 =>
    (ldA h2 nx 1).bind fun v657 =>
    (asStr v657).bind fun s658 =>
    (mapO h2 m656).bind fun es659 =>
    (findE s658 es659 0).bind fun o660 =>
    (asSl (valE (.slice none 0 none) o660)).bind fun s661 =>
    if (!(hasE o660)) = true then
    (((callP Try.prog keepT n) Y 23 [(.int .i64 6)] h2 (nx + 38)).bind fun r662 =>
    (asAgg 5 r662.1).bind fun d663 =>
    (asI .i64 (d663.getD 0 .bad)).bind fun n664 =>
    (asB (d663.getD 1 .bad)).bind fun t665 =>
    (asI .i64 (d663.getD 2 .bad)).bind fun n666 =>
    (asSl (d663.getD 3 .bad)).bind fun s667 =>
    (asSl (d663.getD 4 .bad)).bind fun s668 =>
    (stA r662.2.1 (nx + 1) 0 (.agg [(.int .i64 n664), (.bool t665), (.int .i64 n666), (.slice s667.1 s667.2.1 s667.2.2), (.slice s668.1 s668.2.1 s668.2.2)]) 5).bind fun b669 =>
    let h670 := AHeap.put r662.2.1 (nx + 1) (some b669)
    (ldR h670 (nx + 1) 0 5).bind fun l671 =>
    (asAgg 5 (AV.agg l671)).bind fun d672 =>
    (asI .i64 (d672.getD 0 .bad)).bind fun n673 =>
    (asB (d672.getD 1 .bad)).bind fun t674 =>
    (asI .i64 (d672.getD 2 .bad)).bind fun n675 =>
    (asSl (d672.getD 3 .bad)).bind fun s676 =>
    (asSl (d672.getD 4 .bad)).bind fun s677 =>
    some ((.agg [(.int .i64 n673), (.bool t674), (.int .i64 n675), (.slice s676.1 s676.2.1 s676.2.2), (.slice s677.1 s677.2.1 s677.2.2)]), h670, r662.2.2))
    else
    ((ldR h2 nx 0 8).bind fun l678 =>
    (asAgg 8 (AV.agg l678)).bind fun d679 =>
    (asI .i64 (d679.getD 0 .bad)).bind fun n680 =>
    (asStr (d679.getD 1 .bad)).bind fun s681 =>
    (asStr (d679.getD 2 .bad)).bind fun s682 =>
    (asI .i64 (d679.getD 3 .bad)).bind fun n683 =>
    (asI .i64 (d679.getD 4 .bad)).bind fun n684 =>
    (asI .i64 (d679.getD 5 .bad)).bind fun n685 =>
    (asI .i64 (d679.getD 6 .bad)).bind fun n686 =>
    (asSl (d679.getD 7 .bad)).bind fun s687 =>
    ((callP Try.prog keepT n) Y 27 [(.ptr x0), (.slice s661.1 s661.2.1 s661.2.2), (.agg [(.int .i64 n680), (.str s681), (.str s682), (.int .i64 n683), (.int .i64 n684), (.int .i64 n685), (.int .i64 n686), (.slice s687.1 s687.2.1 s687.2.2)])] h2 (nx + 41)).bind fun r688 =>
    (asAgg 5 r688.1).bind fun d689 =>
    (asI .i64 (d689.getD 0 .bad)).bind fun n690 =>
    (asB (d689.getD 1 .bad)).bind fun t691 =>
    (asI .i64 (d689.getD 2 .bad)).bind fun n692 =>
    (asSl (d689.getD 3 .bad)).bind fun s693 =>
    (asSl (d689.getD 4 .bad)).bind fun s694 =>
    (stA r688.2.1 (nx + 1) 0 (.agg [(.int .i64 n690), (.bool t691), (.int .i64 n692), (.slice s693.1 s693.2.1 s693.2.2), (.slice s694.1 s694.2.1 s694.2.2)]) 5).bind fun b695 =>
    let h696 := AHeap.put r688.2.1 (nx + 1) (some b695)
    (ldR h696 (nx + 1) 0 5).bind fun l697 =>
    (asAgg 5 (AV.agg l697)).bind fun d698 =>
    (asI .i64 (d698.getD 0 .bad)).bind fun n699 =>
    (asB (d698.getD 1 .bad)).bind fun t700 =>
    (asI .i64 (d698.getD 2 .bad)).bind fun n701 =>
    (asSl (d698.getD 3 .bad)).bind fun s702 =>
    (asSl (d698.getD 4 .bad)).bind fun s703 =>
    some ((.agg [(.int .i64 n699), (.bool t700), (.int .i64 n701), (.slice s702.1 s702.2.1 s702.2.2), (.slice s703.1 s703.2.1 s703.2.2)]), h696, r688.2.2)))
    else
    (if ((n4 : Int) == 12) = true then
    ((stA h2 (nx + 1) 0 (.agg [(.int .i64 0), (.bool false), (.int .i64 0), (.slice none 0 none), (.slice none 0 none)]) 5).bind fun b704 =>
    let h705 := AHeap.put h2 (nx + 1) (some b704)
    (ldR h705 (nx + 1) 0 5).bind fun l706 =>
    (asAgg 5 (AV.agg l706)).bind fun d707 =>
    (asI .i64 (d707.getD 0 .bad)).bind fun n708 =>
    (asB (d707.getD 1 .bad)).bind fun t709 =>
    (asI .i64 (d707.getD 2 .bad)).bind fun n710 =>
    (asSl (d707.getD 3 .bad)).bind fun s711 =>
    (asSl (d707.getD 4 .bad)).bind fun s712 =>
    some ((.agg [(.int .i64 n708), (.bool t709), (.int .i64 n710), (.slice s711.1 s711.2.1 s711.2.2), (.slice s712.1 s712.2.1 s712.2.2)]), h705, (nx + 26)))
    else
    (((callP Try.prog keepT n) Y 23 [(.int .i64 3)] h2 (nx + 26)).bind fun r713 =>
    (asAgg 5 r713.1).bind fun d714 =>
    (asI .i64 (d714.getD 0 .bad)).bind fun n715 =>
    (asB (d714.getD 1 .bad)).bind fun t716 =>
    (asI .i64 (d714.getD 2 .bad)).bind fun n717 =>
    (asSl (d714.getD 3 .bad)).bind fun s718 =>
    (asSl (d714.getD 4 .bad)).bind fun s719 =>
    (stA r713.2.1 (nx + 1) 0 (.agg [(.int .i64 n715), (.bool t716), (.int .i64 n717), (.slice s718.1 s718.2.1 s718.2.2), (.slice s719.1 s719.2.1 s719.2.2)]) 5).bind fun b720 =>
    let h721 := AHeap.put r713.2.1 (nx + 1) (some b720)
    (ldR h721 (nx + 1) 0 5).bind fun l722 =>
    (asAgg 5 (AV.agg l722)).bind fun d723 =>
    (asI .i64 (d723.getD 0 .bad)).bind fun n724 =>
    (asB (d723.getD 1 .bad)).bind fun t725 =>
    (asI .i64 (d723.getD 2 .bad)).bind fun n726 =>
    (asSl (d723.getD 3 .bad)).bind fun s727 =>
    (asSl (d723.getD 4 .bad)).bind fun s728 =>
    some ((.agg [(.int .i64 n724), (.bool t725), (.int .i64 n726), (.slice s727.1 s727.2.1 s727.2.2), (.slice s728.1 s728.2.1 s728.2.2)]), h721, r713.2.2))))))))
    else
    (if ((n4 : Int) == 9) = true then
    (if ((n4 : Int) == 9) = true then
    ((ldR h2 nx 0 8).bind fun l729 =>
    (asAgg 8 (AV.agg l729)).bind fun d730 =>
    (asI .i64 (d730.getD 0 .bad)).bind fun n731 =>
    (asStr (d730.getD 1 .bad)).bind fun s732 =>
    (asStr (d730.getD 2 .bad)).bind fun s733 =>
    (asI .i64 (d730.getD 3 .bad)).bind fun n734 =>
    (asI .i64 (d730.getD 4 .bad)).bind fun n735 =>
    (asI .i64 (d730.getD 5 .bad)).bind fun n736 =>
    (asI .i64 (d730.getD 6 .bad)).bind fun n737 =>
    (asSl (d730.getD 7 .bad)).bind fun s738 =>
    ((callP Try.prog keepT n) Y 26 [(.ptr x0), (.agg [(.int .i64 n731), (.str s732), (.str s733), (.int .i64 n734), (.int .i64 n735), (.int .i64 n736), (.int .i64 n737), (.slice s738.1 s738.2.1 s738.2.2)])] h2 (nx + 20)).bind fun r739 =>
    (asAgg 5 r739.1).bind fun d740 =>
    (asI .i64 (d740.getD 0 .bad)).bind fun n741 =>
    (asB (d740.getD 1 .bad)).bind fun t742 =>
    (asI .i64 (d740.getD 2 .bad)).bind fun n743 =>
    (asSl (d740.getD 3 .bad)).bind fun s744 =>
    (asSl (d740.getD 4 .bad)).bind fun s745 =>
    (stA r739.2.1 (nx + 1) 0 (.agg [(.int .i64 n741), (.bool t742), (.int .i64 n743), (.slice s744.1 s744.2.1 s744.2.2), (.slice s745.1 s745.2.1 s745.2.2)]) 5).bind fun b746 =>
    let h747 := AHeap.put r739.2.1 (nx + 1) (some b746)
    (ldR h747 (nx + 1) 0 5).bind fun l748 =>
    (asAgg 5 (AV.agg l748)).bind fun d749 =>
    (asI .i64 (d749.getD 0 .bad)).bind fun n750 =>
    (asB (d749.getD 1 .bad)).bind fun t751 =>
    (asI .i64 (d749.getD 2 .bad)).bind fun n752 =>
    (asSl (d749.getD 3 .bad)).bind fun s753 =>
    (asSl (d749.getD 4 .bad)).bind fun s754 =>
    some ((.agg [(.int .i64 n750), (.bool t751), (.int .i64 n752), (.slice s753.1 s753.2.1 s753.2.2), (.slice s754.1 s754.2.1 s754.2.2)]), h747, r739.2.2))
    else
    (if ((n4 : Int) == 2) = true then
    (if ((n4 : Int) == 2) = true then
    ((x0).bind fun p755 =>
    (ldA h2 p755.1 p755.2).bind fun v756 =>
    (asMp v756).bind fun m757 =>
    (ldA h2 nx 1).bind fun v758 =>
    (asStr v758).bind fun s759 =>
    (mapO h2 m757).bind fun es760 =>
    (findE s759 es760 0).bind fun o761 =>
    (asSl (valE (.slice none 0 none) o761)).bind fun s762 =>
    if (!(hasE o761)) = true then
    (((callP Try.prog keepT n) Y 23 [(.int .i64 6)] h2 (nx + 34)).bind fun r763 =>
    (asAgg 5 r763.1).bind fun d764 =>
    (asI .i64 (d764.getD 0 .bad)).bind fun n765 =>
    (asB (d764.getD 1 .bad)).bind fun t766 =>
    (asI .i64 (d764.getD 2 .bad)).bind fun n767 =>
    (asSl (d764.getD 3 .bad)).bind fun s768 =>
    (asSl (d764.getD 4 .bad)).bind fun s769 =>
    (stA r763.2.1 (nx + 1) 0 (.agg [(.int .i64 n765), (.bool t766), (.int .i64 n767), (.slice s768.1 s768.2.1 s768.2.2), (.slice s769.1 s769.2.1 s769.2.2)]) 5).bind fun b770 =>
    let h771 := AHeap.put r763.2.1 (nx + 1) (some b770)
    (ldR h771 (nx + 1) 0 5).bind fun l772 =>
    (asAgg 5 (AV.agg l772)).bind fun d773 =>
    (asI .i64 (d773.getD 0 .bad)).bind fun n774 =>
    (asB (d773.getD 1 .bad)).bind fun t775 =>
    (asI .i64 (d773.getD 2 .bad)).bind fun n776 =>
    (asSl (d773.getD 3 .bad)).bind fun s777 =>
    (asSl (d773.getD 4 .bad)).bind fun s778 =>
    some ((.agg [(.int .i64 n774), (.bool t775), (.int .i64 n776), (.slice s777.1 s777.2.1 s777.2.2), (.slice s778.1 s778.2.1 s778.2.2)]), h771, r763.2.2))
    else
    ((ldR h2 nx 0 8).bind fun l779 =>
    (asAgg 8 (AV.agg l779)).bind fun d780 =>
    (asI .i64 (d780.getD 0 .bad)).bind fun n781 =>
    (asStr (d780.getD 1 .bad)).bind fun s782 =>
    (asStr (d780.getD 2 .bad)).bind fun s783 =>
    (asI .i64 (d780.getD 3 .bad)).bind fun n784 =>
    (asI .i64 (d780.getD 4 .bad)).bind fun n785 =>
    (asI .i64 (d780.getD 5 .bad)).bind fun n786 =>
    (asI .i64 (d780.getD 6 .bad)).bind fun n787 =>
    (asSl (d780.getD 7 .bad)).bind fun s788 =>
    ((callP Try.prog keepT n) Y 27 [(.ptr x0), (.slice s762.1 s762.2.1 s762.2.2), (.agg [(.int .i64 n781), (.str s782), (.str s783), (.int .i64 n784), (.int .i64 n785), (.int .i64 n786), (.int .i64 n787), (.slice s788.1 s788.2.1 s788.2.2)])] h2 (nx + 37)).bind fun r789 =>
    (asAgg 5 r789.1).bind fun d790 =>
    (asI .i64 (d790.getD 0 .bad)).bind fun n791 =>
    (asB (d790.getD 1 .bad)).bind fun t792 =>
    (asI .i64 (d790.getD 2 .bad)).bind fun n793 =>
    (asSl (d790.getD 3 .bad)).bind fun s794 =>
    (asSl (d790.getD 4 .bad)).bind fun s795 =>
    (stA r789.2.1 (nx + 1) 0 (.agg [(.int .i64 n791), (.bool t792), (.int .i64 n793), (.slice s794.1 s794.2.1 s794.2.2), (.slice s795.1 s795.2.1 s795.2.2)]) 5).bind fun b796 =>
    let h797 := AHeap.put r789.2.1 (nx + 1) (some b796)
    (ldR h797 (nx + 1) 0 5).bind fun l798 =>
    (asAgg 5 (AV.agg l798)).bind fun d799 =>
    (asI .i64 (d799.getD 0 .bad)).bind fun n800 =>
    (asB (d799.getD 1 .bad)).bind fun t801 =>
    (asI .i64 (d799.getD 2 .bad)).bind fun n802 =>
    (asSl (d799.getD 3 .bad)).bind fun s803 =>
    (asSl (d799.getD 4 .bad)).bind fun s804 =>
    some ((.agg [(.int .i64 n800), (.bool t801), (.int .i64 n802), (.slice s803.1 s803.2.1 s803.2.2), (.slice s804.1 s804.2.1 s804.2.2)]), h797, r789.2.2)))
    else
    (if ((n4 : Int) == 12) = true then
    ((stA h2 (nx + 1) 0 (.agg [(.int .i64 0), (.bool false), (.int .i64 0), (.slice none 0 none), (.slice none 0 none)]) 5).bind fun b805 =>
    let h806 := AHeap.put h2 (nx + 1) (some b805)
    (ldR h806 (nx + 1) 0 5).bind fun l807 =>
    (asAgg 5 (AV.agg l807)).bind fun d808 =>
    (asI .i64 (d808.getD 0 .bad)).bind fun n809 =>
    (asB (d808.getD 1 .bad)).bind fun t810 =>
    (asI .i64 (d808.getD 2 .bad)).bind fun n811 =>
    (asSl (d808.getD 3 .bad)).bind fun s812 =>
    (asSl (d808.getD 4 .bad)).bind fun s813 =>
    some ((.agg [(.int .i64 n809), (.bool t810), (.int .i64 n811), (.slice s812.1 s812.2.1 s812.2.2), (.slice s813.1 s813.2.1 s813.2.2)]), h806, (nx + 22)))
    else
    (((callP Try.prog keepT n) Y 23 [(.int .i64 3)] h2 (nx + 22)).bind fun r814 =>
    (asAgg 5 r814.1).bind fun d815 =>
    (asI .i64 (d815.getD 0 .bad)).bind fun n816 =>
    (asB (d815.getD 1 .bad)).bind fun t817 =>
    (asI .i64 (d815.getD 2 .bad)).bind fun n818 =>
    (asSl (d815.getD 3 .bad)).bind fun s819 =>
    (asSl (d815.getD 4 .bad)).bind fun s820 =>
    (stA r814.2.1 (nx + 1) 0 (.agg [(.int .i64 n816), (.bool t817), (.int .i64 n818), (.slice s819.1 s819.2.1 s819.2.2), (.slice s820.1 s820.2.1 s820.2.2)]) 5).bind fun b821 =>
    let h822 := AHeap.put r814.2.1 (nx + 1) (some b821)
    (ldR h822 (nx + 1) 0 5).bind fun l823 =>
    (asAgg 5 (AV.agg l823)).bind fun d824 =>
    (asI .i64 (d824.getD 0 .bad)).bind fun n825 =>
    (asB (d824.getD 1 .bad)).bind fun t826 =>
    (asI .i64 (d824.getD 2 .bad)).bind fun n827 =>
    (asSl (d824.getD 3 .bad)).bind fun s828 =>
    (asSl (d824.getD 4 .bad)).bind fun s829 =>
    some ((.agg [(.int .i64 n825), (.bool t826), (.int .i64 n827), (.slice s828.1 s828.2.1 s828.2.2), (.slice s829.1 s829.2.1 s829.2.2)]), h822, r814.2.2))))
    else
    (if ((n4 : Int) == 3) = true then
    (if ((n4 : Int) == 3) = true then
    ((x0).bind fun p830 =>
    (ldA h2 p830.1 p830.2).bind fun v831 =>
    (asMp v831).bind fun m832 =>
    (ldA h2 nx 1).bind fun v833 =>
    (asStr v833).bind fun s834 =>
    (mapO h2 m832).bind fun es835 =>
    (findE s834 es835 0).bind fun o836 =>
    (asSl (valE (.slice none 0 none) o836)).bind fun s837 =>
    if (!(hasE o836)) = true then
    (((callP Try.prog keepT n) Y 23 [(.int .i64 6)] h2 (nx + 36)).bind fun r838 =>
    (asAgg 5 r838.1).bind fun d839 =>
    (asI .i64 (d839.getD 0 .bad)).bind fun n840 =>
    (asB (d839.getD 1 .bad)).bind fun t841 =>
    (asI .i64 (d839.getD 2 .bad)).bind fun n842 =>
    (asSl (d839.getD 3 .bad)).bind fun s843 =>
    (asSl (d839.getD 4 .bad)).bind fun s844 =>
    (stA r838.2.1 (nx + 1) 0 (.agg [(.int .i64 n840), (.bool t841), (.int .i64 n842), (.slice s843.1 s843.2.1 s843.2.2), (.slice s844.1 s844.2.1 s844.2.2)]) 5).bind fun b845 =>
    let h846 := AHeap.put r838.2.1 (nx + 1) (some b845)
    (ldR h846 (nx + 1) 0 5).bind fun l847 =>
    (asAgg 5 (AV.agg l847)).bind fun d848 =>
    (asI .i64 (d848.getD 0 .bad)).bind fun n849 =>
    (asB (d848.getD 1 .bad)).bind fun t850 =>
    (asI .i64 (d848.getD 2 .bad)).bind fun n851 =>
    (asSl (d848.getD 3 .bad)).bind fun s852 =>
    (asSl (d848.getD 4 .bad)).bind fun s853 =>
    some ((.agg [(.int .i64 n849), (.bool t850), (.int .i64 n851), (.slice s852.1 s852.2.1 s852.2.2), (.slice s853.1 s853.2.1 s853.2.2)]), h846, r838.2.2))
    else
    ((ldR h2 nx 0 8).bind fun l854 =>
    (asAgg 8 (AV.agg l854)).bind fun d855 =>
    (asI .i64 (d855.getD 0 .bad)).bind fun n856 =>
    (asStr (d855.getD 1 .bad)).bind fun s857 =>
    (asStr (d855.getD 2 .bad)).bind fun s858 =>
    (asI .i64 (d855.getD 3 .bad)).bind fun n859 =>
    (asI .i64 (d855.getD 4 .bad)).bind fun n860 =>
    (asI .i64 (d855.getD 5 .bad)).bind fun n861 =>
    (asI .i64 (d855.getD 6 .bad)).bind fun n862 =>
    (asSl (d855.getD 7 .bad)).bind fun s863 =>
    ((callP Try.prog keepT n) Y 27 [(.ptr x0), (.slice s837.1 s837.2.1 s837.2.2), (.agg [(.int .i64 n856), (.str s857), (.str s858), (.int .i64 n859), (.int .i64 n860), (.int .i64 n861), (.int .i64 n862), (.slice s863.1 s863.2.1 s863.2.2)])] h2 (nx + 39)).bind fun r864 =>
    (asAgg 5 r864.1).bind fun d865 =>
    (asI .i64 (d865.getD 0 .bad)).bind fun n866 =>
    (asB (d865.getD 1 .bad)).bind fun t867 =>
    (asI .i64 (d865.getD 2 .bad)).bind fun n868 =>
    (asSl (d865.getD 3 .bad)).bind fun s869 =>
    (asSl (d865.getD 4 .bad)).bind fun s870 =>
    (stA r864.2.1 (nx + 1) 0 (.agg [(.int .i64 n866), (.bool t867), (.int .i64 n868), (.slice s869.1 s869.2.1 s869.2.2), (.slice s870.1 s870.2.1 s870.2.2)]) 5).bind fun b871 =>
    let h872 := AHeap.put r864.2.1 (nx + 1) (some b871)
    (ldR h872 (nx + 1) 0 5).bind fun l873 =>
    (asAgg 5 (AV.agg l873)).bind fun d874 =>
    (asI .i64 (d874.getD 0 .bad)).bind fun n875 =>
    (asB (d874.getD 1 .bad)).bind fun t876 =>
    (asI .i64 (d874.getD 2 .bad)).bind fun n877 =>
    (asSl (d874.getD 3 .bad)).bind fun s878 =>
    (asSl (d874.getD 4 .bad)).bind fun s879 =>
    some ((.agg [(.int .i64 n875), (.bool t876), (.int .i64 n877), (.slice s878.1 s878.2.1 s878.2.2), (.slice s879.1 s879.2.1 s879.2.2)]), h872, r864.2.2)))
    else
    (if ((n4 : Int) == 12) = true then
    ((stA h2 (nx + 1) 0 (.agg [(.int .i64 0), (.bool false), (.int .i64 0), (.slice none 0 none), (.slice none 0 none)]) 5).bind fun b880 =>
    let h881 := AHeap.put h2 (nx + 1) (some b880)
    (ldR h881 (nx + 1) 0 5).bind fun l882 =>
    (asAgg 5 (AV.agg l882)).bind fun d883 =>
    (asI .i64 (d883.getD 0 .bad)).bind fun n884 =>
    (asB (d883.getD 1 .bad)).bind fun t885 =>
    (asI .i64 (d883.getD 2 .bad)).bind fun n886 =>
    (asSl (d883.getD 3 .bad)).bind fun s887 =>
    (asSl (d883.getD 4 .bad)).bind fun s888 =>
    some ((.agg [(.int .i64 n884), (.bool t885), (.int .i64 n886), (.slice s887.1 s887.2.1 s887.2.2), (.slice s888.1 s888.2.1 s888.2.2)]), h881, (nx + 24)))
    else
    (((callP Try.prog keepT n) Y 23 [(.int .i64 3)] h2 (nx + 24)).bind fun r889 =>
    (asAgg 5 r889.1).bind fun d890 =>
    (asI .i64 (d890.getD 0 .bad)).bind fun n891 =>
    (asB (d890.getD 1 .bad)).bind fun t892 =>
    (asI .i64 (d890.getD 2 .bad)).bind fun n893 =>
    (asSl (d890.getD 3 .bad)).bind fun s894 =>
    (asSl (d890.getD 4 .bad)).bind fun s895 =>
    (stA r889.2.1 (nx + 1) 0 (.agg [(.int .i64 n891), (.bool t892), (.int .i64 n893), (.slice s894.1 s894.2.1 s894.2.2), (.slice s895.1 s895.2.1 s895.2.2)]) 5).bind fun b896 =>
    let h897 := AHeap.put r889.2.1 (nx + 1) (some b896)
    (ldR h897 (nx + 1) 0 5).bind fun l898 =>
    (asAgg 5 (AV.agg l898)).bind fun d899 =>
    (asI .i64 (d899.getD 0 .bad)).bind fun n900 =>
    (asB (d899.getD 1 .bad)).bind fun t901 =>
    (asI .i64 (d899.getD 2 .bad)).bind fun n902 =>
    (asSl (d899.getD 3 .bad)).bind fun s903 =>
    (asSl (d899.getD 4 .bad)).bind fun s904 =>
    some ((.agg [(.int .i64 n900), (.bool t901), (.int .i64 n902), (.slice s903.1 s903.2.1 s903.2.2), (.slice s904.1 s904.2.1 s904.2.2)]), h897, r889.2.2))))
    else
    (if ((n4 : Int) == 4) = true then
    (if ((n4 : Int) == 4) = true then
    ((x0).bind fun p905 =>
    (ldA h2 p905.1 p905.2).bind fun v906 =>
    (asMp v906).bind fun m907 =>
    (ldA h2 nx 1).bind fun v908 =>
    (asStr v908).bind fun s909 =>
    (mapO h2 m907).bind fun es910 =>
    (findE s909 es910 0).bind fun o911 =>
    (asSl (valE (.slice none 0 none) o911)).bind fun s912 =>
    if (!(hasE o911)) = true then
    (((callP Try.prog keepT n) Y 23 [(.int .i64 6)] h2 (nx + 38)).bind fun r913 =>
    (asAgg 5 r913.1).bind fun d914 =>
    (asI .i64 (d914.getD 0 .bad)).bind fun n915 =>
    (asB (d914.getD 1 .bad)).bind fun t916 =>
    (asI .i64 (d914.getD 2 .bad)).bind fun n917 =>
    (asSl (d914.getD 3 .bad)).bind fun s918 =>
    (asSl (d914.getD 4 .bad)).bind fun s919 =>
    (stA r913.2.1 (nx + 1) 0 (.agg [(.int .i64 n915), (.bool t916), (.int .i64 n917), (.slice s918.1 s918.2.1 s918.2.2), (.slice s919.1 s919.2.1 s919.2.2)]) 5).bind fun b920 =>
    let h921 := AHeap.put r913.2.1 (nx + 1) (some b920)
    (ldR h921 (nx + 1) 0 5).bind fun l922 =>
    (asAgg 5 (AV.agg l922)).bind fun d923 =>
    (asI .i64 (d923.getD 0 .bad)).bind fun n924 =>
    (asB (d923.getD 1 .bad)).bind fun t925 =>
    (asI .i64 (d923.getD 2 .bad)).bind fun n926 =>
    (asSl (d923.getD 3 .bad)).bind fun s927 =>
    (asSl (d923.getD 4 .bad)).bind fun s928 =>
    some ((.agg [(.int .i64 n924), (.bool t925), (.int .i64 n926), (.slice s927.1 s927.2.1 s927.2.2), (.slice s928.1 s928.2.1 s928.2.2)]), h921, r913.2.2))
    else
    ((ldR h2 nx 0 8).bind fun l929 =>
    (asAgg 8 (AV.agg l929)).bind fun d930 =>
    (asI .i64 (d930.getD 0 .bad)).bind fun n931 =>
    (asStr (d930.getD 1 .bad)).bind fun s932 =>
    (asStr (d930.getD 2 .bad)).bind fun s933 =>
    (asI .i64 (d930.getD 3 .bad)).bind fun n934 =>
    (asI .i64 (d930.getD 4 .bad)).bind fun n935 =>
    (asI .i64 (d930.getD 5 .bad)).bind fun n936 =>
    (asI .i64 (d930.getD 6 .bad)).bind fun n937 =>
    (asSl (d930.getD 7 .bad)).bind fun s938 =>
    ((callP Try.prog keepT n) Y 27 [(.ptr x0), (.slice s912.1 s912.2.1 s912.2.2), (.agg [(.int .i64 n931), (.str s932), (.str s933), (.int .i64 n934), (.int .i64 n935), (.int .i64 n936), (.int .i64 n937), (.slice s938.1 s938.2.1 s938.2.2)])] h2 (nx + 41)).bind fun r939 =>
    (asAgg 5 r939.1).bind fun d940 =>
    (asI .i64 (d940.getD 0 .bad)).bind fun n941 =>
    (asB (d940.getD 1 .bad)).bind fun t942 =>
    (asI .i64 (d940.getD 2 .bad)).bind fun n943 =>
    (asSl (d940.getD 3 .bad)).bind fun s944 =>
    (asSl (d940.getD 4 .bad)).bind fun s945 =>
    (stA r939.2.1 (nx + 1) 0 (.agg [(.int .i64 n941), (.bool t942), (.int .i64 n943), (.slice s944.1 s944.2.1 s944.2.2), (.slice s945.1 s945.2.1 s945.2.2)]) 5).bind fun b946 =>
    let h947 := AHeap.put r939.2.1 (nx + 1) (some b946)
    (ldR h947 (nx + 1) 0 5).bind fun l948 =>
    (asAgg 5 (AV.agg l948)).bind fun d949 =>
    (asI .i64 (d949.getD 0 .bad)).bind fun n950 =>
    (asB (d949.getD 1 .bad)).bind fun t951 =>
    (asI .i64 (d949.getD 2 .bad)).bind fun n952 =>
    (asSl (d949.getD 3 .bad)).bind fun s953 =>
    (asSl (d949.getD 4 .bad)).bind fun s954 =>
    some ((.agg [(.int .i64 n950), (.bool t951), (.int .i64 n952), (.slice s953.1 s953.2.1 s953.2.2), (.slice s954.1 s954.2.1 s954.2.2)]), h947, r939.2.2)))
    else
    (if ((n4 : Int) == 12) = true then
    ((stA h2 (nx + 1) 0 (.agg [(.int .i64 0), (.bool false), (.int .i64 0), (.slice none 0 none), (.slice none 0 none)]) 5).bind fun b955 =>
    let h956 := AHeap.put h2 (nx + 1) (some b955)
    (ldR h956 (nx + 1) 0 5).bind fun l957 =>
    (asAgg 5 (AV.agg l957)).bind fun d958 =>
    (asI .i64 (d958.getD 0 .bad)).bind fun n959 =>
    (asB (d958.getD 1 .bad)).bind fun t960 =>
    (asI .i64 (d958.getD 2 .bad)).bind fun n961 =>
    (asSl (d958.getD 3 .bad)).bind fun s962 =>
    (asSl (d958.getD 4 .bad)).bind fun s963 =>
    some ((.agg [(.int .i64 n959), (.bool t960), (.int .i64 n961), (.slice s962.1 s962.2.1 s962.2.2), (.slice s963.1 s963.2.1 s963.2.2)]), h956, (nx + 26)))
    else
    (((callP Try.prog keepT n) Y 23 [(.int .i64 3)] h2 (nx + 26)).bind fun r964 =>
    (asAgg 5 r964.1).bind fun d965 =>
    (asI .i64 (d965.getD 0 .bad)).bind fun n966 =>
    (asB (d965.getD 1 .bad)).bind fun t967 =>
    (asI .i64 (d965.getD 2 .bad)).bind fun n968 =>
    (asSl (d965.getD 3 .bad)).bind fun s969 =>
    (asSl (d965.getD 4 .bad)).bind fun s970 =>
    (stA r964.2.1 (nx + 1) 0 (.agg [(.int .i64 n966), (.bool t967), (.int .i64 n968), (.slice s969.1 s969.2.1 s969.2.2), (.slice s970.1 s970.2.1 s970.2.2)]) 5).bind fun b971 =>
    let h972 := AHeap.put r964.2.1 (nx + 1) (some b971)
    (ldR h972 (nx + 1) 0 5).bind fun l973 =>
    (asAgg 5 (AV.agg l973)).bind fun d974 =>
    (asI .i64 (d974.getD 0 .bad)).bind fun n975 =>
    (asB (d974.getD 1 .bad)).bind fun t976 =>
    (asI .i64 (d974.getD 2 .bad)).bind fun n977 =>
    (asSl (d974.getD 3 .bad)).bind fun s978 =>
    (asSl (d974.getD 4 .bad)).bind fun s979 =>
    some ((.agg [(.int .i64 n975), (.bool t976), (.int .i64 n977), (.slice s978.1 s978.2.1 s978.2.2), (.slice s979.1 s979.2.1 s979.2.2)]), h972, r964.2.2))))
    else
    (if ((n4 : Int) == 5) = true then
    ((x0).bind fun p980 =>
    (ldA h2 p980.1 p980.2).bind fun v981 =>
    (asMp v981).bind fun m982 =>
    (ldA h2 nx 1).bind fun v983 =>
    (asStr v983).bind fun s984 =>
    (mapO h2 m982).bind fun es985 =>
    (findE s984 es985 0).bind fun o986 =>
    (asSl (valE (.slice none 0 none) o986)).bind fun s987 =>
    if (!(hasE o986)) = true then
    (((callP Try.prog keepT n) Y 23 [(.int .i64 6)] h2 (nx + 40)).bind fun r988 =>
    (asAgg 5 r988.1).bind fun d989 =>
    (asI .i64 (d989.getD 0 .bad)).bind fun n990 =>
    (asB (d989.getD 1 .bad)).bind fun t991 =>
    (asI .i64 (d989.getD 2 .bad)).bind fun n992 =>
    (asSl (d989.getD 3 .bad)).bind fun s993 =>
    (asSl (d989.getD 4 .bad)).bind fun s994 =>
    (stA r988.2.1 (nx + 1) 0 (.agg [(.int .i64 n990), (.bool t991), (.int .i64 n992), (.slice s993.1 s993.2.1 s993.2.2), (.slice s994.1 s994.2.1 s994.2.2)]) 5).bind fun b995 =>
    let h996 := AHeap.put r988.2.1 (nx + 1) (some b995)
    (ldR h996 (nx + 1) 0 5).bind fun l997 =>
    (asAgg 5 (AV.agg l997)).bind fun d998 =>
    (asI .i64 (d998.getD 0 .bad)).bind fun n999 =>
    (asB (d998.getD 1 .bad)).bind fun t1000 =>
    (asI .i64 (d998.getD 2 .bad)).bind fun n1001 =>
    (asSl (d998.getD 3 .bad)).bind fun s1002 =>
    (asSl (d998.getD 4 .bad)).bind fun s1003 =>
    some ((.agg [(.int .i64 n999), (.bool t1000), (.int .i64 n1001), (.slice s1002.1 s1002.2.1 s1002.2.2), (.slice s1003.1 s1003.2.1 s1003.2.2)]), h996, r988.2.2))
    else
    ((ldR h2 nx 0 8).bind fun l1004 =>
    (asAgg 8 (AV.agg l1004)).bind fun d1005 =>
    (asI .i64 (d1005.getD 0 .bad)).bind fun n1006 =>
    (asStr (d1005.getD 1 .bad)).bind fun s1007 =>
    (asStr (d1005.getD 2 .bad)).bind fun s1008 =>
    (asI .i64 (d1005.getD 3 .bad)).bind fun n1009 =>
    (asI .i64 (d1005.getD 4 .bad)).bind fun n1010 =>
    (asI .i64 (d1005.getD 5 .bad)).bind fun n1011 =>
    (asI .i64 (d1005.getD 6 .bad)).bind fun n1012 =>
    (asSl (d1005.getD 7 .bad)).bind fun s1013 =>
    ((callP Try.prog keepT n) Y 27 [(.ptr x0), (.slice s987.1 s987.2.1 s987.2.2), (.agg [(.int .i64 n1006), (.str s1007), (.str s1008), (.int .i64 n1009), (.int .i64 n1010), (.int .i64 n1011), (.int .i64 n1012), (.slice s1013.1 s1013.2.1 s1013.2.2)])] h2 (nx + 43)).bind fun r1014 =>
    (asAgg 5 r1014.1).bind fun d1015 =>
    (asI .i64 (d1015.getD 0 .bad)).bind fun n1016 =>
    (asB (d1015.getD 1 .bad)).bind fun t1017 =>
    (asI .i64 (d1015.getD 2 .bad)).bind fun n1018 =>
    (asSl (d1015.getD 3 .bad)).bind fun s1019 =>
    (asSl (d1015.getD 4 .bad)).bind fun s1020 =>
    (stA r1014.2.1 (nx + 1) 0 (.agg [(.int .i64 n1016), (.bool t1017), (.int .i64 n1018), (.slice s1019.1 s1019.2.1 s1019.2.2), (.slice s1020.1 s1020.2.1 s1020.2.2)]) 5).bind fun b1021 =>
    let h1022 := AHeap.put r1014.2.1 (nx + 1) (some b1021)
    (ldR h1022 (nx + 1) 0 5).bind fun l1023 =>
    (asAgg 5 (AV.agg l1023)).bind fun d1024 =>
    (asI .i64 (d1024.getD 0 .bad)).bind fun n1025 =>
    (asB (d1024.getD 1 .bad)).bind fun t1026 =>
    (asI .i64 (d1024.getD 2 .bad)).bind fun n1027 =>
    (asSl (d1024.getD 3 .bad)).bind fun s1028 =>
    (asSl (d1024.getD 4 .bad)).bind fun s1029 =>
    some ((.agg [(.int .i64 n1025), (.bool t1026), (.int .i64 n1027), (.slice s1028.1 s1028.2.1 s1028.2.2), (.slice s1029.1 s1029.2.1 s1029.2.2)]), h1022, r1014.2.2)))
    else
    (if ((n4 : Int) == 12) = true then
    ((stA h2 (nx + 1) 0 (.agg [(.int .i64 0), (.bool false), (.int .i64 0), (.slice none 0 none), (.slice none 0 none)]) 5).bind fun b1030 =>
    let h1031 := AHeap.put h2 (nx + 1) (some b1030)
    (ldR h1031 (nx + 1) 0 5).bind fun l1032 =>
    (asAgg 5 (AV.agg l1032)).bind fun d1033 =>
    (asI .i64 (d1033.getD 0 .bad)).bind fun n1034 =>
    (asB (d1033.getD 1 .bad)).bind fun t1035 =>
    (asI .i64 (d1033.getD 2 .bad)).bind fun n1036 =>
    (asSl (d1033.getD 3 .bad)).bind fun s1037 =>
    (asSl (d1033.getD 4 .bad)).bind fun s1038 =>
    some ((.agg [(.int .i64 n1034), (.bool t1035), (.int .i64 n1036), (.slice s1037.1 s1037.2.1 s1037.2.2), (.slice s1038.1 s1038.2.1 s1038.2.2)]), h1031, (nx + 28)))
    else
    (((callP Try.prog keepT n) Y 23 [(.int .i64 3)] h2 (nx + 28)).bind fun r1039 =>
    (asAgg 5 r1039.1).bind fun d1040 =>
    (asI .i64 (d1040.getD 0 .bad)).bind fun n1041 =>
    (asB (d1040.getD 1 .bad)).bind fun t1042 =>
    (asI .i64 (d1040.getD 2 .bad)).bind fun n1043 =>
    (asSl (d1040.getD 3 .bad)).bind fun s1044 =>
    (asSl (d1040.getD 4 .bad)).bind fun s1045 =>
    (stA r1039.2.1 (nx + 1) 0 (.agg [(.int .i64 n1041), (.bool t1042), (.int .i64 n1043), (.slice s1044.1 s1044.2.1 s1044.2.2), (.slice s1045.1 s1045.2.1 s1045.2.2)]) 5).bind fun b1046 =>
    let h1047 := AHeap.put r1039.2.1 (nx + 1) (some b1046)
    (ldR h1047 (nx + 1) 0 5).bind fun l1048 =>
    (asAgg 5 (AV.agg l1048)).bind fun d1049 =>
    (asI .i64 (d1049.getD 0 .bad)).bind fun n1050 =>
    (asB (d1049.getD 1 .bad)).bind fun t1051 =>
    (asI .i64 (d1049.getD 2 .bad)).bind fun n1052 =>
    (asSl (d1049.getD 3 .bad)).bind fun s1053 =>
    (asSl (d1049.getD 4 .bad)).bind fun s1054 =>
    some ((.agg [(.int .i64 n1050), (.bool t1051), (.int .i64 n1052), (.slice s1053.1 s1053.2.1 s1053.2.2), (.slice s1054.1 s1054.2.1 s1054.2.2)]), h1047, r1039.2.2))))))))
    else
    (if ((n4 : Int) == 10) = true then
    ((ldR h2 nx 0 8).bind fun l1055 =>
    (asAgg 8 (AV.agg l1055)).bind fun d1056 =>
    (asI .i64 (d1056.getD 0 .bad)).bind fun n1057 =>
    (asStr (d1056.getD 1 .bad)).bind fun s1058 =>
    (asStr (d1056.getD 2 .bad)).bind fun s1059 =>
    (asI .i64 (d1056.getD 3 .bad)).bind fun n1060 =>
    (asI .i64 (d1056.getD 4 .bad)).bind fun n1061 =>
    (asI .i64 (d1056.getD 5 .bad)).bind fun n1062 =>
    (asI .i64 (d1056.getD 6 .bad)).bind fun n1063 =>
    (asSl (d1056.getD 7 .bad)).bind fun s1064 =>
    ((callP Try.prog keepT n) Y 26 [(.ptr x0), (.agg [(.int .i64 n1057), (.str s1058), (.str s1059), (.int .i64 n1060), (.int .i64 n1061), (.int .i64 n1062), (.int .i64 n1063), (.slice s1064.1 s1064.2.1 s1064.2.2)])] h2 (nx + 22)).bind fun r1065 =>
    (asAgg 5 r1065.1).bind fun d1066 =>
    (asI .i64 (d1066.getD 0 .bad)).bind fun n1067 =>
    (asB (d1066.getD 1 .bad)).bind fun t1068 =>
    (asI .i64 (d1066.getD 2 .bad)).bind fun n1069 =>
    (asSl (d1066.getD 3 .bad)).bind fun s1070 =>
    (asSl (d1066.getD 4 .bad)).bind fun s1071 =>
    (stA r1065.2.1 (nx + 1) 0 (.agg [(.int .i64 n1067), (.bool t1068), (.int .i64 n1069), (.slice s1070.1 s1070.2.1 s1070.2.2), (.slice s1071.1 s1071.2.1 s1071.2.2)]) 5).bind fun b1072 =>
    let h1073 := AHeap.put r1065.2.1 (nx + 1) (some b1072)
    (ldR h1073 (nx + 1) 0 5).bind fun l1074 =>
    (asAgg 5 (AV.agg l1074)).bind fun d1075 =>
    (asI .i64 (d1075.getD 0 .bad)).bind fun n1076 =>
    (asB (d1075.getD 1 .bad)).bind fun t1077 =>
    (asI .i64 (d1075.getD 2 .bad)).bind fun n1078 =>
    (asSl (d1075.getD 3 .bad)).bind fun s1079 =>
    (asSl (d1075.getD 4 .bad)).bind fun s1080 =>
    some ((.agg [(.int .i64 n1076), (.bool t1077), (.int .i64 n1078), (.slice s1079.1 s1079.2.1 s1079.2.2), (.slice s1080.1 s1080.2.1 s1080.2.2)]), h1073, r1065.2.2))
    else
    (if ((n4 : Int) == 2) = true then
    (if ((n4 : Int) == 2) = true then
    ((x0).bind fun p1081 =>
    (ldA h2 p1081.1 p1081.2).bind fun v1082 =>
    (asMp v1082).bind fun m1083 =>
    (ldA h2 nx 1).bind fun v1084 =>
    (asStr v1084).bind fun s1085 =>
    (mapO h2 m1083).bind fun es1086 =>
    (findE s1085 es1086 0).bind fun o1087 =>
    (asSl (valE (.slice none 0 none) o1087)).bind fun s1088 =>
    if (!(hasE o1087)) = true then
    (((callP Try.prog keepT n) Y 23 [(.int .i64 6)] h2 (nx + 36)).bind fun r1089 =>
    (asAgg 5 r1089.1).bind fun d1090 =>
    (asI .i64 (d1090.getD 0 .bad)).bind fun n1091 =>
    (asB (d1090.getD 1 .bad)).bind fun t1092 =>
    (asI .i64 (d1090.getD 2 .bad)).bind fun n1093 =>
    (asSl (d1090.getD 3 .bad)).bind fun s1094 =>
    (asSl (d1090.getD 4 .bad)).bind fun s1095 =>
    (stA r1089.2.1 (nx + 1) 0 (.agg [(.int .i64 n1091), (.bool t1092), (.int .i64 n1093), (.slice s1094.1 s1094.2.1 s1094.2.2), (.slice s1095.1 s1095.2.1 s1095.2.2)]) 5).bind fun b1096 =>
    let h1097 := AHeap.put r1089.2.1 (nx + 1) (some b1096)
    (ldR h1097 (nx + 1) 0 5).bind fun l1098 =>
    (asAgg 5 (AV.agg l1098)).bind fun d1099 =>
    (asI .i64 (d1099.getD 0 .bad)).bind fun n1100 =>
    (asB (d1099.getD 1 .bad)).bind fun t1101 =>
    (asI .i64 (d1099.getD 2 .bad)).bind fun n1102 =>
    (asSl (d1099.getD 3 .bad)).bind fun s1103 =>
    (asSl (d1099.getD 4 .bad)).bind fun s1104 =>
    some ((.agg [(.int .i64 n1100), (.bool t1101), (.int .i64 n1102), (.slice s1103.1 s1103.2.1 s1103.2.2), (.slice s1104.1 s1104.2.1 s1104.2.2)]), h1097, r1089.2.2))
    else
    ((ldR h2 nx 0 8).bind fun l1105 =>
    (asAgg 8 (AV.agg l1105)).bind fun d1106 =>
    (asI .i64 (d1106.getD 0 .bad)).bind fun n1107 =>
    (asStr (d1106.getD 1 .bad)).bind fun s1108 =>
    (asStr (d1106.getD 2 .bad)).bind fun s1109 =>
    (asI .i64 (d1106.getD 3 .bad)).bind fun n1110 =>
    (asI .i64 (d1106.getD 4 .bad)).bind fun n1111 =>
    (asI .i64 (d1106.getD 5 .bad)).bind fun n1112 =>
    (asI .i64 (d1106.getD 6 .bad)).bind fun n1113 =>
    (asSl (d1106.getD 7 .bad)).bind fun s1114 =>
    ((callP Try.prog keepT n) Y 27 [(.ptr x0), (.slice s1088.1 s1088.2.1 s1088.2.2), (.agg [(.int .i64 n1107), (.str s1108), (.str s1109), (.int .i64 n1110), (.int .i64 n1111), (.int .i64 n1112), (.int .i64 n1113), (.slice s1114.1 s1114.2.1 s1114.2.2)])] h2 (nx + 39)).bind fun r1115 =>
    (asAgg 5 r1115.1).bind fun d1116 =>
    (asI .i64 (d1116.getD 0 .bad)).bind fun n1117 =>
    (asB (d1116.getD 1 .bad)).bind fun t1118 =>
    (asI .i64 (d1116.getD 2 .bad)).bind fun n1119 =>
    (asSl (d1116.getD 3 .bad)).bind fun s1120 =>
    (asSl (d1116.getD 4 .bad)).bind fun s1121 =>
    (stA r1115.2.1 (nx + 1) 0 (.agg [(.int .i64 n1117), (.bool t1118), (.int .i64 n1119), (.slice s1120.1 s1120.2.1 s1120.2.2), (.slice s1121.1 s1121.2.1 s1121.2.2)]) 5).bind fun b1122 =>
    let h1123 := AHeap.put r1115.2.1 (nx + 1) (some b1122)
    (ldR h1123 (nx + 1) 0 5).bind fun l1124 =>
    (asAgg 5 (AV.agg l1124)).bind fun d1125 =>
    (asI .i64 (d1125.getD 0 .bad)).bind fun n1126 =>
    (asB (d1125.getD 1 .bad)).bind fun t1127 =>
    (asI .i64 (d1125.getD 2 .bad)).bind fun n1128 =>
    (asSl (d1125.getD 3 .bad)).bind fun s1129 =>
    (asSl (d1125.getD 4 .bad)).bind fun s1130 =>
    some ((.agg [(.int .i64 n1126), (.bool t1127), (.int .i64 n1128), (.slice s1129.1 s1129.2.1 s1129.2.2), (.slice s1130.1 s1130.2.1 s1130.2.2)]), h1123, r1115.2.2)))
    else
    (if ((n4 : Int) == 12) = true then
    ((stA h2 (nx + 1) 0 (.agg [(.int .i64 0), (.bool false), (.int .i64 0), (.slice none 0 none), (.slice none 0 none)]) 5).bind fun b1131 =>
    let h1132 := AHeap.put h2 (nx + 1) (some b1131)
    (ldR h1132 (nx + 1) 0 5).bind fun l1133 =>
    (asAgg 5 (AV.agg l1133)).bind fun d1134 =>
    (asI .i64 (d1134.getD 0 .bad)).bind fun n1135 =>
    (asB (d1134.getD 1 .bad)).bind fun t1136 =>
    (asI .i64 (d1134.getD 2 .bad)).bind fun n1137 =>
    (asSl (d1134.getD 3 .bad)).bind fun s1138 =>
    (asSl (d1134.getD 4 .bad)).bind fun s1139 =>
    some ((.agg [(.int .i64 n1135), (.bool t1136), (.int .i64 n1137), (.slice s1138.1 s1138.2.1 s1138.2.2), (.slice s1139.1 s1139.2.1 s1139.2.2)]), h1132, (nx + 24)))
    else
    (((callP Try.prog keepT n) Y 23 [(.int .i64 3)] h2 (nx + 24)).bind fun r1140 =>
    (asAgg 5 r1140.1).bind fun d1141 =>
    (asI .i64 (d1141.getD 0 .bad)).bind fun n1142 =>
    (asB (d1141.getD 1 .bad)).bind fun t1143 =>
    (asI .i64 (d1141.getD 2 .bad)).bind fun n1144 =>
    (asSl (d1141.getD 3 .bad)).bind fun s1145 =>
    (asSl (d1141.getD 4 .bad)).bind fun s1146 =>
    (stA r1140.2.1 (nx + 1) 0 (.agg [(.int .i64 n1142), (.bool t1143), (.int .i64 n1144), (.slice s1145.1 s1145.2.1 s1145.2.2), (.slice s1146.1 s1146.2.1 s1146.2.2)]) 5).bind fun b1147 =>
    let h1148 := AHeap.put r1140.2.1 (nx + 1) (some b1147)
    (ldR h1148 (nx + 1) 0 5).bind fun l1149 =>
    (asAgg 5 (AV.agg l1149)).bind fun d1150 =>
    (asI .i64 (d1150.getD 0 .bad)).bind fun n1151 =>
    (asB (d1150.getD 1 .bad)).bind fun t1152 =>
    (asI .i64 (d1150.getD 2 .bad)).bind fun n1153 =>
    (asSl (d1150.getD 3 .bad)).bind fun s1154 =>
    (asSl (d1150.getD 4 .bad)).bind fun s1155 =>
    some ((.agg [(.int .i64 n1151), (.bool t1152), (.int .i64 n1153), (.slice s1154.1 s1154.2.1 s1154.2.2), (.slice s1155.1 s1155.2.1 s1155.2.2)]), h1148, r1140.2.2))))
    else
    (if ((n4 : Int) == 3) = true then
    (if ((n4 : Int) == 3) = true then
    ((x0).bind fun p1156 =>
    (ldA h2 p1156.1 p1156.2).bind fun v1157 =>
    (asMp v1157).bind fun m1158 =>
    (ldA h2 nx 1).bind fun v1159 =>
    (asStr v1159).bind fun s1160 =>
    (mapO h2 m1158).bind fun es1161 =>
    (findE s1160 es1161 0).bind fun o1162 =>
    (asSl (valE (.slice none 0 none) o1162)).bind fun s1163 =>
    if (!(hasE o1162)) = true then
    (((callP Try.prog keepT n) Y 23 [(.int .i64 6)] h2 (nx + 38)).bind fun r1164 =>
    (asAgg 5 r1164.1).bind fun d1165 =>
    (asI .i64 (d1165.getD 0 .bad)).bind fun n1166 =>
    (asB (d1165.getD 1 .bad)).bind fun t1167 =>
    (asI .i64 (d1165.getD 2 .bad)).bind fun n1168 =>
    (asSl (d1165.getD 3 .bad)).bind fun s1169 =>
    (asSl (d1165.getD 4 .bad)).bind fun s1170 =>
    (stA r1164.2.1 (nx + 1) 0 (.agg [(.int .i64 n1166), (.bool t1167), (.int .i64 n1168), (.slice s1169.1 s1169.2.1 s1169.2.2), (.slice s1170.1 s1170.2.1 s1170.2.2)]) 5).bind fun b1171 =>
    let h1172 := AHeap.put r1164.2.1 (nx + 1) (some b1171)
    (ldR h1172 (nx + 1) 0 5).bind fun l1173 =>
    (asAgg 5 (AV.agg l1173)).bind fun d1174 =>
    (asI .i64 (d1174.getD 0 .bad)).bind fun n1175 =>
    (asB (d1174.getD 1 .bad)).bind fun t1176 =>
    (asI .i64 (d1174.getD 2 .bad)).bind fun n1177 =>
    (asSl (d1174.getD 3 .bad)).bind fun s1178 =>
    (asSl (d1174.getD 4 .bad)).bind fun s1179 =>
    some ((.agg [(.int .i64 n1175), (.bool t1176), (.int .i64 n1177), (.slice s1178.1 s1178.2.1 s1178.2.2), (.slice s1179.1 s1179.2.1 s1179.2.2)]), h1172, r1164.2.2))
    else
    ((ldR h2 nx 0 8).bind fun l1180 =>
    (asAgg 8 (AV.agg l1180)).bind fun d1181 =>
    (asI .i64 (d1181.getD 0 .bad)).bind fun n1182 =>
    (asStr (d1181.getD 1 .bad)).bind fun s1183 =>
    (asStr (d1181.getD 2 .bad)).bind fun s1184 =>
    (asI .i64 (d1181.getD 3 .bad)).bind fun n1185 =>
    (asI .i64 (d1181.getD 4 .bad)).bind fun n1186 =>
    (asI .i64 (d1181.getD 5 .bad)).bind fun n1187 =>
    (asI .i64 (d1181.getD 6 .bad)).bind fun n1188 =>
    (asSl (d1181.getD 7 .bad)).bind fun s1189 =>
    ((callP Try.prog keepT n) Y 27 [(.ptr x0), (.slice s1163.1 s1163.2.1 s1163.2.2), (.agg [(.int .i64 n1182), (.str s1183), (.str s1184), (.int .i64 n1185), (.int .i64 n1186), (.int .i64 n1187), (.int .i64 n1188), (.slice s1189.1 s1189.2.1 s1189.2.2)])] h2 (nx + 41)).bind fun r1190 =>
    (asAgg 5 r1190.1).bind fun d1191 =>
    (asI .i64 (d1191.getD 0 .bad)).bind fun n1192 =>
    (asB (d1191.getD 1 .bad)).bind fun t1193 =>
    (asI .i64 (d1191.getD 2 .bad)).bind fun n1194 =>
    (asSl (d1191.getD 3 .bad)).bind fun s1195 =>
    (asSl (d1191.getD 4 .bad)).bind fun s1196 =>
    (stA r1190.2.1 (nx + 1) 0 (.agg [(.int .i64 n1192), (.bool t1193), (.int .i64 n1194), (.slice s1195.1 s1195.2.1 s1195.2.2), (.slice s1196.1 s1196.2.1 s1196.2.2)]) 5).bind fun b1197 =>
    let h1198 := AHeap.put r1190.2.1 (nx + 1) (some b1197)
    (ldR h1198 (nx + 1) 0 5).bind fun l1199 =>
    (asAgg 5 (AV.agg l1199)).bind fun d1200 =>
    (asI .i64 (d1200.getD 0 .bad)).bind fun n1201 =>
    (asB (d1200.getD 1 .bad)).bind fun t1202 =>
    (asI .i64 (d1200.getD 2 .bad)).bind fun n1203 =>
    (asSl (d1200.getD 3 .bad)).bind fun s1204 =>
    (asSl (d1200.getD 4 .bad)).bind fun s1205 =>
    some ((.agg [(.int .i64 n1201), (.bool t1202), (.int .i64 n1203), (.slice s1204.1 s1204.2.1 s1204.2.2), (.slice s1205.1 s1205.2.1 s1205.2.2)]), h1198, r1190.2.2)))
    else
    (if ((n4 : Int) == 12) = true then
    ((stA h2 (nx + 1) 0 (.agg [(.int .i64 0), (.bool false), (.int .i64 0), (.slice none 0 none), (.slice none 0 none)]) 5).bind fun b1206 =>
    let h1207 := AHeap.put h2 (nx + 1) (some b1206)
    (ldR h1207 (nx + 1) 0 5).bind fun l1208 =>
    (asAgg 5 (AV.agg l1208)).bind fun d1209 =>
    (asI .i64 (d1209.getD 0 .bad)).bind fun n1210 =>
    (asB (d1209.getD 1 .bad)).bind fun t1211 =>
    (asI .i64 (d1209.getD 2 .bad)).bind fun n1212 =>
    (asSl (d1209.getD 3 .bad)).bind fun s1213 =>
    (asSl (d1209.getD 4 .bad)).bind fun s1214 =>
    some ((.agg [(.int .i64 n1210), (.bool t1211), (.int .i64 n1212), (.slice s1213.1 s1213.2.1 s1213.2.2), (.slice s1214.1 s1214.2.1 s1214.2.2)]), h1207, (nx + 26)))
    else
    (((callP Try.prog keepT n) Y 23 [(.int .i64 3)] h2 (nx + 26)).bind fun r1215 =>
    (asAgg 5 r1215.1).bind fun d1216 =>
    (asI .i64 (d1216.getD 0 .bad)).bind fun n1217 =>
    (asB (d1216.getD 1 .bad)).bind fun t1218 =>
    (asI .i64 (d1216.getD 2 .bad)).bind fun n1219 =>
    (asSl (d1216.getD 3 .bad)).bind fun s1220 =>
    (asSl (d1216.getD 4 .bad)).bind fun s1221 =>
    (stA r1215.2.1 (nx + 1) 0 (.agg [(.int .i64 n1217), (.bool t1218), (.int .i64 n1219), (.slice s1220.1 s1220.2.1 s1220.2.2), (.slice s1221.1 s1221.2.1 s1221.2.2)]) 5).bind fun b1222 =>
    let h1223 := AHeap.put r1215.2.1 (nx + 1) (some b1222)
    (ldR h1223 (nx + 1) 0 5).bind fun l1224 =>
    (asAgg 5 (AV.agg l1224)).bind fun d1225 =>
    (asI .i64 (d1225.getD 0 .bad)).bind fun n1226 =>
    (asB (d1225.getD 1 .bad)).bind fun t1227 =>
    (asI .i64 (d1225.getD 2 .bad)).bind fun n1228 =>
    (asSl (d1225.getD 3 .bad)).bind fun s1229 =>
    (asSl (d1225.getD 4 .bad)).bind fun s1230 =>
    some ((.agg [(.int .i64 n1226), (.bool t1227), (.int .i64 n1228), (.slice s1229.1 s1229.2.1 s1229.2.2), (.slice s1230.1 s1230.2.1 s1230.2.2)]), h1223, r1215.2.2))))
    else
    (if ((n4 : Int) == 4) = true then
    (if ((n4 : Int) == 4) = true then
    ((x0).bind fun p1231 =>
    (ldA h2 p1231.1 p1231.2).bind fun v1232 =>
    (asMp v1232).bind fun m1233 =>
    (ldA h2 nx 1).bind fun v1234 =>
    (asStr v1234).bind fun s1235 =>
    (mapO h2 m1233).bind fun es1236 =>
    (findE s1235 es1236 0).bind fun o1237 =>
    (asSl (valE (.slice none 0 none) o1237)).bind fun s1238 =>
    if (!(hasE o1237)) = true then
    (((callP Try.prog keepT n) Y 23 [(.int .i64 6)] h2 (nx + 40)).bind fun r1239 =>
    (asAgg 5 r1239.1).bind fun d1240 =>
    (asI .i64 (d1240.getD 0 .bad)).bind fun n1241 =>
    (asB (d1240.getD 1 .bad)).bind fun t1242 =>
    (asI .i64 (d1240.getD 2 .bad)).bind fun n1243 =>
    (asSl (d1240.getD 3 .bad)).bind fun s1244 =>
    (asSl (d1240.getD 4 .bad)).bind fun s1245 =>
    (stA r1239.2.1 (nx + 1) 0 (.agg [(.int .i64 n1241), (.bool t1242), (.int .i64 n1243), (.slice s1244.1 s1244.2.1 s1244.2.2), (.slice s1245.1 s1245.2.1 s1245.2.2)]) 5).bind fun b1246 =>
    let h1247 := AHeap.put r1239.2.1 (nx + 1) (some b1246)
    (ldR h1247 (nx + 1) 0 5).bind fun l1248 =>
    (asAgg 5 (AV.agg l1248)).bind fun d1249 =>
    (asI .i64 (d1249.getD 0 .bad)).bind fun n1250 =>
    (asB (d1249.getD 1 .bad)).bind fun t1251 =>
    (asI .i64 (d1249.getD 2 .bad)).bind fun n1252 =>
    (asSl (d1249.getD 3 .bad)).bind fun s1253 =>
    (asSl (d1249.getD 4 .bad)).bind fun s1254 =>
    some ((.agg [(.int .i64 n1250), (.bool t1251), (.int .i64 n1252), (.slice s1253.1 s1253.2.1 s1253.2.2), (.slice s1254.1 s1254.2.1 s1254.2.2)]), h1247, r1239.2.2))
    else
    ((ldR h2 nx 0 8).bind fun l1255 =>
    (asAgg 8 (AV.agg l1255)).bind fun d1256 =>
    (asI .i64 (d1256.getD 0 .bad)).bind fun n1257 =>
    (asStr (d1256.getD 1 .bad)).bind fun s1258 =>
    (asStr (d1256.getD 2 .bad)).bind fun s1259 =>
    (asI .i64 (d1256.getD 3 .bad)).bind fun n1260 =>
    (asI .i64 (d1256.getD 4 .bad)).bind fun n1261 =>
    (asI .i64 (d1256.getD 5 .bad)).bind fun n1262 =>
    (asI .i64 (d1256.getD 6 .bad)).bind fun n1263 =>
    (asSl (d1256.getD 7 .bad)).bind fun s1264 =>
    ((callP Try.prog keepT n) Y 27 [(.ptr x0), (.slice s1238.1 s1238.2.1 s1238.2.2), (.agg [(.int .i64 n1257), (.str s1258), (.str s1259), (.int .i64 n1260), (.int .i64 n1261), (.int .i64 n1262), (.int .i64 n1263), (.slice s1264.1 s1264.2.1 s1264.2.2)])] h2 (nx + 43)).bind fun r1265 =>
    (asAgg 5 r1265.1).bind fun d1266 =>
    (asI .i64 (d1266.getD 0 .bad)).bind fun n1267 =>
    (asB (d1266.getD 1 .bad)).bind fun t1268 =>
    (asI .i64 (d1266.getD 2 .bad)).bind fun n1269 =>
    (asSl (d1266.getD 3 .bad)).bind fun s1270 =>
    (asSl (d1266.getD 4 .bad)).bind fun s1271 =>
    (stA r1265.2.1 (nx + 1) 0 (.agg [(.int .i64 n1267), (.bool t1268), (.int .i64 n1269), (.slice s1270.1 s1270.2.1 s1270.2.2), (.slice s1271.1 s1271.2.1 s1271.2.2)]) 5).bind fun b1272 =>
    let h1273 := AHeap.put r1265.2.1 (nx + 1) (some b1272)
    (ldR h1273 (nx + 1) 0 5).bind fun l1274 =>
    (asAgg 5 (AV.agg l1274)).bind fun d1275 =>
    (asI .i64 (d1275.getD 0 .bad)).bind fun n1276 =>
    (asB (d1275.getD 1 .bad)).bind fun t1277 =>
    (asI .i64 (d1275.getD 2 .bad)).bind fun n1278 =>
    (asSl (d1275.getD 3 .bad)).bind fun s1279 =>
    (asSl (d1275.getD 4 .bad)).bind fun s1280 =>
    some ((.agg [(.int .i64 n1276), (.bool t1277), (.int .i64 n1278), (.slice s1279.1 s1279.2.1 s1279.2.2), (.slice s1280.1 s1280.2.1 s1280.2.2)]), h1273, r1265.2.2)))
    else
    (if ((n4 : Int) == 12) = true then
    ((stA h2 (nx + 1) 0 (.agg [(.int .i64 0), (.bool false), (.int .i64 0), (.slice none 0 none), (.slice none 0 none)]) 5).bind fun b1281 =>
    let h1282 := AHeap.put h2 (nx + 1) (some b1281)
    (ldR h1282 (nx + 1) 0 5).bind fun l1283 =>
    (asAgg 5 (AV.agg l1283)).bind fun d1284 =>
    (asI .i64 (d1284.getD 0 .bad)).bind fun n1285 =>
    (asB (d1284.getD 1 .bad)).bind fun t1286 =>
    (asI .i64 (d1284.getD 2 .bad)).bind fun n1287 =>
    (asSl (d1284.getD 3 .bad)).bind fun s1288 =>
    (asSl (d1284.getD 4 .bad)).bind fun s1289 =>
    some ((.agg [(.int .i64 n1285), (.bool t1286), (.int .i64 n1287), (.slice s1288.1 s1288.2.1 s1288.2.2), (.slice s1289.1 s1289.2.1 s1289.2.2)]), h1282, (nx + 28)))
    else
    (((callP Try.prog keepT n) Y 23 [(.int .i64 3)] h2 (nx + 28)).bind fun r1290 =>
    (asAgg 5 r1290.1).bind fun d1291 =>
    (asI .i64 (d1291.getD 0 .bad)).bind fun n1292 =>
    (asB (d1291.getD 1 .bad)).bind fun t1293 =>
    (asI .i64 (d1291.getD 2 .bad)).bind fun n1294 =>
    (asSl (d1291.getD 3 .bad)).bind fun s1295 =>
    (asSl (d1291.getD 4 .bad)).bind fun s1296 =>
    (stA r1290.2.1 (nx + 1) 0 (.agg [(.int .i64 n1292), (.bool t1293), (.int .i64 n1294), (.slice s1295.1 s1295.2.1 s1295.2.2), (.slice s1296.1 s1296.2.1 s1296.2.2)]) 5).bind fun b1297 =>
    let h1298 := AHeap.put r1290.2.1 (nx + 1) (some b1297)
    (ldR h1298 (nx + 1) 0 5).bind fun l1299 =>
    (asAgg 5 (AV.agg l1299)).bind fun d1300 =>
    (asI .i64 (d1300.getD 0 .bad)).bind fun n1301 =>
    (asB (d1300.getD 1 .bad)).bind fun t1302 =>
    (asI .i64 (d1300.getD 2 .bad)).bind fun n1303 =>
    (asSl (d1300.getD 3 .bad)).bind fun s1304 =>
    (asSl (d1300.getD 4 .bad)).bind fun s1305 =>
    some ((.agg [(.int .i64 n1301), (.bool t1302), (.int .i64 n1303), (.slice s1304.1 s1304.2.1 s1304.2.2), (.slice s1305.1 s1305.2.1 s1305.2.2)]), h1298, r1290.2.2))))
    else
    (if ((n4 : Int) == 5) = true then
    ((x0).bind fun p1306 =>
    (ldA h2 p1306.1 p1306.2).bind fun v1307 =>
    (asMp v1307).bind fun m1308 =>
    (ldA h2 nx 1).bind fun v1309 =>
    (asStr v1309).bind fun s1310 =>
    (mapO h2 m1308).bind fun es1311 =>
    (findE s1310 es1311 0).bind fun o1312 =>
    (asSl (valE (.slice none 0 none) o1312)).bind fun s1313 =>
    if (!(hasE o1312)) = true then
    (((callP Try.prog keepT n) Y 23 [(.int .i64 6)] h2 (nx + 42)).bind fun r1314 =>
    (asAgg 5 r1314.1).bind fun d1315 =>
    (asI .i64 (d1315.getD 0 .bad)).bind fun n1316 =>
    (asB (d1315.getD 1 .bad)).bind fun t1317 =>
    (asI .i64 (d1315.getD 2 .bad)).bind fun n1318 =>
    (asSl (d1315.getD 3 .bad)).bind fun s1319 =>
    (asSl (d1315.getD 4 .bad)).bind fun s1320 =>
    (stA r1314.2.1 (nx + 1) 0 (.agg [(.int .i64 n1316), (.bool t1317), (.int .i64 n1318), (.slice s1319.1 s1319.2.1 s1319.2.2), (.slice s1320.1 s1320.2.1 s1320.2.2)]) 5).bind fun b1321 =>
    let h1322 := AHeap.put r1314.2.1 (nx + 1) (some b1321)
    (ldR h1322 (nx + 1) 0 5).bind fun l1323 =>
    (asAgg 5 (AV.agg l1323)).bind fun d1324 =>
    (asI .i64 (d1324.getD 0 .bad)).bind fun n1325 =>
    (asB (d1324.getD 1 .bad)).bind fun t1326 =>
    (asI .i64 (d1324.getD 2 .bad)).bind fun n1327 =>
    (asSl (d1324.getD 3 .bad)).bind fun s1328 =>
    (asSl (d1324.getD 4 .bad)).bind fun s1329 =>
    some ((.agg [(.int .i64 n1325), (.bool t1326), (.int .i64 n1327), (.slice s1328.1 s1328.2.1 s1328.2.2), (.slice s1329.1 s1329.2.1 s1329.2.2)]), h1322, r1314.2.2))
    else
    ((ldR h2 nx 0 8).bind fun l1330 =>
    (asAgg 8 (AV.agg l1330)).bind fun d1331 =>
    (asI .i64 (d1331.getD 0 .bad)).bind fun n1332 =>
    (asStr (d1331.getD 1 .bad)).bind fun s1333 =>
    (asStr (d1331.getD 2 .bad)).bind fun s1334 =>
    (asI .i64 (d1331.getD 3 .bad)).bind fun n1335 =>
    (asI .i64 (d1331.getD 4 .bad)).bind fun n1336 =>
    (asI .i64 (d1331.getD 5 .bad)).bind fun n1337 =>
    (asI .i64 (d1331.getD 6 .bad)).bind fun n1338 =>
    (asSl (d1331.getD 7 .bad)).bind fun s1339 =>
    ((callP Try.prog keepT n) Y 27 [(.ptr x0), (.slice s1313.1 s1313.2.1 s1313.2.2), (.agg [(.int .i64 n1332), (.str s1333), (.str s1334), (.int .i64 n1335), (.int .i64 n1336), (.int .i64 n1337), (.int .i64 n1338), (.slice s1339.1 s1339.2.1 s1339.2.2)])] h2 (nx + 45)).bind fun r1340 =>
    (asAgg 5 r1340.1).bind fun d1341 =>
    (asI .i64 (d1341.getD 0 .bad)).bind fun n1342 =>
    (asB (d1341.getD 1 .bad)).bind fun t1343 =>
    (asI .i64 (d1341.getD 2 .bad)).bind fun n1344 =>
    (asSl (d1341.getD 3 .bad)).bind fun s1345 =>
    (asSl (d1341.getD 4 .bad)).bind fun s1346 =>
    (stA r1340.2.1 (nx + 1) 0 (.agg [(.int .i64 n1342), (.bool t1343), (.int .i64 n1344), (.slice s1345.1 s1345.2.1 s1345.2.2), (.slice s1346.1 s1346.2.1 s1346.2.2)]) 5).bind fun b1347 =>
    let h1348 := AHeap.put r1340.2.1 (nx + 1) (some b1347)
    (ldR h1348 (nx + 1) 0 5).bind fun l1349 =>
    (asAgg 5 (AV.agg l1349)).bind fun d1350 =>
    (asI .i64 (d1350.getD 0 .bad)).bind fun n1351 =>
    (asB (d1350.getD 1 .bad)).bind fun t1352 =>
    (asI .i64 (d1350.getD 2 .bad)).bind fun n1353 =>
    (asSl (d1350.getD 3 .bad)).bind fun s1354 =>
    (asSl (d1350.getD 4 .bad)).bind fun s1355 =>
    some ((.agg [(.int .i64 n1351), (.bool t1352), (.int .i64 n1353), (.slice s1354.1 s1354.2.1 s1354.2.2), (.slice s1355.1 s1355.2.1 s1355.2.2)]), h1348, r1340.2.2)))
    else
    (if ((n4 : Int) == 12) = true then
    ((stA h2 (nx + 1) 0 (.agg [(.int .i64 0), (.bool false), (.int .i64 0), (.slice none 0 none), (.slice none 0 none)]) 5).bind fun b1356 =>
    let h1357 := AHeap.put h2 (nx + 1) (some b1356)
    (ldR h1357 (nx + 1) 0 5).bind fun l1358 =>
    (asAgg 5 (AV.agg l1358)).bind fun d1359 =>
    (asI .i64 (d1359.getD 0 .bad)).bind fun n1360 =>
    (asB (d1359.getD 1 .bad)).bind fun t1361 =>
    (asI .i64 (d1359.getD 2 .bad)).bind fun n1362 =>
    (asSl (d1359.getD 3 .bad)).bind fun s1363 =>
    (asSl (d1359.getD 4 .bad)).bind fun s1364 =>
    some ((.agg [(.int .i64 n1360), (.bool t1361), (.int .i64 n1362), (.slice s1363.1 s1363.2.1 s1363.2.2), (.slice s1364.1 s1364.2.1 s1364.2.2)]), h1357, (nx + 30)))
    else
    (((callP Try.prog keepT n) Y 23 [(.int .i64 3)] h2 (nx + 30)).bind fun r1365 =>
    (asAgg 5 r1365.1).bind fun d1366 =>
    (asI .i64 (d1366.getD 0 .bad)).bind fun n1367 =>
    (asB (d1366.getD 1 .bad)).bind fun t1368 =>
    (asI .i64 (d1366.getD 2 .bad)).bind fun n1369 =>
    (asSl (d1366.getD 3 .bad)).bind fun s1370 =>
    (asSl (d1366.getD 4 .bad)).bind fun s1371 =>
    (stA r1365.2.1 (nx + 1) 0 (.agg [(.int .i64 n1367), (.bool t1368), (.int .i64 n1369), (.slice s1370.1 s1370.2.1 s1370.2.2), (.slice s1371.1 s1371.2.1 s1371.2.2)]) 5).bind fun b1372 =>
    let h1373 := AHeap.put r1365.2.1 (nx + 1) (some b1372)
    (ldR h1373 (nx + 1) 0 5).bind fun l1374 =>
    (asAgg 5 (AV.agg l1374)).bind fun d1375 =>
    (asI .i64 (d1375.getD 0 .bad)).bind fun n1376 =>
    (asB (d1375.getD 1 .bad)).bind fun t1377 =>
    (asI .i64 (d1375.getD 2 .bad)).bind fun n1378 =>
    (asSl (d1375.getD 3 .bad)).bind fun s1379 =>
    (asSl (d1375.getD 4 .bad)).bind fun s1380 =>
    some ((.agg [(.int .i64 n1376), (.bool t1377), (.int .i64 n1378), (.slice s1379.1 s1379.2.1 s1379.2.2), (.slice s1380.1 s1380.2.1 s1380.2.2)]), h1373, r1365.2.2))))))))))))) := by kernel_rfl

/-- (*quickset/pool.State[quickset/pool.flat]).Do -/
theorem F21_eq (n : Nat) (Y : YldF) (x0 : Option (Nat × Nat)) (x1_0 : Int) (x1_1 : ByteArray) (x1_2 : ByteArray) (x1_3 : Int) (x1_4 : Int) (x1_5 : Int) (x1_6 : Int) (x1_7a : Option (Nat × Nat)) (x1_7n : Nat) (x1_7c : Option Nat) (h : AHeap) (nx : Nat) : callP Try.prog keepT (n + 1) Y 21 [(.ptr x0), (.agg [(.int .i64 x1_0), (.str x1_1), (.str x1_2), (.int .i64 x1_3), (.int .i64 x1_4), (.int .i64 x1_5), (.int .i64 x1_6), (.slice x1_7a x1_7n x1_7c)])] h nx =
    let h1 := AHeap.put h nx (some ⟨[(.int .i64 x1_0), (.str x1_1), (.str x1_2), (.int .i64 x1_3), (.int .i64 x1_4), (.int .i64 x1_5), (.int .i64 x1_6), (.slice x1_7a x1_7n x1_7c)], 8, true⟩)
    let h2 := AHeap.put h1 (nx + 1) (some ⟨[(.int .i64 0), (.bool false), (.int .i64 0), (.slice none 0 none), (.slice none 0 none)], 5, true⟩)
    (ldA h2 nx 0).bind fun v3 =>
    (asI .i64 v3).bind fun n4 =>
    if ((n4 : Int) == 1) = true then
    ((x0).bind fun p5 =>
    (ldA h2 p5.1 p5.2).bind fun v6 =>
    (asMp v6).bind fun m7 =>
    (ldA h2 nx 1).bind fun v8 =>
    (asStr v8).bind fun s9 =>
    ((callP Try.prog keepT n) Y 22 [(.mapv m7), (.str s9), (.int .i64 4)] h2 (nx + 14)).bind fun r10 =>
    (asI .i64 r10.1).bind fun n11 =>
    if ((n11 : Int) != 0) = true then
    (((callP Try.prog keepT n) Y 23 [(.int .i64 n11)] r10.2.1 (r10.2.2 + 5)).bind fun r12 =>
    (asAgg 5 r12.1).bind fun d13 =>
    (asI .i64 (d13.getD 0 .bad)).bind fun n14 =>
    (asB (d13.getD 1 .bad)).bind fun t15 =>
    (asI .i64 (d13.getD 2 .bad)).bind fun n16 =>
    (asSl (d13.getD 3 .bad)).bind fun s17 =>
    (asSl (d13.getD 4 .bad)).bind fun s18 =>
    (stA r12.2.1 (nx + 1) 0 (.agg [(.int .i64 n14), (.bool t15), (.int .i64 n16), (.slice s17.1 s17.2.1 s17.2.2), (.slice s18.1 s18.2.1 s18.2.2)]) 5).bind fun b19 =>
    let h20 := AHeap.put r12.2.1 (nx + 1) (some b19)
    (ldR h20 (nx + 1) 0 5).bind fun l21 =>
    (asAgg 5 (AV.agg l21)).bind fun d22 =>
    (asI .i64 (d22.getD 0 .bad)).bind fun n23 =>
    (asB (d22.getD 1 .bad)).bind fun t24 =>
    (asI .i64 (d22.getD 2 .bad)).bind fun n25 =>
    (asSl (d22.getD 3 .bad)).bind fun s26 =>
    (asSl (d22.getD 4 .bad)).bind fun s27 =>
    some ((.agg [(.int .i64 n23), (.bool t24), (.int .i64 n25), (.slice s26.1 s26.2.1 s26.2.2), (.slice s27.1 s27.2.1 s27.2.2)]), h20, r12.2.2))
    else
    ((x0).bind fun p28 =>
    (ldA r10.2.1 p28.1 p28.2).bind fun v29 =>
    (asMp v29).bind fun m30 =>
    (ldA r10.2.1 nx 1).bind fun v31 =>
    (asStr v31).bind fun s32 =>
    (x0).bind fun p33 =>
    (ldA r10.2.1 p33.1 (p33.2 + 2)).bind fun v34 =>
    (asSl v34).bind fun s35 =>
    (m30).bind fun i36 =>
    (mapD r10.2.1 i36).bind fun es37 =>
    (updE s32 (.slice s35.1 s35.2.1 s35.2.2) es37).bind fun es38 =>
    let h39 := AHeap.put r10.2.1 i36 (some ⟨es38, MB, true⟩)
    (stA h39 (nx + 1) 0 (.agg [(.int .i64 0), (.bool false), (.int .i64 0), (.slice none 0 none), (.slice none 0 none)]) 5).bind fun b40 =>
    let h41 := AHeap.put h39 (nx + 1) (some b40)
    (ldR h41 (nx + 1) 0 5).bind fun l42 =>
    (asAgg 5 (AV.agg l42)).bind fun d43 =>
    (asI .i64 (d43.getD 0 .bad)).bind fun n44 =>
    (asB (d43.getD 1 .bad)).bind fun t45 =>
    (asI .i64 (d43.getD 2 .bad)).bind fun n46 =>
    (asSl (d43.getD 3 .bad)).bind fun s47 =>
    (asSl (d43.getD 4 .bad)).bind fun s48 =>
    some ((.agg [(.int .i64 n44), (.bool t45), (.int .i64 n46), (.slice s47.1 s47.2.1 s47.2.2), (.slice s48.1 s48.2.1 s48.2.2)]), h41, (r10.2.2 + 15))))
    else
    (if ((n4 : Int) == 6) = true then
    ((x0).bind fun p49 =>
    (ldA h2 p49.1 p49.2).bind fun v50 =>
    (asMp v50).bind fun m51 =>
    ((callP Try.prog keepT n) Y 24 [(.mapv m51)] h2 (nx + 15)).bind fun r52 =>
    (asSl r52.1).bind fun s53 =>
    (stA r52.2.1 (nx + 1) 0 (.agg [(.int .i64 0), (.bool false), (.int .i64 0), (.slice none 0 none), (.slice s53.1 s53.2.1 s53.2.2)]) 5).bind fun b54 =>
    let h55 := AHeap.put r52.2.1 (nx + 1) (some b54)
    (ldR h55 (nx + 1) 0 5).bind fun l56 =>
    (asAgg 5 (AV.agg l56)).bind fun d57 =>
    (asI .i64 (d57.getD 0 .bad)).bind fun n58 =>
    (asB (d57.getD 1 .bad)).bind fun t59 =>
    (asI .i64 (d57.getD 2 .bad)).bind fun n60 =>
    (asSl (d57.getD 3 .bad)).bind fun s61 =>
    (asSl (d57.getD 4 .bad)).bind fun s62 =>
    some ((.agg [(.int .i64 n58), (.bool t59), (.int .i64 n60), (.slice s61.1 s61.2.1 s61.2.2), (.slice s62.1 s62.2.1 s62.2.2)]), h55, r52.2.2))
    else
    (if ((n4 : Int) == 11) = true then
    ((x0).bind fun p63 =>
    (ldA h2 p63.1 (p63.2 + 1)).bind fun v64 =>
    (asMp v64).bind fun m65 =>
    ((callP Try.prog keepT n) Y 25 [(.mapv m65)] h2 (nx + 17)).bind fun r66 =>
    (asSl r66.1).bind fun s67 =>
    (stA r66.2.1 (nx + 1) 0 (.agg [(.int .i64 0), (.bool false), (.int .i64 0), (.slice none 0 none), (.slice s67.1 s67.2.1 s67.2.2)]) 5).bind fun b68 =>
    let h69 := AHeap.put r66.2.1 (nx + 1) (some b68)
    (ldR h69 (nx + 1) 0 5).bind fun l70 =>
    (asAgg 5 (AV.agg l70)).bind fun d71 =>
    (asI .i64 (d71.getD 0 .bad)).bind fun n72 =>
    (asB (d71.getD 1 .bad)).bind fun t73 =>
    (asI .i64 (d71.getD 2 .bad)).bind fun n74 =>
    (asSl (d71.getD 3 .bad)).bind fun s75 =>
    (asSl (d71.getD 4 .bad)).bind fun s76 =>
    some ((.agg [(.int .i64 n72), (.bool t73), (.int .i64 n74), (.slice s75.1 s75.2.1 s75.2.2), (.slice s76.1 s76.2.1 s76.2.2)]), h69, r66.2.2))
    else
    (if ((n4 : Int) == 7) = true then
    (if ((n4 : Int) == 7) = true then
    ((ldR h2 nx 0 8).bind fun l77 =>
    (asAgg 8 (AV.agg l77)).bind fun d78 =>
    (asI .i64 (d78.getD 0 .bad)).bind fun n79 =>
    (asStr (d78.getD 1 .bad)).bind fun s80 =>
    (asStr (d78.getD 2 .bad)).bind fun s81 =>
    (asI .i64 (d78.getD 3 .bad)).bind fun n82 =>
    (asI .i64 (d78.getD 4 .bad)).bind fun n83 =>
    (asI .i64 (d78.getD 5 .bad)).bind fun n84 =>
    (asI .i64 (d78.getD 6 .bad)).bind fun n85 =>
    (asSl (d78.getD 7 .bad)).bind fun s86 =>
    ((callP Try.prog keepT n) Y 26 [(.ptr x0), (.agg [(.int .i64 n79), (.str s80), (.str s81), (.int .i64 n82), (.int .i64 n83), (.int .i64 n84), (.int .i64 n85), (.slice s86.1 s86.2.1 s86.2.2)])] h2 (nx + 16)).bind fun r87 =>
    (asAgg 5 r87.1).bind fun d88 =>
    (asI .i64 (d88.getD 0 .bad)).bind fun n89 =>
    (asB (d88.getD 1 .bad)).bind fun t90 =>
    (asI .i64 (d88.getD 2 .bad)).bind fun n91 =>
    (asSl (d88.getD 3 .bad)).bind fun s92 =>
    (asSl (d88.getD 4 .bad)).bind fun s93 =>
    (stA r87.2.1 (nx + 1) 0 (.agg [(.int .i64 n89), (.bool t90), (.int .i64 n91), (.slice s92.1 s92.2.1 s92.2.2), (.slice s93.1 s93.2.1 s93.2.2)]) 5).bind fun b94 =>
    let h95 := AHeap.put r87.2.1 (nx + 1) (some b94)
    (ldR h95 (nx + 1) 0 5).bind fun l96 =>
    (asAgg 5 (AV.agg l96)).bind fun d97 =>
    (asI .i64 (d97.getD 0 .bad)).bind fun n98 =>
    (asB (d97.getD 1 .bad)).bind fun t99 =>
    (asI .i64 (d97.getD 2 .bad)).bind fun n100 =>
    (asSl (d97.getD 3 .bad)).bind fun s101 =>
    (asSl (d97.getD 4 .bad)).bind fun s102 =>
    some ((.agg [(.int .i64 n98), (.bool t99), (.int .i64 n100), (.slice s101.1 s101.2.1 s101.2.2), (.slice s102.1 s102.2.1 s102.2.2)]), h95, r87.2.2))
    else
    (if ((n4 : Int) == 2) = true then
    (if ((n4 : Int) == 2) = true then
    ((x0).bind fun p103 =>
    (ldA h2 p103.1 p103.2).bind fun v104 =>
    (asMp v104).bind fun m105 =>
    (ldA h2 nx 1).bind fun v106 =>
    (asStr v106).bind fun s107 =>
    (mapO h2 m105).bind fun es108 =>
    (findE s107 es108 0).bind fun o109 =>
    (asSl (valE (.slice none 0 none) o109)).bind fun s110 =>
    if (!(hasE o109)) = true then
    (((callP Try.prog keepT n) Y 23 [(.int .i64 6)] h2 (nx + 30)).bind fun r111 =>
    (asAgg 5 r111.1).bind fun d112 =>
    (asI .i64 (d112.getD 0 .bad)).bind fun n113 =>
    (asB (d112.getD 1 .bad)).bind fun t114 =>
    (asI .i64 (d112.getD 2 .bad)).bind fun n115 =>
    (asSl (d112.getD 3 .bad)).bind fun s116 =>
    (asSl (d112.getD 4 .bad)).bind fun s117 =>
    (stA r111.2.1 (nx + 1) 0 (.agg [(.int .i64 n113), (.bool t114), (.int .i64 n115), (.slice s116.1 s116.2.1 s116.2.2), (.slice s117.1 s117.2.1 s117.2.2)]) 5).bind fun b118 =>
    let h119 := AHeap.put r111.2.1 (nx + 1) (some b118)
    (ldR h119 (nx + 1) 0 5).bind fun l120 =>
    (asAgg 5 (AV.agg l120)).bind fun d121 =>
    (asI .i64 (d121.getD 0 .bad)).bind fun n122 =>
    (asB (d121.getD 1 .bad)).bind fun t123 =>
    (asI .i64 (d121.getD 2 .bad)).bind fun n124 =>
    (asSl (d121.getD 3 .bad)).bind fun s125 =>
    (asSl (d121.getD 4 .bad)).bind fun s126 =>
    some ((.agg [(.int .i64 n122), (.bool t123), (.int .i64 n124), (.slice s125.1 s125.2.1 s125.2.2), (.slice s126.1 s126.2.1 s126.2.2)]), h119, r111.2.2))
    else
    ((ldR h2 nx 0 8).bind fun l127 =>
    (asAgg 8 (AV.agg l127)).bind fun d128 =>
    (asI .i64 (d128.getD 0 .bad)).bind fun n129 =>
    (asStr (d128.getD 1 .bad)).bind fun s130 =>
    (asStr (d128.getD 2 .bad)).bind fun s131 =>
    (asI .i64 (d128.getD 3 .bad)).bind fun n132 =>
    (asI .i64 (d128.getD 4 .bad)).bind fun n133 =>
    (asI .i64 (d128.getD 5 .bad)).bind fun n134 =>
    (asI .i64 (d128.getD 6 .bad)).bind fun n135 =>
    (asSl (d128.getD 7 .bad)).bind fun s136 =>
    ((callP Try.prog keepT n) Y 27 [(.ptr x0), (.slice s110.1 s110.2.1 s110.2.2), (.agg [(.int .i64 n129), (.str s130), (.str s131), (.int .i64 n132), (.int .i64 n133), (.int .i64 n134), (.int .i64 n135), (.slice s136.1 s136.2.1 s136.2.2)])] h2 (nx + 33)).bind fun r137 =>
    (asAgg 5 r137.1).bind fun d138 =>
    (asI .i64 (d138.getD 0 .bad)).bind fun n139 =>
    (asB (d138.getD 1 .bad)).bind fun t140 =>
    (asI .i64 (d138.getD 2 .bad)).bind fun n141 =>
    (asSl (d138.getD 3 .bad)).bind fun s142 =>
    (asSl (d138.getD 4 .bad)).bind fun s143 =>
    (stA r137.2.1 (nx + 1) 0 (.agg [(.int .i64 n139), (.bool t140), (.int .i64 n141), (.slice s142.1 s142.2.1 s142.2.2), (.slice s143.1 s143.2.1 s143.2.2)]) 5).bind fun b144 =>
    let h145 := AHeap.put r137.2.1 (nx + 1) (some b144)
    (ldR h145 (nx + 1) 0 5).bind fun l146 =>
    (asAgg 5 (AV.agg l146)).bind fun d147 =>
    (asI .i64 (d147.getD 0 .bad)).bind fun n148 =>
    (asB (d147.getD 1 .bad)).bind fun t149 =>
    (asI .i64 (d147.getD 2 .bad)).bind fun n150 =>
    (asSl (d147.getD 3 .bad)).bind fun s151 =>
    (asSl (d147.getD 4 .bad)).bind fun s152 =>
    some ((.agg [(.int .i64 n148), (.bool t149), (.int .i64 n150), (.slice s151.1 s151.2.1 s151.2.2), (.slice s152.1 s152.2.1 s152.2.2)]), h145, r137.2.2)))
    else
    (if ((n4 : Int) == 12) = true then
    ((stA h2 (nx + 1) 0 (.agg [(.int .i64 0), (.bool false), (.int .i64 0), (.slice none 0 none), (.slice none 0 none)]) 5).bind fun b153 =>
    let h154 := AHeap.put h2 (nx + 1) (some b153)
    (ldR h154 (nx + 1) 0 5).bind fun l155 =>
    (asAgg 5 (AV.agg l155)).bind fun d156 =>
    (asI .i64 (d156.getD 0 .bad)).bind fun n157 =>
    (asB (d156.getD 1 .bad)).bind fun t158 =>
    (asI .i64 (d156.getD 2 .bad)).bind fun n159 =>
    (asSl (d156.getD 3 .bad)).bind fun s160 =>
    (asSl (d156.getD 4 .bad)).bind fun s161 =>
    some ((.agg [(.int .i64 n157), (.bool t158), (.int .i64 n159), (.slice s160.1 s160.2.1 s160.2.2), (.slice s161.1 s161.2.1 s161.2.2)]), h154, (nx + 18)))
    else
    (((callP Try.prog keepT n) Y 23 [(.int .i64 3)] h2 (nx + 18)).bind fun r162 =>
    (asAgg 5 r162.1).bind fun d163 =>
    (asI .i64 (d163.getD 0 .bad)).bind fun n164 =>
    (asB (d163.getD 1 .bad)).bind fun t165 =>
    (asI .i64 (d163.getD 2 .bad)).bind fun n166 =>
    (asSl (d163.getD 3 .bad)).bind fun s167 =>
    (asSl (d163.getD 4 .bad)).bind fun s168 =>
    (stA r162.2.1 (nx + 1) 0 (.agg [(.int .i64 n164), (.bool t165), (.int .i64 n166), (.slice s167.1 s167.2.1 s167.2.2), (.slice s168.1 s168.2.1 s168.2.2)]) 5).bind fun b169 =>
    let h170 := AHeap.put r162.2.1 (nx + 1) (some b169)
    (ldR h170 (nx + 1) 0 5).bind fun l171 =>
    (asAgg 5 (AV.agg l171)).bind fun d172 =>
    (asI .i64 (d172.getD 0 .bad)).bind fun n173 =>
    (asB (d172.getD 1 .bad)).bind fun t174 =>
    (asI .i64 (d172.getD 2 .bad)).bind fun n175 =>
    (asSl (d172.getD 3 .bad)).bind fun s176 =>
    (asSl (d172.getD 4 .bad)).bind fun s177 =>
    some ((.agg [(.int .i64 n173), (.bool t174), (.int .i64 n175), (.slice s176.1 s176.2.1 s176.2.2), (.slice s177.1 s177.2.1 s177.2.2)]), h170, r162.2.2))))
    else
    (if ((n4 : Int) == 3) = true then
    (if ((n4 : Int) == 3) = true then
    ((x0).bind fun p178 =>
    (ldA h2 p178.1 p178.2).bind fun v179 =>
    (asMp v179).bind fun m180 =>
    (ldA h2 nx 1).bind fun v181 =>
    (asStr v181).bind fun s182 =>
    (mapO h2 m180).bind fun es183 =>
    (findE s182 es183 0).bind fun o184 =>
    (asSl (valE (.slice none 0 none) o184)).bind fun s185 =>
    if (!(hasE o184)) = true then
    (((callP Try.prog keepT n) Y 23 [(.int .i64 6)] h2 (nx + 32)).bind fun r186 =>
    (asAgg 5 r186.1).bind fun d187 =>
    (asI .i64 (d187.getD 0 .bad)).bind fun n188 =>
    (asB (d187.getD 1 .bad)).bind fun t189 =>
    (asI .i64 (d187.getD 2 .bad)).bind fun n190 =>
    (asSl (d187.getD 3 .bad)).bind fun s191 =>
    (asSl (d187.getD 4 .bad)).bind fun s192 =>
    (stA r186.2.1 (nx + 1) 0 (.agg [(.int .i64 n188), (.bool t189), (.int .i64 n190), (.slice s191.1 s191.2.1 s191.2.2), (.slice s192.1 s192.2.1 s192.2.2)]) 5).bind fun b193 =>
    let h194 := AHeap.put r186.2.1 (nx + 1) (some b193)
    (ldR h194 (nx + 1) 0 5).bind fun l195 =>
    (asAgg 5 (AV.agg l195)).bind fun d196 =>
    (asI .i64 (d196.getD 0 .bad)).bind fun n197 =>
    (asB (d196.getD 1 .bad)).bind fun t198 =>
    (asI .i64 (d196.getD 2 .bad)).bind fun n199 =>
    (asSl (d196.getD 3 .bad)).bind fun s200 =>
    (asSl (d196.getD 4 .bad)).bind fun s201 =>
    some ((.agg [(.int .i64 n197), (.bool t198), (.int .i64 n199), (.slice s200.1 s200.2.1 s200.2.2), (.slice s201.1 s201.2.1 s201.2.2)]), h194, r186.2.2))
    else
    ((ldR h2 nx 0 8).bind fun l202 =>
    (asAgg 8 (AV.agg l202)).bind fun d203 =>
    (asI .i64 (d203.getD 0 .bad)).bind fun n204 =>
    (asStr (d203.getD 1 .bad)).bind fun s205 =>
    (asStr (d203.getD 2 .bad)).bind fun s206 =>
    (asI .i64 (d203.getD 3 .bad)).bind fun n207 =>
    (asI .i64 (d203.getD 4 .bad)).bind fun n208 =>
    (asI .i64 (d203.getD 5 .bad)).bind fun n209 =>
    (asI .i64 (d203.getD 6 .bad)).bind fun n210 =>
    (asSl (d203.getD 7 .bad)).bind fun s211 =>
    ((callP Try.prog keepT n) Y 27 [(.ptr x0), (.slice s185.1 s185.2.1 s185.2.2), (.agg [(.int .i64 n204), (.str s205), (.str s206), (.int .i64 n207), (.int .i64 n208), (.int .i64 n209), (.int .i64 n210), (.slice s211.1 s211.2.1 s211.2.2)])] h2 (nx + 35)).bind fun r212 =>
    (asAgg 5 r212.1).bind fun d213 =>
    (asI .i64 (d213.getD 0 .bad)).bind fun n214 =>
    (asB (d213.getD 1 .bad)).bind fun t215 =>
    (asI .i64 (d213.getD 2 .bad)).bind fun n216 =>
    (asSl (d213.getD 3 .bad)).bind fun s217 =>
    (asSl (d213.getD 4 .bad)).bind fun s218 =>
    (stA r212.2.1 (nx + 1) 0 (.agg [(.int .i64 n214), (.bool t215), (.int .i64 n216), (.slice s217.1 s217.2.1 s217.2.2), (.slice s218.1 s218.2.1 s218.2.2)]) 5).bind fun b219 =>
    let h220 := AHeap.put r212.2.1 (nx + 1) (some b219)
    (ldR h220 (nx + 1) 0 5).bind fun l221 =>
    (asAgg 5 (AV.agg l221)).bind fun d222 =>
    (asI .i64 (d222.getD 0 .bad)).bind fun n223 =>
    (asB (d222.getD 1 .bad)).bind fun t224 =>
    (asI .i64 (d222.getD 2 .bad)).bind fun n225 =>
    (asSl (d222.getD 3 .bad)).bind fun s226 =>
    (asSl (d222.getD 4 .bad)).bind fun s227 =>
    some ((.agg [(.int .i64 n223), (.bool t224), (.int .i64 n225), (.slice s226.1 s226.2.1 s226.2.2), (.slice s227.1 s227.2.1 s227.2.2)]), h220, r212.2.2)))
    else
    (if ((n4 : Int) == 12) = true then
    ((stA h2 (nx + 1) 0 (.agg [(.int .i64 0), (.bool false), (.int .i64 0), (.slice none 0 none), (.slice none 0 none)]) 5).bind fun b228 =>
    let h229 := AHeap.put h2 (nx + 1) (some b228)
    (ldR h229 (nx + 1) 0 5).bind fun l230 =>
    (asAgg 5 (AV.agg l230)).bind fun d231 =>
    (asI .i64 (d231.getD 0 .bad)).bind fun n232 =>
    (asB (d231.getD 1 .bad)).bind fun t233 =>
    (asI .i64 (d231.getD 2 .bad)).bind fun n234 =>
    (asSl (d231.getD 3 .bad)).bind fun s235 =>
    (asSl (d231.getD 4 .bad)).bind fun s236 =>
    some ((.agg [(.int .i64 n232), (.bool t233), (.int .i64 n234), (.slice s235.1 s235.2.1 s235.2.2), (.slice s236.1 s236.2.1 s236.2.2)]), h229, (nx + 20)))
    else
    (((callP Try.prog keepT n) Y 23 [(.int .i64 3)] h2 (nx + 20)).bind fun r237 =>
    (asAgg 5 r237.1).bind fun d238 =>
    (asI .i64 (d238.getD 0 .bad)).bind fun n239 =>
    (asB (d238.getD 1 .bad)).bind fun t240 =>
    (asI .i64 (d238.getD 2 .bad)).bind fun n241 =>
    (asSl (d238.getD 3 .bad)).bind fun s242 =>
    (asSl (d238.getD 4 .bad)).bind fun s243 =>
    (stA r237.2.1 (nx + 1) 0 (.agg [(.int .i64 n239), (.bool t240), (.int .i64 n241), (.slice s242.1 s242.2.1 s242.2.2), (.slice s243.1 s243.2.1 s243.2.2)]) 5).bind fun b244 =>
    let h245 := AHeap.put r237.2.1 (nx + 1) (some b244)
    (ldR h245 (nx + 1) 0 5).bind fun l246 =>
    (asAgg 5 (AV.agg l246)).bind fun d247 =>
    (asI .i64 (d247.getD 0 .bad)).bind fun n248 =>
    (asB (d247.getD 1 .bad)).bind fun t249 =>
    (asI .i64 (d247.getD 2 .bad)).bind fun n250 =>
    (asSl (d247.getD 3 .bad)).bind fun s251 =>
    (asSl (d247.getD 4 .bad)).bind fun s252 =>
    some ((.agg [(.int .i64 n248), (.bool t249), (.int .i64 n250), (.slice s251.1 s251.2.1 s251.2.2), (.slice s252.1 s252.2.1 s252.2.2)]), h245, r237.2.2))))
    else
    (if ((n4 : Int) == 4) = true then
    (if ((n4 : Int) == 4) = true then
    ((x0).bind fun p253 =>
    (ldA h2 p253.1 p253.2).bind fun v254 =>
    (asMp v254).bind fun m255 =>
    (ldA h2 nx 1).bind fun v256 =>
    (asStr v256).bind fun s257 =>
    (mapO h2 m255).bind fun es258 =>
    (findE s257 es258 0).bind fun o259 =>
    (asSl (valE (.slice none 0 none) o259)).bind fun s260 =>
    if (!(hasE o259)) = true then
    (((callP Try.prog keepT n) Y 23 [(.int .i64 6)] h2 (nx + 34)).bind fun r261 =>
    (asAgg 5 r261.1).bind fun d262 =>
    (asI .i64 (d262.getD 0 .bad)).bind fun n263 =>
    (asB (d262.getD 1 .bad)).bind fun t264 =>
    (asI .i64 (d262.getD 2 .bad)).bind fun n265 =>
    (asSl (d262.getD 3 .bad)).bind fun s266 =>
    (asSl (d262.getD 4 .bad)).bind fun s267 =>
    (stA r261.2.1 (nx + 1) 0 (.agg [(.int .i64 n263), (.bool t264), (.int .i64 n265), (.slice s266.1 s266.2.1 s266.2.2), (.slice s267.1 s267.2.1 s267.2.2)]) 5).bind fun b268 =>
    let h269 := AHeap.put r261.2.1 (nx + 1) (some b268)
    (ldR h269 (nx + 1) 0 5).bind fun l270 =>
    (asAgg 5 (AV.agg l270)).bind fun d271 =>
    (asI .i64 (d271.getD 0 .bad)).bind fun n272 =>
    (asB (d271.getD 1 .bad)).bind fun t273 =>
    (asI .i64 (d271.getD 2 .bad)).bind fun n274 =>
    (asSl (d271.getD 3 .bad)).bind fun s275 =>
    (asSl (d271.getD 4 .bad)).bind fun s276 =>
    some ((.agg [(.int .i64 n272), (.bool t273), (.int .i64 n274), (.slice s275.1 s275.2.1 s275.2.2), (.slice s276.1 s276.2.1 s276.2.2)]), h269, r261.2.2))
    else
    ((ldR h2 nx 0 8).bind fun l277 =>
    (asAgg 8 (AV.agg l277)).bind fun d278 =>
    (asI .i64 (d278.getD 0 .bad)).bind fun n279 =>
    (asStr (d278.getD 1 .bad)).bind fun s280 =>
    (asStr (d278.getD 2 .bad)).bind fun s281 =>
    (asI .i64 (d278.getD 3 .bad)).bind fun n282 =>
    (asI .i64 (d278.getD 4 .bad)).bind fun n283 =>
    (asI .i64 (d278.getD 5 .bad)).bind fun n284 =>
    (asI .i64 (d278.getD 6 .bad)).bind fun n285 =>
    (asSl (d278.getD 7 .bad)).bind fun s286 =>
    ((callP Try.prog keepT n) Y 27 [(.ptr x0), (.slice s260.1 s260.2.1 s260.2.2), (.agg [(.int .i64 n279), (.str s280), (.str s281), (.int .i64 n282), (.int .i64 n283), (.int .i64 n284), (.int .i64 n285), (.slice s286.1 s286.2.1 s286.2.2)])] h2 (nx + 37)).bind fun r287 =>
    (asAgg 5 r287.1).bind fun d288 =>
    (asI .i64 (d288.getD 0 .bad)).bind fun n289 =>
    (asB (d288.getD 1 .bad)).bind fun t290 =>
    (asI .i64 (d288.getD 2 .bad)).bind fun n291 =>
    (asSl (d288.getD 3 .bad)).bind fun s292 =>
    (asSl (d288.getD 4 .bad)).bind fun s293 =>
    (stA r287.2.1 (nx + 1) 0 (.agg [(.int .i64 n289), (.bool t290), (.int .i64 n291), (.slice s292.1 s292.2.1 s292.2.2), (.slice s293.1 s293.2.1 s293.2.2)]) 5).bind fun b294 =>
    let h295 := AHeap.put r287.2.1 (nx + 1) (some b294)
    (ldR h295 (nx + 1) 0 5).bind fun l296 =>
    (asAgg 5 (AV.agg l296)).bind fun d297 =>
    (asI .i64 (d297.getD 0 .bad)).bind fun n298 =>
    (asB (d297.getD 1 .bad)).bind fun t299 =>
    (asI .i64 (d297.getD 2 .bad)).bind fun n300 =>
    (asSl (d297.getD 3 .bad)).bind fun s301 =>
    (asSl (d297.getD 4 .bad)).bind fun s302 =>
    some ((.agg [(.int .i64 n298), (.bool t299), (.int .i64 n300), (.slice s301.1 s301.2.1 s301.2.2), (.slice s302.1 s302.2.1 s302.2.2)]), h295, r287.2.2)))
    else
    (if ((n4 : Int) == 12) = true then
    ((stA h2 (nx + 1) 0 (.agg [(.int .i64 0), (.bool false), (.int .i64 0), (.slice none 0 none), (.slice none 0 none)]) 5).bind fun b303 =>
    let h304 := AHeap.put h2 (nx + 1) (some b303)
    (ldR h304 (nx + 1) 0 5).bind fun l305 =>
    (asAgg 5 (AV.agg l305)).bind fun d306 =>
    (asI .i64 (d306.getD 0 .bad)).bind fun n307 =>
    (asB (d306.getD 1 .bad)).bind fun t308 =>
    (asI .i64 (d306.getD 2 .bad)).bind fun n309 =>
    (asSl (d306.getD 3 .bad)).bind fun s310 =>
    (asSl (d306.getD 4 .bad)).bind fun s311 =>
    some ((.agg [(.int .i64 n307), (.bool t308), (.int .i64 n309), (.slice s310.1 s310.2.1 s310.2.2), (.slice s311.1 s311.2.1 s311.2.2)]), h304, (nx + 22)))
    else
    (((callP Try.prog keepT n) Y 23 [(.int .i64 3)] h2 (nx + 22)).bind fun r312 =>
    (asAgg 5 r312.1).bind fun d313 =>
    (asI .i64 (d313.getD 0 .bad)).bind fun n314 =>
    (asB (d313.getD 1 .bad)).bind fun t315 =>
    (asI .i64 (d313.getD 2 .bad)).bind fun n316 =>
    (asSl (d313.getD 3 .bad)).bind fun s317 =>
    (asSl (d313.getD 4 .bad)).bind fun s318 =>
    (stA r312.2.1 (nx + 1) 0 (.agg [(.int .i64 n314), (.bool t315), (.int .i64 n316), (.slice s317.1 s317.2.1 s317.2.2), (.slice s318.1 s318.2.1 s318.2.2)]) 5).bind fun b319 =>
    let h320 := AHeap.put r312.2.1 (nx + 1) (some b319)
    (ldR h320 (nx + 1) 0 5).bind fun l321 =>
    (asAgg 5 (AV.agg l321)).bind fun d322 =>
    (asI .i64 (d322.getD 0 .bad)).bind fun n323 =>
    (asB (d322.getD 1 .bad)).bind fun t324 =>
    (asI .i64 (d322.getD 2 .bad)).bind fun n325 =>
    (asSl (d322.getD 3 .bad)).bind fun s326 =>
    (asSl (d322.getD 4 .bad)).bind fun s327 =>
    some ((.agg [(.int .i64 n323), (.bool t324), (.int .i64 n325), (.slice s326.1 s326.2.1 s326.2.2), (.slice s327.1 s327.2.1 s327.2.2)]), h320, r312.2.2))))
    else
    (if ((n4 : Int) == 5) = true then
    ((x0).bind fun p328 =>
    (ldA h2 p328.1 p328.2).bind fun v329 =>
    (asMp v329).bind fun m330 =>
    (ldA h2 nx 1).bind fun v331 =>
    (asStr v331).bind fun s332 =>
    (mapO h2 m330).bind fun es333 =>
    (findE s332 es333 0).bind fun o334 =>
    (asSl (valE (.slice none 0 none) o334)).bind fun s335 =>
    if (!(hasE o334)) = true then
    (((callP Try.prog keepT n) Y 23 [(.int .i64 6)] h2 (nx + 36)).bind fun r336 =>
    (asAgg 5 r336.1).bind fun d337 =>
    (asI .i64 (d337.getD 0 .bad)).bind fun n338 =>
    (asB (d337.getD 1 .bad)).bind fun t339 =>
    (asI .i64 (d337.getD 2 .bad)).bind fun n340 =>
    (asSl (d337.getD 3 .bad)).bind fun s341 =>
    (asSl (d337.getD 4 .bad)).bind fun s342 =>
    (stA r336.2.1 (nx + 1) 0 (.agg [(.int .i64 n338), (.bool t339), (.int .i64 n340), (.slice s341.1 s341.2.1 s341.2.2), (.slice s342.1 s342.2.1 s342.2.2)]) 5).bind fun b343 =>
    let h344 := AHeap.put r336.2.1 (nx + 1) (some b343)
    (ldR h344 (nx + 1) 0 5).bind fun l345 =>
    (asAgg 5 (AV.agg l345)).bind fun d346 =>
    (asI .i64 (d346.getD 0 .bad)).bind fun n347 =>
    (asB (d346.getD 1 .bad)).bind fun t348 =>
    (asI .i64 (d346.getD 2 .bad)).bind fun n349 =>
    (asSl (d346.getD 3 .bad)).bind fun s350 =>
    (asSl (d346.getD 4 .bad)).bind fun s351 =>
    some ((.agg [(.int .i64 n347), (.bool t348), (.int .i64 n349), (.slice s350.1 s350.2.1 s350.2.2), (.slice s351.1 s351.2.1 s351.2.2)]), h344, r336.2.2))
    else
    ((ldR h2 nx 0 8).bind fun l352 =>
    (asAgg 8 (AV.agg l352)).bind fun d353 =>
    (asI .i64 (d353.getD 0 .bad)).bind fun n354 =>
    (asStr (d353.getD 1 .bad)).bind fun s355 =>
    (asStr (d353.getD 2 .bad)).bind fun s356 =>
    (asI .i64 (d353.getD 3 .bad)).bind fun n357 =>
    (asI .i64 (d353.getD 4 .bad)).bind fun n358 =>
    (asI .i64 (d353.getD 5 .bad)).bind fun n359 =>
    (asI .i64 (d353.getD 6 .bad)).bind fun n360 =>
    (asSl (d353.getD 7 .bad)).bind fun s361 =>
    ((callP Try.prog keepT n) Y 27 [(.ptr x0), (.slice s335.1 s335.2.1 s335.2.2), (.agg [(.int .i64 n354), (.str s355), (.str s356), (.int .i64 n357), (.int .i64 n358), (.int .i64 n359), (.int .i64 n360), (.slice s361.1 s361.2.1 s361.2.2)])] h2 (nx + 39)).bind fun r362 =>
    (asAgg 5 r362.1).bind fun d363 =>
    (asI .i64 (d363.getD 0 .bad)).bind fun n364 =>
    (asB (d363.getD 1 .bad)).bind fun t365 =>
    (asI .i64 (d363.getD 2 .bad)).bind fun n366 =>
    (asSl (d363.getD 3 .bad)).bind fun s367 =>
    (asSl (d363.getD 4 .bad)).bind fun s368 =>
    (stA r362.2.1 (nx + 1) 0 (.agg [(.int .i64 n364), (.bool t365), (.int .i64 n366), (.slice s367.1 s367.2.1 s367.2.2), (.slice s368.1 s368.2.1 s368.2.2)]) 5).bind fun b369 =>
    let h370 := AHeap.put r362.2.1 (nx + 1) (some b369)
    (ldR h370 (nx + 1) 0 5).bind fun l371 =>
    (asAgg 5 (AV.agg l371)).bind fun d372 =>
    (asI .i64 (d372.getD 0 .bad)).bind fun n373 =>
    (asB (d372.getD 1 .bad)).bind fun t374 =>
    (asI .i64 (d372.getD 2 .bad)).bind fun n375 =>
    (asSl (d372.getD 3 .bad)).bind fun s376 =>
    (asSl (d372.getD 4 .bad)).bind fun s377 =>
    some ((.agg [(.int .i64 n373), (.bool t374), (.int .i64 n375), (.slice s376.1 s376.2.1 s376.2.2), (.slice s377.1 s377.2.1 s377.2.2)]), h370, r362.2.2)))
    else
    (if ((n4 : Int) == 12) = true then
    ((stA h2 (nx + 1) 0 (.agg [(.int .i64 0), (.bool false), (.int .i64 0), (.slice none 0 none), (.slice none 0 none)]) 5).bind fun b378 =>
    let h379 := AHeap.put h2 (nx + 1) (some b378)
    (ldR h379 (nx + 1) 0 5).bind fun l380 =>
    (asAgg 5 (AV.agg l380)).bind fun d381 =>
    (asI .i64 (d381.getD 0 .bad)).bind fun n382 =>
    (asB (d381.getD 1 .bad)).bind fun t383 =>
    (asI .i64 (d381.getD 2 .bad)).bind fun n384 =>
    (asSl (d381.getD 3 .bad)).bind fun s385 =>
    (asSl (d381.getD 4 .bad)).bind fun s386 =>
    some ((.agg [(.int .i64 n382), (.bool t383), (.int .i64 n384), (.slice s385.1 s385.2.1 s385.2.2), (.slice s386.1 s386.2.1 s386.2.2)]), h379, (nx + 24)))
    else
    (((callP Try.prog keepT n) Y 23 [(.int .i64 3)] h2 (nx + 24)).bind fun r387 =>
    (asAgg 5 r387.1).bind fun d388 =>
    (asI .i64 (d388.getD 0 .bad)).bind fun n389 =>
    (asB (d388.getD 1 .bad)).bind fun t390 =>
    (asI .i64 (d388.getD 2 .bad)).bind fun n391 =>
    (asSl (d388.getD 3 .bad)).bind fun s392 =>
    (asSl (d388.getD 4 .bad)).bind fun s393 =>
    (stA r387.2.1 (nx + 1) 0 (.agg [(.int .i64 n389), (.bool t390), (.int .i64 n391), (.slice s392.1 s392.2.1 s392.2.2), (.slice s393.1 s393.2.1 s393.2.2)]) 5).bind fun b394 =>
    let h395 := AHeap.put r387.2.1 (nx + 1) (some b394)
    (ldR h395 (nx + 1) 0 5).bind fun l396 =>
    (asAgg 5 (AV.agg l396)).bind fun d397 =>
    (asI .i64 (d397.getD 0 .bad)).bind fun n398 =>
    (asB (d397.getD 1 .bad)).bind fun t399 =>
    (asI .i64 (d397.getD 2 .bad)).bind fun n400 =>
    (asSl (d397.getD 3 .bad)).bind fun s401 =>
    (asSl (d397.getD 4 .bad)).bind fun s402 =>
    some ((.agg [(.int .i64 n398), (.bool t399), (.int .i64 n400), (.slice s401.1 s401.2.1 s401.2.2), (.slice s402.1 s402.2.1 s402.2.2)]), h395, r387.2.2))))))))
    else
    (if ((n4 : Int) == 8) = true then
    (if ((n4 : Int) == 8) = true then
    ((ldR h2 nx 0 8).bind fun l403 =>
    (asAgg 8 (AV.agg l403)).bind fun d404 =>
    (asI .i64 (d404.getD 0 .bad)).bind fun n405 =>
    (asStr (d404.getD 1 .bad)).bind fun s406 =>
    (asStr (d404.getD 2 .bad)).bind fun s407 =>
    (asI .i64 (d404.getD 3 .bad)).bind fun n408 =>
    (asI .i64 (d404.getD 4 .bad)).bind fun n409 =>
    (asI .i64 (d404.getD 5 .bad)).bind fun n410 =>
    (asI .i64 (d404.getD 6 .bad)).bind fun n411 =>
    (asSl (d404.getD 7 .bad)).bind fun s412 =>
    ((callP Try.prog keepT n) Y 26 [(.ptr x0), (.agg [(.int .i64 n405), (.str s406), (.str s407), (.int .i64 n408), (.int .i64 n409), (.int .i64 n410), (.int .i64 n411), (.slice s412.1 s412.2.1 s412.2.2)])] h2 (nx + 18)).bind fun r413 =>
    (asAgg 5 r413.1).bind fun d414 =>
    (asI .i64 (d414.getD 0 .bad)).bind fun n415 =>
    (asB (d414.getD 1 .bad)).bind fun t416 =>
    (asI .i64 (d414.getD 2 .bad)).bind fun n417 =>
    (asSl (d414.getD 3 .bad)).bind fun s418 =>
    (asSl (d414.getD 4 .bad)).bind fun s419 =>
    (stA r413.2.1 (nx + 1) 0 (.agg [(.int .i64 n415), (.bool t416), (.int .i64 n417), (.slice s418.1 s418.2.1 s418.2.2), (.slice s419.1 s419.2.1 s419.2.2)]) 5).bind fun b420 =>
    let h421 := AHeap.put r413.2.1 (nx + 1) (some b420)
    (ldR h421 (nx + 1) 0 5).bind fun l422 =>
    (asAgg 5 (AV.agg l422)).bind fun d423 =>
    (asI .i64 (d423.getD 0 .bad)).bind fun n424 =>
    (asB (d423.getD 1 .bad)).bind fun t425 =>
    (asI .i64 (d423.getD 2 .bad)).bind fun n426 =>
    (asSl (d423.getD 3 .bad)).bind fun s427 =>
    (asSl (d423.getD 4 .bad)).bind fun s428 =>
    some ((.agg [(.int .i64 n424), (.bool t425), (.int .i64 n426), (.slice s427.1 s427.2.1 s427.2.2), (.slice s428.1 s428.2.1 s428.2.2)]), h421, r413.2.2))
    else
    (if ((n4 : Int) == 2) = true then
    (if ((n4 : Int) == 2) = true then
    ((x0).bind fun p429 =>
    (ldA h2 p429.1 p429.2).bind fun v430 =>
    (asMp v430).bind fun m431 =>
    (ldA h2 nx 1).bind fun v432 =>
    (asStr v432).bind fun s433 =>
    (mapO h2 m431).bind fun es434 =>
    (findE s433 es434 0).bind fun o435 =>
    (asSl (valE (.slice none 0 none) o435)).bind fun s436 =>
    if (!(hasE o435)) = true then
    (((callP Try.prog keepT n) Y 23 [(.int .i64 6)] h2 (nx + 32)).bind fun r437 =>
    (asAgg 5 r437.1).bind fun d438 =>
    (asI .i64 (d438.getD 0 .bad)).bind fun n439 =>
    (asB (d438.getD 1 .bad)).bind fun t440 =>
    (asI .i64 (d438.getD 2 .bad)).bind fun n441 =>
    (asSl (d438.getD 3 .bad)).bind fun s442 =>
    (asSl (d438.getD 4 .bad)).bind fun s443 =>
    (stA r437.2.1 (nx + 1) 0 (.agg [(.int .i64 n439), (.bool t440), (.int .i64 n441), (.slice s442.1 s442.2.1 s442.2.2), (.slice s443.1 s443.2.1 s443.2.2)]) 5).bind fun b444 =>
    let h445 := AHeap.put r437.2.1 (nx + 1) (some b444)
    (ldR h445 (nx + 1) 0 5).bind fun l446 =>
    (asAgg 5 (AV.agg l446)).bind fun d447 =>
    (asI .i64 (d447.getD 0 .bad)).bind fun n448 =>
    (asB (d447.getD 1 .bad)).bind fun t449 =>
    (asI .i64 (d447.getD 2 .bad)).bind fun n450 =>
    (asSl (d447.getD 3 .bad)).bind fun s451 =>
    (asSl (d447.getD 4 .bad)).bind fun s452 =>
    some ((.agg [(.int .i64 n448), (.bool t449), (.int .i64 n450), (.slice s451.1 s451.2.1 s451.2.2), (.slice s452.1 s452.2.1 s452.2.2)]), h445, r437.2.2))
    else
    ((ldR h2 nx 0 8).bind fun l453 =>
    (asAgg 8 (AV.agg l453)).bind fun d454 =>
    (asI .i64 (d454.getD 0 .bad)).bind fun n455 =>
    (asStr (d454.getD 1 .bad)).bind fun s456 =>
    (asStr (d454.getD 2 .bad)).bind fun s457 =>
    (asI .i64 (d454.getD 3 .bad)).bind fun n458 =>
    (asI .i64 (d454.getD 4 .bad)).bind fun n459 =>
    (asI .i64 (d454.getD 5 .bad)).bind fun n460 =>
    (asI .i64 (d454.getD 6 .bad)).bind fun n461 =>
    (asSl (d454.getD 7 .bad)).bind fun s462 =>
    ((callP Try.prog keepT n) Y 27 [(.ptr x0), (.slice s436.1 s436.2.1 s436.2.2), (.agg [(.int .i64 n455), (.str s456), (.str s457), (.int .i64 n458), (.int .i64 n459), (.int .i64 n460), (.int .i64 n461), (.slice s462.1 s462.2.1 s462.2.2)])] h2 (nx + 35)).bind fun r463 =>
    (asAgg 5 r463.1).bind fun d464 =>
    (asI .i64 (d464.getD 0 .bad)).bind fun n465 =>
    (asB (d464.getD 1 .bad)).bind fun t466 =>
    (asI .i64 (d464.getD 2 .bad)).bind fun n467 =>
    (asSl (d464.getD 3 .bad)).bind fun s468 =>
    (asSl (d464.getD 4 .bad)).bind fun s469 =>
    (stA r463.2.1 (nx + 1) 0 (.agg [(.int .i64 n465), (.bool t466), (.int .i64 n467), (.slice s468.1 s468.2.1 s468.2.2), (.slice s469.1 s469.2.1 s469.2.2)]) 5).bind fun b470 =>
    let h471 := AHeap.put r463.2.1 (nx + 1) (some b470)
    (ldR h471 (nx + 1) 0 5).bind fun l472 =>
    (asAgg 5 (AV.agg l472)).bind fun d473 =>
    (asI .i64 (d473.getD 0 .bad)).bind fun n474 =>
    (asB (d473.getD 1 .bad)).bind fun t475 =>
    (asI .i64 (d473.getD 2 .bad)).bind fun n476 =>
    (asSl (d473.getD 3 .bad)).bind fun s477 =>
    (asSl (d473.getD 4 .bad)).bind fun s478 =>
    some ((.agg [(.int .i64 n474), (.bool t475), (.int .i64 n476), (.slice s477.1 s477.2.1 s477.2.2), (.slice s478.1 s478.2.1 s478.2.2)]), h471, r463.2.2)))
    else
    (if ((n4 : Int) == 12) = true then
    ((stA h2 (nx + 1) 0 (.agg [(.int .i64 0), (.bool false), (.int .i64 0), (.slice none 0 none), (.slice none 0 none)]) 5).bind fun b479 =>
    let h480 := AHeap.put h2 (nx + 1) (some b479)
    (ldR h480 (nx + 1) 0 5).bind fun l481 =>
    (asAgg 5 (AV.agg l481)).bind fun d482 =>
    (asI .i64 (d482.getD 0 .bad)).bind fun n483 =>
    (asB (d482.getD 1 .bad)).bind fun t484 =>
    (asI .i64 (d482.getD 2 .bad)).bind fun n485 =>
    (asSl (d482.getD 3 .bad)).bind fun s486 =>
    (asSl (d482.getD 4 .bad)).bind fun s487 =>
    some ((.agg [(.int .i64 n483), (.bool t484), (.int .i64 n485), (.slice s486.1 s486.2.1 s486.2.2), (.slice s487.1 s487.2.1 s487.2.2)]), h480, (nx + 20)))
    else
    (((callP Try.prog keepT n) Y 23 [(.int .i64 3)] h2 (nx + 20)).bind fun r488 =>
    (asAgg 5 r488.1).bind fun d489 =>
    (asI .i64 (d489.getD 0 .bad)).bind fun n490 =>
    (asB (d489.getD 1 .bad)).bind fun t491 =>
    (asI .i64 (d489.getD 2 .bad)).bind fun n492 =>
    (asSl (d489.getD 3 .bad)).bind fun s493 =>
    (asSl (d489.getD 4 .bad)).bind fun s494 =>
    (stA r488.2.1 (nx + 1) 0 (.agg [(.int .i64 n490), (.bool t491), (.int .i64 n492), (.slice s493.1 s493.2.1 s493.2.2), (.slice s494.1 s494.2.1 s494.2.2)]) 5).bind fun b495 =>
    let h496 := AHeap.put r488.2.1 (nx + 1) (some b495)
    (ldR h496 (nx + 1) 0 5).bind fun l497 =>
    (asAgg 5 (AV.agg l497)).bind fun d498 =>
    (asI .i64 (d498.getD 0 .bad)).bind fun n499 =>
    (asB (d498.getD 1 .bad)).bind fun t500 =>
    (asI .i64 (d498.getD 2 .bad)).bind fun n501 =>
    (asSl (d498.getD 3 .bad)).bind fun s502 =>
    (asSl (d498.getD 4 .bad)).bind fun s503 =>
    some ((.agg [(.int .i64 n499), (.bool t500), (.int .i64 n501), (.slice s502.1 s502.2.1 s502.2.2), (.slice s503.1 s503.2.1 s503.2.2)]), h496, r488.2.2))))
    else
    (if ((n4 : Int) == 3) = true then
    (if ((n4 : Int) == 3) = true then
    ((x0).bind fun p504 =>
    (ldA h2 p504.1 p504.2).bind fun v505 =>
    (asMp v505).bind fun m506 =>
    (ldA h2 nx 1).bind fun v507 =>
    (asStr v507).bind fun s508 =>
    (mapO h2 m506).bind fun es509 =>
    (findE s508 es509 0).bind fun o510 =>
    (asSl (valE (.slice none 0 none) o510)).bind fun s511 =>
    if (!(hasE o510)) = true then
    (((callP Try.prog keepT n) Y 23 [(.int .i64 6)] h2 (nx + 34)).bind fun r512 =>
    (asAgg 5 r512.1).bind fun d513 =>
    (asI .i64 (d513.getD 0 .bad)).bind fun n514 =>
    (asB (d513.getD 1 .bad)).bind fun t515 =>
    (asI .i64 (d513.getD 2 .bad)).bind fun n516 =>
    (asSl (d513.getD 3 .bad)).bind fun s517 =>
    (asSl (d513.getD 4 .bad)).bind fun s518 =>
    (stA r512.2.1 (nx + 1) 0 (.agg [(.int .i64 n514), (.bool t515), (.int .i64 n516), (.slice s517.1 s517.2.1 s517.2.2), (.slice s518.1 s518.2.1 s518.2.2)]) 5).bind fun b519 =>
    let h520 := AHeap.put r512.2.1 (nx + 1) (some b519)
    (ldR h520 (nx + 1) 0 5).bind fun l521 =>
    (asAgg 5 (AV.agg l521)).bind fun d522 =>
    (asI .i64 (d522.getD 0 .bad)).bind fun n523 =>
    (asB (d522.getD 1 .bad)).bind fun t524 =>
    (asI .i64 (d522.getD 2 .bad)).bind fun n525 =>
    (asSl (d522.getD 3 .bad)).bind fun s526 =>
    (asSl (d522.getD 4 .bad)).bind fun s527 =>
    some ((.agg [(.int .i64 n523), (.bool t524), (.int .i64 n525), (.slice s526.1 s526.2.1 s526.2.2), (.slice s527.1 s527.2.1 s527.2.2)]), h520, r512.2.2))
    else
    ((ldR h2 nx 0 8).bind fun l528 =>
    (asAgg 8 (AV.agg l528)).bind fun d529 =>
    (asI .i64 (d529.getD 0 .bad)).bind fun n530 =>
    (asStr (d529.getD 1 .bad)).bind fun s531 =>
    (asStr (d529.getD 2 .bad)).bind fun s532 =>
    (asI .i64 (d529.getD 3 .bad)).bind fun n533 =>
    (asI .i64 (d529.getD 4 .bad)).bind fun n534 =>
    (asI .i64 (d529.getD 5 .bad)).bind fun n535 =>
    (asI .i64 (d529.getD 6 .bad)).bind fun n536 =>
    (asSl (d529.getD 7 .bad)).bind fun s537 =>
    ((callP Try.prog keepT n) Y 27 [(.ptr x0), (.slice s511.1 s511.2.1 s511.2.2), (.agg [(.int .i64 n530), (.str s531), (.str s532), (.int .i64 n533), (.int .i64 n534), (.int .i64 n535), (.int .i64 n536), (.slice s537.1 s537.2.1 s537.2.2)])] h2 (nx + 37)).bind fun r538 =>
    (asAgg 5 r538.1).bind fun d539 =>
    (asI .i64 (d539.getD 0 .bad)).bind fun n540 =>
    (asB (d539.getD 1 .bad)).bind fun t541 =>
    (asI .i64 (d539.getD 2 .bad)).bind fun n542 =>
    (asSl (d539.getD 3 .bad)).bind fun s543 =>
    (asSl (d539.getD 4 .bad)).bind fun s544 =>
    (stA r538.2.1 (nx + 1) 0 (.agg [(.int .i64 n540), (.bool t541), (.int .i64 n542), (.slice s543.1 s543.2.1 s543.2.2), (.slice s544.1 s544.2.1 s544.2.2)]) 5).bind fun b545 =>
    let h546 := AHeap.put r538.2.1 (nx + 1) (some b545)
    (ldR h546 (nx + 1) 0 5).bind fun l547 =>
    (asAgg 5 (AV.agg l547)).bind fun d548 =>
    (asI .i64 (d548.getD 0 .bad)).bind fun n549 =>
    (asB (d548.getD 1 .bad)).bind fun t550 =>
    (asI .i64 (d548.getD 2 .bad)).bind fun n551 =>
    (asSl (d548.getD 3 .bad)).bind fun s552 =>
    (asSl (d548.getD 4 .bad)).bind fun s553 =>
    some ((.agg [(.int .i64 n549), (.bool t550), (.int .i64 n551), (.slice s552.1 s552.2.1 s552.2.2), (.slice s553.1 s553.2.1 s553.2.2)]), h546, r538.2.2)))
    else
    (if ((n4 : Int) == 12) = true then
    ((stA h2 (nx + 1) 0 (.agg [(.int .i64 0), (.bool false), (.int .i64 0), (.slice none 0 none), (.slice none 0 none)]) 5).bind fun b554 =>
    let h555 := AHeap.put h2 (nx + 1) (some b554)
    (ldR h555 (nx + 1) 0 5).bind fun l556 =>
    (asAgg 5 (AV.agg l556)).bind fun d557 =>
    (asI .i64 (d557.getD 0 .bad)).bind fun n558 =>
    (asB (d557.getD 1 .bad)).bind fun t559 =>
    (asI .i64 (d557.getD 2 .bad)).bind fun n560 =>
    (asSl (d557.getD 3 .bad)).bind fun s561 =>
    (asSl (d557.getD 4 .bad)).bind fun s562 =>
    some ((.agg [(.int .i64 n558), (.bool t559), (.int .i64 n560), (.slice s561.1 s561.2.1 s561.2.2), (.slice s562.1 s562.2.1 s562.2.2)]), h555, (nx + 22)))
    else
    (((callP Try.prog keepT n) Y 23 [(.int .i64 3)] h2 (nx + 22)).bind fun r563 =>
    (asAgg 5 r563.1).bind fun d564 =>
    (asI .i64 (d564.getD 0 .bad)).bind fun n565 =>
    (asB (d564.getD 1 .bad)).bind fun t566 =>
    (asI .i64 (d564.getD 2 .bad)).bind fun n567 =>
    (asSl (d564.getD 3 .bad)).bind fun s568 =>
    (asSl (d564.getD 4 .bad)).bind fun s569 =>
    (stA r563.2.1 (nx + 1) 0 (.agg [(.int .i64 n565), (.bool t566), (.int .i64 n567), (.slice s568.1 s568.2.1 s568.2.2), (.slice s569.1 s569.2.1 s569.2.2)]) 5).bind fun b570 =>
    let h571 := AHeap.put r563.2.1 (nx + 1) (some b570)
    (ldR h571 (nx + 1) 0 5).bind fun l572 =>
    (asAgg 5 (AV.agg l572)).bind fun d573 =>
    (asI .i64 (d573.getD 0 .bad)).bind fun n574 =>
    (asB (d573.getD 1 .bad)).bind fun t575 =>
    (asI .i64 (d573.getD 2 .bad)).bind fun n576 =>
    (asSl (d573.getD 3 .bad)).bind fun s577 =>
    (asSl (d573.getD 4 .bad)).bind fun s578 =>
    some ((.agg [(.int .i64 n574), (.bool t575), (.int .i64 n576), (.slice s577.1 s577.2.1 s577.2.2), (.slice s578.1 s578.2.1 s578.2.2)]), h571, r563.2.2))))
    else
    (if ((n4 : Int) == 4) = true then
    (if ((n4 : Int) == 4) = true then
    ((x0).bind fun p579 =>
    (ldA h2 p579.1 p579.2).bind fun v580 =>
    (asMp v580).bind fun m581 =>
    (ldA h2 nx 1).bind fun v582 =>
    (asStr v582).bind fun s583 =>
    (mapO h2 m581).bind fun es584 =>
    (findE s583 es584 0).bind fun o585 =>
    (asSl (valE (.slice none 0 none) o585)).bind fun s586 =>
    if (!(hasE o585)) = true then
    (((callP Try.prog keepT n) Y 23 [(.int .i64 6)] h2 (nx + 36)).bind fun r587 =>
    (asAgg 5 r587.1).bind fun d588 =>
    (asI .i64 (d588.getD 0 .bad)).bind fun n589 =>
    (asB (d588.getD 1 .bad)).bind fun t590 =>
    (asI .i64 (d588.getD 2 .bad)).bind fun n591 =>
    (asSl (d588.getD 3 .bad)).bind fun s592 =>
    (asSl (d588.getD 4 .bad)).bind fun s593 =>
    (stA r587.2.1 (nx + 1) 0 (.agg [(.int .i64 n589), (.bool t590), (.int .i64 n591), (.slice s592.1 s592.2.1 s592.2.2), (.slice s593.1 s593.2.1 s593.2.2)]) 5).bind fun b594 =>
    let h595 := AHeap.put r587.2.1 (nx + 1) (some b594)
    (ldR h595 (nx + 1) 0 5).bind fun l596 =>
    (asAgg 5 (AV.agg l596)).bind fun d597 =>
    (asI .i64 (d597.getD 0 .bad)).bind fun n598 =>
    (asB (d597.getD 1 .bad)).bind fun t599 =>
    (asI .i64 (d597.getD 2 .bad)).bind fun n600 =>
    (asSl (d597.getD 3 .bad)).bind fun s601 =>
    (asSl (d597.getD 4 .bad)).bind fun s602 =>
    some ((.agg [(.int .i64 n598), (.bool t599), (.int .i64 n600), (.slice s601.1 s601.2.1 s601.2.2), (.slice s602.1 s602.2.1 s602.2.2)]), h595, r587.2.2))
    else
    ((ldR h2 nx 0 8).bind fun l603 =>
    (asAgg 8 (AV.agg l603)).bind fun d604 =>
    (asI .i64 (d604.getD 0 .bad)).bind fun n605 =>
    (asStr (d604.getD 1 .bad)).bind fun s606 =>
    (asStr (d604.getD 2 .bad)).bind fun s607 =>
    (asI .i64 (d604.getD 3 .bad)).bind fun n608 =>
    (asI .i64 (d604.getD 4 .bad)).bind fun n609 =>
    (asI .i64 (d604.getD 5 .bad)).bind fun n610 =>
    (asI .i64 (d604.getD 6 .bad)).bind fun n611 =>
    (asSl (d604.getD 7 .bad)).bind fun s612 =>
    ((callP Try.prog keepT n) Y 27 [(.ptr x0), (.slice s586.1 s586.2.1 s586.2.2), (.agg [(.int .i64 n605), (.str s606), (.str s607), (.int .i64 n608), (.int .i64 n609), (.int .i64 n610), (.int .i64 n611), (.slice s612.1 s612.2.1 s612.2.2)])] h2 (nx + 39)).bind fun r613 =>
    (asAgg 5 r613.1).bind fun d614 =>
    (asI .i64 (d614.getD 0 .bad)).bind fun n615 =>
    (asB (d614.getD 1 .bad)).bind fun t616 =>
    (asI .i64 (d614.getD 2 .bad)).bind fun n617 =>
    (asSl (d614.getD 3 .bad)).bind fun s618 =>
    (asSl (d614.getD 4 .bad)).bind fun s619 =>
    (stA r613.2.1 (nx + 1) 0 (.agg [(.int .i64 n615), (.bool t616), (.int .i64 n617), (.slice s618.1 s618.2.1 s618.2.2), (.slice s619.1 s619.2.1 s619.2.2)]) 5).bind fun b620 =>
    let h621 := AHeap.put r613.2.1 (nx + 1) (some b620)
    (ldR h621 (nx + 1) 0 5).bind fun l622 =>
    (asAgg 5 (AV.agg l622)).bind fun d623 =>
    (asI .i64 (d623.getD 0 .bad)).bind fun n624 =>
    (asB (d623.getD 1 .bad)).bind fun t625 =>
    (asI .i64 (d623.getD 2 .bad)).bind fun n626 =>
    (asSl (d623.getD 3 .bad)).bind fun s627 =>
    (asSl (d623.getD 4 .bad)).bind fun s628 =>
    some ((.agg [(.int .i64 n624), (.bool t625), (.int .i64 n626), (.slice s627.1 s627.2.1 s627.2.2), (.slice s628.1 s628.2.1 s628.2.2)]), h621, r613.2.2)))
    else
    (if ((n4 : Int) == 12) = true then
    ((stA h2 (nx + 1) 0 (.agg [(.int .i64 0), (.bool false), (.int .i64 0), (.slice none 0 none), (.slice none 0 none)]) 5).bind fun b629 =>
    let h630 := AHeap.put h2 (nx + 1) (some b629)
    (ldR h630 (nx + 1) 0 5).bind fun l631 =>
    (asAgg 5 (AV.agg l631)).bind fun d632 =>
    (asI .i64 (d632.getD 0 .bad)).bind fun n633 =>
    (asB (d632.getD 1 .bad)).bind fun t634 =>
    (asI .i64 (d632.getD 2 .bad)).bind fun n635 =>
    (asSl (d632.getD 3 .bad)).bind fun s636 =>
    (asSl (d632.getD 4 .bad)).bind fun s637 =>
    some ((.agg [(.int .i64 n633), (.bool t634), (.int .i64 n635), (.slice s636.1 s636.2.1 s636.2.2), (.slice s637.1 s637.2.1 s637.2.2)]), h630, (nx + 24)))
    else
    (((callP Try.prog keepT n) Y 23 [(.int .i64 3)] h2 (nx + 24)).bind fun r638 =>
    (asAgg 5 r638.1).bind fun d639 =>
    (asI .i64 (d639.getD 0 .bad)).bind fun n640 =>
    (asB (d639.getD 1 .bad)).bind fun t641 =>
    (asI .i64 (d639.getD 2 .bad)).bind fun n642 =>
    (asSl (d639.getD 3 .bad)).bind fun s643 =>
    (asSl (d639.getD 4 .bad)).bind fun s644 =>
    (stA r638.2.1 (nx + 1) 0 (.agg [(.int .i64 n640), (.bool t641), (.int .i64 n642), (.slice s643.1 s643.2.1 s643.2.2), (.slice s644.1 s644.2.1 s644.2.2)]) 5).bind fun b645 =>
    let h646 := AHeap.put r638.2.1 (nx + 1) (some b645)
    (ldR h646 (nx + 1) 0 5).bind fun l647 =>
    (asAgg 5 (AV.agg l647)).bind fun d648 =>
    (asI .i64 (d648.getD 0 .bad)).bind fun n649 =>
    (asB (d648.getD 1 .bad)).bind fun t650 =>
    (asI .i64 (d648.getD 2 .bad)).bind fun n651 =>
    (asSl (d648.getD 3 .bad)).bind fun s652 =>
    (asSl (d648.getD 4 .bad)).bind fun s653 =>
    some ((.agg [(.int .i64 n649), (.bool t650), (.int .i64 n651), (.slice s652.1 s652.2.1 s652.2.2), (.slice s653.1 s653.2.1 s653.2.2)]), h646, r638.2.2))))
    else
    (if ((n4 : Int) == 5) = true then
    ((x0).bind fun p654 =>
    (ldA h2 p654.1 p654.2).bind fun v655 =>
    (asMp v655).bind fun m656 =>
    (ldA h2 nx 1).bind fun v657 =>
    (asStr v657).bind fun s658 =>
    (mapO h2 m656).bind fun es659 =>
    (findE s658 es659 0).bind fun o660 =>
    (asSl (valE (.slice none 0 none) o660)).bind fun s661 =>
    if (!(hasE o660)) = true then
    (((callP Try.prog keepT n) Y 23 [(.int .i64 6)] h2 (nx + 38)).bind fun r662 =>
    (asAgg 5 r662.1).bind fun d663 =>
    (asI .i64 (d663.getD 0 .bad)).bind fun n664 =>
    (asB (d663.getD 1 .bad)).bind fun t665 =>
    (asI .i64 (d663.getD 2 .bad)).bind fun n666 =>
    (asSl (d663.getD 3 .bad)).bind fun s667 =>
    (asSl (d663.getD 4 .bad)).bind fun s668 =>
    (stA r662.2.1 (nx + 1) 0 (.agg [(.int .i64 n664), (.bool t665), (.int .i64 n666), (.slice s667.1 s667.2.1 s667.2.2), (.slice s668.1 s668.2.1 s668.2.2)]) 5).bind fun b669 =>
    let h670 := AHeap.put r662.2.1 (nx + 1) (some b669)
    (ldR h670 (nx + 1) 0 5).bind fun l671 =>
    (asAgg 5 (AV.agg l671)).bind fun d672 =>
    (asI .i64 (d672.getD 0 .bad)).bind fun n673 =>
    (asB (d672.getD 1 .bad)).bind fun t674 =>
    (asI .i64 (d672.getD 2 .bad)).bind fun n675 =>
    (asSl (d672.getD 3 .bad)).bind fun s676 =>
    (asSl (d672.getD 4 .bad)).bind fun s677 =>
    some ((.agg [(.int .i64 n673), (.bool t674), (.int .i64 n675), (.slice s676.1 s676.2.1 s676.2.2), (.slice s677.1 s677.2.1 s677.2.2)]), h670, r662.2.2))
    else
    ((ldR h2 nx 0 8).bind fun l678 =>
    (asAgg 8 (AV.agg l678)).bind fun d679 =>
    (asI .i64 (d679.getD 0 .bad)).bind fun n680 =>
    (asStr (d679.getD 1 .bad)).bind fun s681 =>
    (asStr (d679.getD 2 .bad)).bind fun s682 =>
    (asI .i64 (d679.getD 3 .bad)).bind fun n683 =>
    (asI .i64 (d679.getD 4 .bad)).bind fun n684 =>
    (asI .i64 (d679.getD 5 .bad)).bind fun n685 =>
    (asI .i64 (d679.getD 6 .bad)).bind fun n686 =>
    (asSl (d679.getD 7 .bad)).bind fun s687 =>
    ((callP Try.prog keepT n) Y 27 [(.ptr x0), (.slice s661.1 s661.2.1 s661.2.2), (.agg [(.int .i64 n680), (.str s681), (.str s682), (.int .i64 n683), (.int .i64 n684), (.int .i64 n685), (.int .i64 n686), (.slice s687.1 s687.2.1 s687.2.2)])] h2 (nx + 41)).bind fun r688 =>
    (asAgg 5 r688.1).bind fun d689 =>
    (asI .i64 (d689.getD 0 .bad)).bind fun n690 =>
    (asB (d689.getD 1 .bad)).bind fun t691 =>
    (asI .i64 (d689.getD 2 .bad)).bind fun n692 =>
    (asSl (d689.getD 3 .bad)).bind fun s693 =>
    (asSl (d689.getD 4 .bad)).bind fun s694 =>
    (stA r688.2.1 (nx + 1) 0 (.agg [(.int .i64 n690), (.bool t691), (.int .i64 n692), (.slice s693.1 s693.2.1 s693.2.2), (.slice s694.1 s694.2.1 s694.2.2)]) 5).bind fun b695 =>
    let h696 := AHeap.put r688.2.1 (nx + 1) (some b695)
    (ldR h696 (nx + 1) 0 5).bind fun l697 =>
    (asAgg 5 (AV.agg l697)).bind fun d698 =>
    (asI .i64 (d698.getD 0 .bad)).bind fun n699 =>
    (asB (d698.getD 1 .bad)).bind fun t700 =>
    (asI .i64 (d698.getD 2 .bad)).bind fun n701 =>
    (asSl (d698.getD 3 .bad)).bind fun s702 =>
    (asSl (d698.getD 4 .bad)).bind fun s703 =>
    some ((.agg [(.int .i64 n699), (.bool t700), (.int .i64 n701), (.slice s702.1 s702.2.1 s702.2.2), (.slice s703.1 s703.2.1 s703.2.2)]), h696, r688.2.2)))
    else
    (if ((n4 : Int) == 12) = true then
    ((stA h2 (nx + 1) 0 (.agg [(.int .i64 0), (.bool false), (.int .i64 0), (.slice none 0 none), (.slice none 0 none)]) 5).bind fun b704 =>
    let h705 := AHeap.put h2 (nx + 1) (some b704)
    (ldR h705 (nx + 1) 0 5).bind fun l706 =>
    (asAgg 5 (AV.agg l706)).bind fun d707 =>
    (asI .i64 (d707.getD 0 .bad)).bind fun n708 =>
    (asB (d707.getD 1 .bad)).bind fun t709 =>
    (asI .i64 (d707.getD 2 .bad)).bind fun n710 =>
    (asSl (d707.getD 3 .bad)).bind fun s711 =>
    (asSl (d707.getD 4 .bad)).bind fun s712 =>
    some ((.agg [(.int .i64 n708), (.bool t709), (.int .i64 n710), (.slice s711.1 s711.2.1 s711.2.2), (.slice s712.1 s712.2.1 s712.2.2)]), h705, (nx + 26)))
    else
    (((callP Try.prog keepT n) Y 23 [(.int .i64 3)] h2 (nx + 26)).bind fun r713 =>
    (asAgg 5 r713.1).bind fun d714 =>
    (asI .i64 (d714.getD 0 .bad)).bind fun n715 =>
    (asB (d714.getD 1 .bad)).bind fun t716 =>
    (asI .i64 (d714.getD 2 .bad)).bind fun n717 =>
    (asSl (d714.getD 3 .bad)).bind fun s718 =>
    (asSl (d714.getD 4 .bad)).bind fun s719 =>
    (stA r713.2.1 (nx + 1) 0 (.agg [(.int .i64 n715), (.bool t716), (.int .i64 n717), (.slice s718.1 s718.2.1 s718.2.2), (.slice s719.1 s719.2.1 s719.2.2)]) 5).bind fun b720 =>
    let h721 := AHeap.put r713.2.1 (nx + 1) (some b720)
    (ldR h721 (nx + 1) 0 5).bind fun l722 =>
    (asAgg 5 (AV.agg l722)).bind fun d723 =>
    (asI .i64 (d723.getD 0 .bad)).bind fun n724 =>
    (asB (d723.getD 1 .bad)).bind fun t725 =>
    (asI .i64 (d723.getD 2 .bad)).bind fun n726 =>
    (asSl (d723.getD 3 .bad)).bind fun s727 =>
    (asSl (d723.getD 4 .bad)).bind fun s728 =>
    some ((.agg [(.int .i64 n724), (.bool t725), (.int .i64 n726), (.slice s727.1 s727.2.1 s727.2.2), (.slice s728.1 s728.2.1 s728.2.2)]), h721, r713.2.2))))))))
    else
    (if ((n4 : Int) == 9) = true then
    (if ((n4 : Int) == 9) = true then
    ((ldR h2 nx 0 8).bind fun l729 =>
    (asAgg 8 (AV.agg l729)).bind fun d730 =>
    (asI .i64 (d730.getD 0 .bad)).bind fun n731 =>
    (asStr (d730.getD 1 .bad)).bind fun s732 =>
    (asStr (d730.getD 2 .bad)).bind fun s733 =>
    (asI .i64 (d730.getD 3 .bad)).bind fun n734 =>
    (asI .i64 (d730.getD 4 .bad)).bind fun n735 =>
    (asI .i64 (d730.getD 5 .bad)).bind fun n736 =>
    (asI .i64 (d730.getD 6 .bad)).bind fun n737 =>
    (asSl (d730.getD 7 .bad)).bind fun s738 =>
    ((callP Try.prog keepT n) Y 26 [(.ptr x0), (.agg [(.int .i64 n731), (.str s732), (.str s733), (.int .i64 n734), (.int .i64 n735), (.int .i64 n736), (.int .i64 n737), (.slice s738.1 s738.2.1 s738.2.2)])] h2 (nx + 20)).bind fun r739 =>
    (asAgg 5 r739.1).bind fun d740 =>
    (asI .i64 (d740.getD 0 .bad)).bind fun n741 =>
    (asB (d740.getD 1 .bad)).bind fun t742 =>
    (asI .i64 (d740.getD 2 .bad)).bind fun n743 =>
    (asSl (d740.getD 3 .bad)).bind fun s744 =>
    (asSl (d740.getD 4 .bad)).bind fun s745 =>
    (stA r739.2.1 (nx + 1) 0 (.agg [(.int .i64 n741), (.bool t742), (.int .i64 n743), (.slice s744.1 s744.2.1 s744.2.2), (.slice s745.1 s745.2.1 s745.2.2)]) 5).bind fun b746 =>
    let h747 := AHeap.put r739.2.1 (nx + 1) (some b746)
    (ldR h747 (nx + 1) 0 5).bind fun l748 =>
    (asAgg 5 (AV.agg l748)).bind fun d749 =>
    (asI .i64 (d749.getD 0 .bad)).bind fun n750 =>
    (asB (d749.getD 1 .bad)).bind fun t751 =>
    (asI .i64 (d749.getD 2 .bad)).bind fun n752 =>
    (asSl (d749.getD 3 .bad)).bind fun s753 =>
    (asSl (d749.getD 4 .bad)).bind fun s754 =>
    some ((.agg [(.int .i64 n750), (.bool t751), (.int .i64 n752), (.slice s753.1 s753.2.1 s753.2.2), (.slice s754.1 s754.2.1 s754.2.2)]), h747, r739.2.2))
    else
    (if ((n4 : Int) == 2) = true then
    (if ((n4 : Int) == 2) = true then
    ((x0).bind fun p755 =>
    (ldA h2 p755.1 p755.2).bind fun v756 =>
    (asMp v756).bind fun m757 =>
    (ldA h2 nx 1).bind fun v758 =>
    (asStr v758).bind fun s759 =>
    (mapO h2 m757).bind fun es760 =>
    (findE s759 es760 0).bind fun o761 =>
    (asSl (valE (.slice none 0 none) o761)).bind fun s762 =>
    if (!(hasE o761)) = true then
    (((callP Try.prog keepT n) Y 23 [(.int .i64 6)] h2 (nx + 34)).bind fun r763 =>
    (asAgg 5 r763.1).bind fun d764 =>
    (asI .i64 (d764.getD 0 .bad)).bind fun n765 =>
    (asB (d764.getD 1 .bad)).bind fun t766 =>
    (asI .i64 (d764.getD 2 .bad)).bind fun n767 =>
    (asSl (d764.getD 3 .bad)).bind fun s768 =>
    (asSl (d764.getD 4 .bad)).bind fun s769 =>
    (stA r763.2.1 (nx + 1) 0 (.agg [(.int .i64 n765), (.bool t766), (.int .i64 n767), (.slice s768.1 s768.2.1 s768.2.2), (.slice s769.1 s769.2.1 s769.2.2)]) 5).bind fun b770 =>
    let h771 := AHeap.put r763.2.1 (nx + 1) (some b770)
    (ldR h771 (nx + 1) 0 5).bind fun l772 =>
    (asAgg 5 (AV.agg l772)).bind fun d773 =>
    (asI .i64 (d773.getD 0 .bad)).bind fun n774 =>
    (asB (d773.getD 1 .bad)).bind fun t775 =>
    (asI .i64 (d773.getD 2 .bad)).bind fun n776 =>
    (asSl (d773.getD 3 .bad)).bind fun s777 =>
    (asSl (d773.getD 4 .bad)).bind fun s778 =>
    some ((.agg [(.int .i64 n774), (.bool t775), (.int .i64 n776), (.slice s777.1 s777.2.1 s777.2.2), (.slice s778.1 s778.2.1 s778.2.2)]), h771, r763.2.2))
    else
    ((ldR h2 nx 0 8).bind fun l779 =>
    (asAgg 8 (AV.agg l779)).bind fun d780 =>
    (asI .i64 (d780.getD 0 .bad)).bind fun n781 =>
    (asStr (d780.getD 1 .bad)).bind fun s782 =>
    (asStr (d780.getD 2 .bad)).bind fun s783 =>
    (asI .i64 (d780.getD 3 .bad)).bind fun n784 =>
    (asI .i64 (d780.getD 4 .bad)).bind fun n785 =>
    (asI .i64 (d780.getD 5 .bad)).bind fun n786 =>
    (asI .i64 (d780.getD 6 .bad)).bind fun n787 =>
    (asSl (d780.getD 7 .bad)).bind fun s788 =>
    ((callP Try.prog keepT n) Y 27 [(.ptr x0), (.slice s762.1 s762.2.1 s762.2.2), (.agg [(.int .i64 n781), (.str s782), (.str s783), (.int .i64 n784), (.int .i64 n785), (.int .i64 n786), (.int .i64 n787), (.slice s788.1 s788.2.1 s788.2.2)])] h2 (nx + 37)).bind fun r789 =>
    (asAgg 5 r789.1).bind fun d790 =>
    (asI .i64 (d790.getD 0 .bad)).bind fun n791 =>
    (asB (d790.getD 1 .bad)).bind fun t792 =>
    (asI .i64 (d790.getD 2 .bad)).bind fun n793 =>
    (asSl (d790.getD 3 .bad)).bind fun s794 =>
    (asSl (d790.getD 4 .bad)).bind fun s795 =>
    (stA r789.2.1 (nx + 1) 0 (.agg [(.int .i64 n791), (.bool t792), (.int .i64 n793), (.slice s794.1 s794.2.1 s794.2.2), (.slice s795.1 s795.2.1 s795.2.2)]) 5).bind fun b796 =>
    let h797 := AHeap.put r789.2.1 (nx + 1) (some b796)
    (ldR h797 (nx + 1) 0 5).bind fun l798 =>
    (asAgg 5 (AV.agg l798)).bind fun d799 =>
    (asI .i64 (d799.getD 0 .bad)).bind fun n800 =>
    (asB (d799.getD 1 .bad)).bind fun t801 =>
    (asI .i64 (d799.getD 2 .bad)).bind fun n802 =>
    (asSl (d799.getD 3 .bad)).bind fun s803 =>
    (asSl (d799.getD 4 .bad)).bind fun s804 =>
    some ((.agg [(.int .i64 n800), (.bool t801), (.int .i64 n802), (.slice s803.1 s803.2.1 s803.2.2), (.slice s804.1 s804.2.1 s804.2.2)]), h797, r789.2.2)))
    else
    (if ((n4 : Int) == 12) = true then
    ((stA h2 (nx + 1) 0 (.agg [(.int .i64 0), (.bool false), (.int .i64 0), (.slice none 0 none), (.slice none 0 none)]) 5).bind fun b805 =>
    let h806 := AHeap.put h2 (nx + 1) (some b805)
    (ldR h806 (nx + 1) 0 5).bind fun l807 =>
    (asAgg 5 (AV.agg l807)).bind fun d808 =>
    (asI .i64 (d808.getD 0 .bad)).bind fun n809 =>
    (asB (d808.getD 1 .bad)).bind fun t810 =>
    (asI .i64 (d808.getD 2 .bad)).bind fun n811 =>
    (asSl (d808.getD 3 .bad)).bind fun s812 =>
    (asSl (d808.getD 4 .bad)).bind fun s813 =>
    some ((.agg [(.int .i64 n809), (.bool t810), (.int .i64 n811), (.slice s812.1 s812.2.1 s812.2.2), (.slice s813.1 s813.2.1 s813.2.2)]), h806, (nx + 22)))
    else
    (((callP Try.prog keepT n) Y 23 [(.int .i64 3)] h2 (nx + 22)).bind fun r814 =>
    (asAgg 5 r814.1).bind fun d815 =>
    (asI .i64 (d815.getD 0 .bad)).bind fun n816 =>
    (asB (d815.getD 1 .bad)).bind fun t817 =>
    (asI .i64 (d815.getD 2 .bad)).bind fun n818 =>
    (asSl (d815.getD 3 .bad)).bind fun s819 =>
    (asSl (d815.getD 4 .bad)).bind fun s820 =>
    (stA r814.2.1 (nx + 1) 0 (.agg [(.int .i64 n816), (.bool t817), (.int .i64 n818), (.slice s819.1 s819.2.1 s819.2.2), (.slice s820.1 s820.2.1 s820.2.2)]) 5).bind fun b821 =>
    let h822 := AHeap.put r814.2.1 (nx + 1) (some b821)
    (ldR h822 (nx + 1) 0 5).bind fun l823 =>
    (asAgg 5 (AV.agg l823)).bind fun d824 =>
    (asI .i64 (d824.getD 0 .bad)).bind fun n825 =>
    (asB (d824.getD 1 .bad)).bind fun t826 =>
    (asI .i64 (d824.getD 2 .bad)).bind fun n827 =>
    (asSl (d824.getD 3 .bad)).bind fun s828 =>
    (asSl (d824.getD 4 .bad)).bind fun s829 =>
    some ((.agg [(.int .i64 n825), (.bool t826), (.int .i64 n827), (.slice s828.1 s828.2.1 s828.2.2), (.slice s829.1 s829.2.1 s829.2.2)]), h822, r814.2.2))))
    else
    (if ((n4 : Int) == 3) = true then
    (if ((n4 : Int) == 3) = true then
    ((x0).bind fun p830 =>
    (ldA h2 p830.1 p830.2).bind fun v831 =>
    (asMp v831).bind fun m832 =>
    (ldA h2 nx 1).bind fun v833 =>
    (asStr v833).bind fun s834 =>
    (mapO h2 m832).bind fun es835 =>
    (findE s834 es835 0).bind fun o836 =>
    (asSl (valE (.slice none 0 none) o836)).bind fun s837 =>
    if (!(hasE o836)) = true then
    (((callP Try.prog keepT n) Y 23 [(.int .i64 6)] h2 (nx + 36)).bind fun r838 =>
    (asAgg 5 r838.1).bind fun d839 =>
    (asI .i64 (d839.getD 0 .bad)).bind fun n840 =>
    (asB (d839.getD 1 .bad)).bind fun t841 =>
    (asI .i64 (d839.getD 2 .bad)).bind fun n842 =>
    (asSl (d839.getD 3 .bad)).bind fun s843 =>
    (asSl (d839.getD 4 .bad)).bind fun s844 =>
    (stA r838.2.1 (nx + 1) 0 (.agg [(.int .i64 n840), (.bool t841), (.int .i64 n842), (.slice s843.1 s843.2.1 s843.2.2), (.slice s844.1 s844.2.1 s844.2.2)]) 5).bind fun b845 =>
    let h846 := AHeap.put r838.2.1 (nx + 1) (some b845)
    (ldR h846 (nx + 1) 0 5).bind fun l847 =>
    (asAgg 5 (AV.agg l847)).bind fun d848 =>
    (asI .i64 (d848.getD 0 .bad)).bind fun n849 =>
    (asB (d848.getD 1 .bad)).bind fun t850 =>
    (asI .i64 (d848.getD 2 .bad)).bind fun n851 =>
    (asSl (d848.getD 3 .bad)).bind fun s852 =>
    (asSl (d848.getD 4 .bad)).bind fun s853 =>
    some ((.agg [(.int .i64 n849), (.bool t850), (.int .i64 n851), (.slice s852.1 s852.2.1 s852.2.2), (.slice s853.1 s853.2.1 s853.2.2)]), h846, r838.2.2))
    else
    ((ldR h2 nx 0 8).bind fun l854 =>
    (asAgg 8 (AV.agg l854)).bind fun d855 =>
    (asI .i64 (d855.getD 0 .bad)).bind fun n856 =>
    (asStr (d855.getD 1 .bad)).bind fun s857 =>
    (asStr (d855.getD 2 .bad)).bind fun s858 =>
    (asI .i64 (d855.getD 3 .bad)).bind fun n859 =>
    (asI .i64 (d855.getD 4 .bad)).bind fun n860 =>
    (asI .i64 (d855.getD 5 .bad)).bind fun n861 =>
    (asI .i64 (d855.getD 6 .bad)).bind fun n862 =>
    (asSl (d855.getD 7 .bad)).bind fun s863 =>
    ((callP Try.prog keepT n) Y 27 [(.ptr x0), (.slice s837.1 s837.2.1 s837.2.2), (.agg [(.int .i64 n856), (.str s857), (.str s858), (.int .i64 n859), (.int .i64 n860), (.int .i64 n861), (.int .i64 n862), (.slice s863.1 s863.2.1 s863.2.2)])] h2 (nx + 39)).bind fun r864 =>
    (asAgg 5 r864.1).bind fun d865 =>
    (asI .i64 (d865.getD 0 .bad)).bind fun n866 =>
    (asB (d865.getD 1 .bad)).bind fun t867 =>
    (asI .i64 (d865.getD 2 .bad)).bind fun n868 =>
    (asSl (d865.getD 3 .bad)).bind fun s869 =>
    (asSl (d865.getD 4 .bad)).bind fun s870 =>
    (stA r864.2.1 (nx + 1) 0 (.agg [(.int .i64 n866), (.bool t867), (.int .i64 n868), (.slice s869.1 s869.2.1 s869.2.2), (.slice s870.1 s870.2.1 s870.2.2)]) 5).bind fun b871 =>
    let h872 := AHeap.put r864.2.1 (nx + 1) (some b871)
    (ldR h872 (nx + 1) 0 5).bind fun l873 =>
    (asAgg 5 (AV.agg l873)).bind fun d874 =>
    (asI .i64 (d874.getD 0 .bad)).bind fun n875 =>
    (asB (d874.getD 1 .bad)).bind fun t876 =>
    (asI .i64 (d874.getD 2 .bad)).bind fun n877 =>
    (asSl (d874.getD 3 .bad)).bind fun s878 =>
    (asSl (d874.getD 4 .bad)).bind fun s879 =>
    some ((.agg [(.int .i64 n875), (.bool t876), (.int .i64 n877), (.slice s878.1 s878.2.1 s878.2.2), (.slice s879.1 s879.2.1 s879.2.2)]), h872, r864.2.2)))
    else
    (if ((n4 : Int) == 12) = true then
    ((stA h2 (nx + 1) 0 (.agg [(.int .i64 0), (.bool false), (.int .i64 0), (.slice none 0 none), (.slice none 0 none)]) 5).bind fun b880 =>
    let h881 := AHeap.put h2 (nx + 1) (some b880)
    (ldR h881 (nx + 1) 0 5).bind fun l882 =>
    (asAgg 5 (AV.agg l882)).bind fun d883 =>
    (asI .i64 (d883.getD 0 .bad)).bind fun n884 =>
    (asB (d883.getD 1 .bad)).bind fun t885 =>
    (asI .i64 (d883.getD 2 .bad)).bind fun n886 =>
    (asSl (d883.getD 3 .bad)).bind fun s887 =>
    (asSl (d883.getD 4 .bad)).bind fun s888 =>
    some ((.agg [(.int .i64 n884), (.bool t885), (.int .i64 n886), (.slice s887.1 s887.2.1 s887.2.2), (.slice s888.1 s888.2.1 s888.2.2)]), h881, (nx + 24)))
    else
    (((callP Try.prog keepT n) Y 23 [(.int .i64 3)] h2 (nx + 24)).bind fun r889 =>
    (asAgg 5 r889.1).bind fun d890 =>
    (asI .i64 (d890.getD 0 .bad)).bind fun n891 =>
    (asB (d890.getD 1 .bad)).bind fun t892 =>
    (asI .i64 (d890.getD 2 .bad)).bind fun n893 =>
    (asSl (d890.getD 3 .bad)).bind fun s894 =>
    (asSl (d890.getD 4 .bad)).bind fun s895 =>
    (stA r889.2.1 (nx + 1) 0 (.agg [(.int .i64 n891), (.bool t892), (.int .i64 n893), (.slice s894.1 s894.2.1 s894.2.2), (.slice s895.1 s895.2.1 s895.2.2)]) 5).bind fun b896 =>
    let h897 := AHeap.put r889.2.1 (nx + 1) (some b896)
    (ldR h897 (nx + 1) 0 5).bind fun l898 =>
    (asAgg 5 (AV.agg l898)).bind fun d899 =>
    (asI .i64 (d899.getD 0 .bad)).bind fun n900 =>
    (asB (d899.getD 1 .bad)).bind fun t901 =>
    (asI .i64 (d899.getD 2 .bad)).bind fun n902 =>
    (asSl (d899.getD 3 .bad)).bind fun s903 =>
    (asSl (d899.getD 4 .bad)).bind fun s904 =>
    some ((.agg [(.int .i64 n900), (.bool t901), (.int .i64 n902), (.slice s903.1 s903.2.1 s903.2.2), (.slice s904.1 s904.2.1 s904.2.2)]), h897, r889.2.2))))
    else
    (if ((n4 : Int) == 4) = true then
    (if ((n4 : Int) == 4) = true then
    ((x0).bind fun p905 =>
    (ldA h2 p905.1 p905.2).bind fun v906 =>
    (asMp v906).bind fun m907 =>
    (ldA h2 nx 1).bind fun v908 =>
    (asStr v908).bind fun s909 =>
    (mapO h2 m907).bind fun es910 =>
    (findE s909 es910 0).bind fun o911 =>
    (asSl (valE (.slice none 0 none) o911)).bind fun s912 =>
    if (!(hasE o911)) = true then
    (((callP Try.prog keepT n) Y 23 [(.int .i64 6)] h2 (nx + 38)).bind fun r913 =>
    (asAgg 5 r913.1).bind fun d914 =>
    (asI .i64 (d914.getD 0 .bad)).bind fun n915 =>
    (asB (d914.getD 1 .bad)).bind fun t916 =>
    (asI .i64 (d914.getD 2 .bad)).bind fun n917 =>
    (asSl (d914.getD 3 .bad)).bind fun s918 =>
    (asSl (d914.getD 4 .bad)).bind fun s919 =>
    (stA r913.2.1 (nx + 1) 0 (.agg [(.int .i64 n915), (.bool t916), (.int .i64 n917), (.slice s918.1 s918.2.1 s918.2.2), (.slice s919.1 s919.2.1 s919.2.2)]) 5).bind fun b920 =>
    let h921 := AHeap.put r913.2.1 (nx + 1) (some b920)
    (ldR h921 (nx + 1) 0 5).bind fun l922 =>
    (asAgg 5 (AV.agg l922)).bind fun d923 =>
    (asI .i64 (d923.getD 0 .bad)).bind fun n924 =>
    (asB (d923.getD 1 .bad)).bind fun t925 =>
    (asI .i64 (d923.getD 2 .bad)).bind fun n926 =>
    (asSl (d923.getD 3 .bad)).bind fun s927 =>
    (asSl (d923.getD 4 .bad)).bind fun s928 =>
    some ((.agg [(.int .i64 n924), (.bool t925), (.int .i64 n926), (.slice s927.1 s927.2.1 s927.2.2), (.slice s928.1 s928.2.1 s928.2.2)]), h921, r913.2.2))
    else
    ((ldR h2 nx 0 8).bind fun l929 =>
    (asAgg 8 (AV.agg l929)).bind fun d930 =>
    (asI .i64 (d930.getD 0 .bad)).bind fun n931 =>
    (asStr (d930.getD 1 .bad)).bind fun s932 =>
    (asStr (d930.getD 2 .bad)).bind fun s933 =>
    (asI .i64 (d930.getD 3 .bad)).bind fun n934 =>
    (asI .i64 (d930.getD 4 .bad)).bind fun n935 =>
    (asI .i64 (d930.getD 5 .bad)).bind fun n936 =>
    (asI .i64 (d930.getD 6 .bad)).bind fun n937 =>
    (asSl (d930.getD 7 .bad)).bind fun s938 =>
    ((callP Try.prog keepT n) Y 27 [(.ptr x0), (.slice s912.1 s912.2.1 s912.2.2), (.agg [(.int .i64 n931), (.str s932), (.str s933), (.int .i64 n934), (.int .i64 n935), (.int .i64 n936), (.int .i64 n937), (.slice s938.1 s938.2.1 s938.2.2)])] h2 (nx + 41)).bind fun r939 =>
    (asAgg 5 r939.1).bind fun d940 =>
    (asI .i64 (d940.getD 0 .bad)).bind fun n941 =>
    (asB (d940.getD 1 .bad)).bind fun t942 =>
    (asI .i64 (d940.getD 2 .bad)).bind fun n943 =>
    (asSl (d940.getD 3 .bad)).bind fun s944 =>
    (asSl (d940.getD 4 .bad)).bind fun s945 =>
    (stA r939.2.1 (nx + 1) 0 (.agg [(.int .i64 n941), (.bool t942), (.int .i64 n943), (.slice s944.1 s944.2.1 s944.2.2), (.slice s945.1 s945.2.1 s945.2.2)]) 5).bind fun b946 =>
    let h947 := AHeap.put r939.2.1 (nx + 1) (some b946)
    (ldR h947 (nx + 1) 0 5).bind fun l948 =>
    (asAgg 5 (AV.agg l948)).bind fun d949 =>
    (asI .i64 (d949.getD 0 .bad)).bind fun n950 =>
    (asB (d949.getD 1 .bad)).bind fun t951 =>
    (asI .i64 (d949.getD 2 .bad)).bind fun n952 =>
    (asSl (d949.getD 3 .bad)).bind fun s953 =>
    (asSl (d949.getD 4 .bad)).bind fun s954 =>
    some ((.agg [(.int .i64 n950), (.bool t951), (.int .i64 n952), (.slice s953.1 s953.2.1 s953.2.2), (.slice s954.1 s954.2.1 s954.2.2)]), h947, r939.2.2)))
    else
    (if ((n4 : Int) == 12) = true then
    ((stA h2 (nx + 1) 0 (.agg [(.int .i64 0), (.bool false), (.int .i64 0), (.slice none 0 none), (.slice none 0 none)]) 5).bind fun b955 =>
    let h956 := AHeap.put h2 (nx + 1) (some b955)
    (ldR h956 (nx + 1) 0 5).bind fun l957 =>
    (asAgg 5 (AV.agg l957)).bind fun d958 =>
    (asI .i64 (d958.getD 0 .bad)).bind fun n959 =>
    (asB (d958.getD 1 .bad)).bind fun t960 =>
    (asI .i64 (d958.getD 2 .bad)).bind fun n961 =>
    (asSl (d958.getD 3 .bad)).bind fun s962 =>
    (asSl (d958.getD 4 .bad)).bind fun s963 =>
    some ((.agg [(.int .i64 n959), (.bool t960), (.int .i64 n961), (.slice s962.1 s962.2.1 s962.2.2), (.slice s963.1 s963.2.1 s963.2.2)]), h956, (nx + 26)))
    else
    (((callP Try.prog keepT n) Y 23 [(.int .i64 3)] h2 (nx + 26)).bind fun r964 =>
    (asAgg 5 r964.1).bind fun d965 =>
    (asI .i64 (d965.getD 0 .bad)).bind fun n966 =>
    (asB (d965.getD 1 .bad)).bind fun t967 =>
    (asI .i64 (d965.getD 2 .bad)).bind fun n968 =>
    (asSl (d965.getD 3 .bad)).bind fun s969 =>
    (asSl (d965.getD 4 .bad)).bind fun s970 =>
    (stA r964.2.1 (nx + 1) 0 (.agg [(.int .i64 n966), (.bool t967), (.int .i64 n968), (.slice s969.1 s969.2.1 s969.2.2), (.slice s970.1 s970.2.1 s970.2.2)]) 5).bind fun b971 =>
    let h972 := AHeap.put r964.2.1 (nx + 1) (some b971)
    (ldR h972 (nx + 1) 0 5).bind fun l973 =>
    (asAgg 5 (AV.agg l973)).bind fun d974 =>
    (asI .i64 (d974.getD 0 .bad)).bind fun n975 =>
    (asB (d974.getD 1 .bad)).bind fun t976 =>
    (asI .i64 (d974.getD 2 .bad)).bind fun n977 =>
    (asSl (d974.getD 3 .bad)).bind fun s978 =>
    (asSl (d974.getD 4 .bad)).bind fun s979 =>
    some ((.agg [(.int .i64 n975), (.bool t976), (.int .i64 n977), (.slice s978.1 s978.2.1 s978.2.2), (.slice s979.1 s979.2.1 s979.2.2)]), h972, r964.2.2))))
    else
    (if ((n4 : Int) == 5) = true then
    ((x0).bind fun p980 =>
    (ldA h2 p980.1 p980.2).bind fun v981 =>
    (asMp v981).bind fun m982 =>
    (ldA h2 nx 1).bind fun v983 =>
    (asStr v983).bind fun s984 =>
    (mapO h2 m982).bind fun es985 =>
    (findE s984 es985 0).bind fun o986 =>
    (asSl (valE (.slice none 0 none) o986)).bind fun s987 =>
    if (!(hasE o986)) = true then
    (((callP Try.prog keepT n) Y 23 [(.int .i64 6)] h2 (nx + 40)).bind fun r988 =>
    (asAgg 5 r988.1).bind fun d989 =>
    (asI .i64 (d989.getD 0 .bad)).bind fun n990 =>
    (asB (d989.getD 1 .bad)).bind fun t991 =>
    (asI .i64 (d989.getD 2 .bad)).bind fun n992 =>
    (asSl (d989.getD 3 .bad)).bind fun s993 =>
    (asSl (d989.getD 4 .bad)).bind fun s994 =>
    (stA r988.2.1 (nx + 1) 0 (.agg [(.int .i64 n990), (.bool t991), (.int .i64 n992), (.slice s993.1 s993.2.1 s993.2.2), (.slice s994.1 s994.2.1 s994.2.2)]) 5).bind fun b995 =>
    let h996 := AHeap.put r988.2.1 (nx + 1) (some b995)
    (ldR h996 (nx + 1) 0 5).bind fun l997 =>
    (asAgg 5 (AV.agg l997)).bind fun d998 =>
    (asI .i64 (d998.getD 0 .bad)).bind fun n999 =>
    (asB (d998.getD 1 .bad)).bind fun t1000 =>
    (asI .i64 (d998.getD 2 .bad)).bind fun n1001 =>
    (asSl (d998.getD 3 .bad)).bind fun s1002 =>
    (asSl (d998.getD 4 .bad)).bind fun s1003 =>
    some ((.agg [(.int .i64 n999), (.bool t1000), (.int .i64 n1001), (.slice s1002.1 s1002.2.1 s1002.2.2), (.slice s1003.1 s1003.2.1 s1003.2.2)]), h996, r988.2.2))
    else
    ((ldR h2 nx 0 8).bind fun l1004 =>
    (asAgg 8 (AV.agg l1004)).bind fun d1005 =>
    (asI .i64 (d1005.getD 0 .bad)).bind fun n1006 =>
    (asStr (d1005.getD 1 .bad)).bind fun s1007 =>
    (asStr (d1005.getD 2 .bad)).bind fun s1008 =>
    (asI .i64 (d1005.getD 3 .bad)).bind fun n1009 =>
    (asI .i64 (d1005.getD 4 .bad)).bind fun n1010 =>
    (asI .i64 (d1005.getD 5 .bad)).bind fun n1011 =>
    (asI .i64 (d1005.getD 6 .bad)).bind fun n1012 =>
    (asSl (d1005.getD 7 .bad)).bind fun s1013 =>
    ((callP Try.prog keepT n) Y 27 [(.ptr x0), (.slice s987.1 s987.2.1 s987.2.2), (.agg [(.int .i64 n1006), (.str s1007), (.str s1008), (.int .i64 n1009), (.int .i64 n1010), (.int .i64 n1011), (.int .i64 n1012), (.slice s1013.1 s1013.2.1 s1013.2.2)])] h2 (nx + 43)).bind fun r1014 =>
    (asAgg 5 r1014.1).bind fun d1015 =>
    (asI .i64 (d1015.getD 0 .bad)).bind fun n1016 =>
    (asB (d1015.getD 1 .bad)).bind fun t1017 =>
    (asI .i64 (d1015.getD 2 .bad)).bind fun n1018 =>
    (asSl (d1015.getD 3 .bad)).bind fun s1019 =>
    (asSl (d1015.getD 4 .bad)).bind fun s1020 =>
    (stA r1014.2.1 (nx + 1) 0 (.agg [(.int .i64 n1016), (.bool t1017), (.int .i64 n1018), (.slice s1019.1 s1019.2.1 s1019.2.2), (.slice s1020.1 s1020.2.1 s1020.2.2)]) 5).bind fun b1021 =>
    let h1022 := AHeap.put r1014.2.1 (nx + 1) (some b1021)
    (ldR h1022 (nx + 1) 0 5).bind fun l1023 =>
    (asAgg 5 (AV.agg l1023)).bind fun d1024 =>
    (asI .i64 (d1024.getD 0 .bad)).bind fun n1025 =>
    (asB (d1024.getD 1 .bad)).bind fun t1026 =>
    (asI .i64 (d1024.getD 2 .bad)).bind fun n1027 =>
    (asSl (d1024.getD 3 .bad)).bind fun s1028 =>
    (asSl (d1024.getD 4 .bad)).bind fun s1029 =>
    some ((.agg [(.int .i64 n1025), (.bool t1026), (.int .i64 n1027), (.slice s1028.1 s1028.2.1 s1028.2.2), (.slice s1029.1 s1029.2.1 s1029.2.2)]), h1022, r1014.2.2)))
    else
    (if ((n4 : Int) == 12) = true then
    ((stA h2 (nx + 1) 0 (.agg [(.int .i64 0), (.bool false), (.int .i64 0), (.slice none 0 none), (.slice none 0 none)]) 5).bind fun b1030 =>
    let h1031 := AHeap.put h2 (nx + 1) (some b1030)
    (ldR h1031 (nx + 1) 0 5).bind fun l1032 =>
    (asAgg 5 (AV.agg l1032)).bind fun d1033 =>
    (asI .i64 (d1033.getD 0 .bad)).bind fun n1034 =>
    (asB (d1033.getD 1 .bad)).bind fun t1035 =>
    (asI .i64 (d1033.getD 2 .bad)).bind fun n1036 =>
    (asSl (d1033.getD 3 .bad)).bind fun s1037 =>
    (asSl (d1033.getD 4 .bad)).bind fun s1038 =>
    some ((.agg [(.int .i64 n1034), (.bool t1035), (.int .i64 n1036), (.slice s1037.1 s1037.2.1 s1037.2.2), (.slice s1038.1 s1038.2.1 s1038.2.2)]), h1031, (nx + 28)))
    else
    (((callP Try.prog keepT n) Y 23 [(.int .i64 3)] h2 (nx + 28)).bind fun r1039 =>
    (asAgg 5 r1039.1).bind fun d1040 =>
    (asI .i64 (d1040.getD 0 .bad)).bind fun n1041 =>
    (asB (d1040.getD 1 .bad)).bind fun t1042 =>
    (asI .i64 (d1040.getD 2 .bad)).bind fun n1043 =>
    (asSl (d1040.getD 3 .bad)).bind fun s1044 =>
    (asSl (d1040.getD 4 .bad)).bind fun s1045 =>
    (stA r1039.2.1 (nx + 1) 0 (.agg [(.int .i64 n1041), (.bool t1042), (.int .i64 n1043), (.slice s1044.1 s1044.2.1 s1044.2.2), (.slice s1045.1 s1045.2.1 s1045.2.2)]) 5).bind fun b1046 =>
    let h1047 := AHeap.put r1039.2.1 (nx + 1) (some b1046)
    (ldR h1047 (nx + 1) 0 5).bind fun l1048 =>
    (asAgg 5 (AV.agg l1048)).bind fun d1049 =>
    (asI .i64 (d1049.getD 0 .bad)).bind fun n1050 =>
    (asB (d1049.getD 1 .bad)).bind fun t1051 =>
    (asI .i64 (d1049.getD 2 .bad)).bind fun n1052 =>
    (asSl (d1049.getD 3 .bad)).bind fun s1053 =>
    (asSl (d1049.getD 4 .bad)).bind fun s1054 =>
    some ((.agg [(.int .i64 n1050), (.bool t1051), (.int .i64 n1052), (.slice s1053.1 s1053.2.1 s1053.2.2), (.slice s1054.1 s1054.2.1 s1054.2.2)]), h1047, r1039.2.2))))))))
    else
    (if ((n4 : Int) == 10) = true then
    ((ldR h2 nx 0 8).bind fun l1055 =>
    (asAgg 8 (AV.agg l1055)).bind fun d1056 =>
    (asI .i64 (d1056.getD 0 .bad)).bind fun n1057 =>
    (asStr (d1056.getD 1 .bad)).bind fun s1058 =>
    (asStr (d1056.getD 2 .bad)).bind fun s1059 =>
    (asI .i64 (d1056.getD 3 .bad)).bind fun n1060 =>
    (asI .i64 (d1056.getD 4 .bad)).bind fun n1061 =>
    (asI .i64 (d1056.getD 5 .bad)).bind fun n1062 =>
    (asI .i64 (d1056.getD 6 .bad)).bind fun n1063 =>
    (asSl (d1056.getD 7 .bad)).bind fun s1064 =>
    ((callP Try.prog keepT n) Y 26 [(.ptr x0), (.agg [(.int .i64 n1057), (.str s1058), (.str s1059), (.int .i64 n1060), (.int .i64 n1061), (.int .i64 n1062), (.int .i64 n1063), (.slice s1064.1 s1064.2.1 s1064.2.2)])] h2 (nx + 22)).bind fun r1065 =>
    (asAgg 5 r1065.1).bind fun d1066 =>
    (asI .i64 (d1066.getD 0 .bad)).bind fun n1067 =>
    (asB (d1066.getD 1 .bad)).bind fun t1068 =>
    (asI .i64 (d1066.getD 2 .bad)).bind fun n1069 =>
    (asSl (d1066.getD 3 .bad)).bind fun s1070 =>
    (asSl (d1066.getD 4 .bad)).bind fun s1071 =>
    (stA r1065.2.1 (nx + 1) 0 (.agg [(.int .i64 n1067), (.bool t1068), (.int .i64 n1069), (.slice s1070.1 s1070.2.1 s1070.2.2), (.slice s1071.1 s1071.2.1 s1071.2.2)]) 5).bind fun b1072 =>
    let h1073 := AHeap.put r1065.2.1 (nx + 1) (some b1072)
    (ldR h1073 (nx + 1) 0 5).bind fun l1074 =>
    (asAgg 5 (AV.agg l1074)).bind fun d1075 =>
    (asI .i64 (d1075.getD 0 .bad)).bind fun n1076 =>
    (asB (d1075.getD 1 .bad)).bind fun t1077 =>
    (asI .i64 (d1075.getD 2 .bad)).bind fun n1078 =>
    (asSl (d1075.getD 3 .bad)).bind fun s1079 =>
    (asSl (d1075.getD 4 .bad)).bind fun s1080 =>
    some ((.agg [(.int .i64 n1076), (.bool t1077), (.int .i64 n1078), (.slice s1079.1 s1079.2.1 s1079.2.2), (.slice s1080.1 s1080.2.1 s1080.2.2)]), h1073, r1065.2.2))
    else
    (if ((n4 : Int) == 2) = true then
    (if ((n4 : Int) == 2) = true then
    ((x0).bind fun p1081 =>
    (ldA h2 p1081.1 p1081.2).bind fun v1082 =>
    (asMp v1082).bind fun m1083 =>
    (ldA h2 nx 1).bind fun v1084 =>
    (asStr v1084).bind fun s1085 =>
    (mapO h2 m1083).bind fun es1086 =>
    (findE s1085 es1086 0).bind fun o1087 =>
    (asSl (valE (.slice none 0 none) o1087)).bind fun s1088 =>
    if (!(hasE o1087)) = true then
    (((callP Try.prog keepT n) Y 23 [(.int .i64 6)] h2 (nx + 36)).bind fun r1089 =>
    (asAgg 5 r1089.1).bind fun d1090 =>
    (asI .i64 (d1090.getD 0 .bad)).bind fun n1091 =>
    (asB (d1090.getD 1 .bad)).bind fun t1092 =>
    (asI .i64 (d1090.getD 2 .bad)).bind fun n1093 =>
    (asSl (d1090.getD 3 .bad)).bind fun s1094 =>
    (asSl (d1090.getD 4 .bad)).bind fun s1095 =>
    (stA r1089.2.1 (nx + 1) 0 (.agg [(.int .i64 n1091), (.bool t1092), (.int .i64 n1093), (.slice s1094.1 s1094.2.1 s1094.2.2), (.slice s1095.1 s1095.2.1 s1095.2.2)]) 5).bind fun b1096 =>
    let h1097 := AHeap.put r1089.2.1 (nx + 1) (some b1096)
    (ldR h1097 (nx + 1) 0 5).bind fun l1098 =>
    (asAgg 5 (AV.agg l1098)).bind fun d1099 =>
    (asI .i64 (d1099.getD 0 .bad)).bind fun n1100 =>
    (asB (d1099.getD 1 .bad)).bind fun t1101 =>
    (asI .i64 (d1099.getD 2 .bad)).bind fun n1102 =>
    (asSl (d1099.getD 3 .bad)).bind fun s1103 =>
    (asSl (d1099.getD 4 .bad)).bind fun s1104 =>
    some ((.agg [(.int .i64 n1100), (.bool t1101), (.int .i64 n1102), (.slice s1103.1 s1103.2.1 s1103.2.2), (.slice s1104.1 s1104.2.1 s1104.2.2)]), h1097, r1089.2.2))
    else
    ((ldR h2 nx 0 8).bind fun l1105 =>
    (asAgg 8 (AV.agg l1105)).bind fun d1106 =>
    (asI .i64 (d1106.getD 0 .bad)).bind fun n1107 =>
    (asStr (d1106.getD 1 .bad)).bind fun s1108 =>
    (asStr (d1106.getD 2 .bad)).bind fun s1109 =>
    (asI .i64 (d1106.getD 3 .bad)).bind fun n1110 =>
    (asI .i64 (d1106.getD 4 .bad)).bind fun n1111 =>
    (asI .i64 (d1106.getD 5 .bad)).bind fun n1112 =>
    (asI .i64 (d1106.getD 6 .bad)).bind fun n1113 =>
    (asSl (d1106.getD 7 .bad)).bind fun s1114 =>
    ((callP Try.prog keepT n) Y 27 [(.ptr x0), (.slice s1088.1 s1088.2.1 s1088.2.2), (.agg [(.int .i64 n1107), (.str s1108), (.str s1109), (.int .i64 n1110), (.int .i64 n1111), (.int .i64 n1112), (.int .i64 n1113), (.slice s1114.1 s1114.2.1 s1114.2.2)])] h2 (nx + 39)).bind fun r1115 =>
    (asAgg 5 r1115.1).bind fun d1116 =>
    (asI .i64 (d1116.getD 0 .bad)).bind fun n1117 =>
    (asB (d1116.getD 1 .bad)).bind fun t1118 =>
    (asI .i64 (d1116.getD 2 .bad)).bind fun n1119 =>
    (asSl (d1116.getD 3 .bad)).bind fun s1120 =>
    (asSl (d1116.getD 4 .bad)).bind fun s1121 =>
    (stA r1115.2.1 (nx + 1) 0 (.agg [(.int .i64 n1117), (.bool t1118), (.int .i64 n1119), (.slice s1120.1 s1120.2.1 s1120.2.2), (.slice s1121.1 s1121.2.1 s1121.2.2)]) 5).bind fun b1122 =>
    let h1123 := AHeap.put r1115.2.1 (nx + 1) (some b1122)
    (ldR h1123 (nx + 1) 0 5).bind fun l1124 =>
    (asAgg 5 (AV.agg l1124)).bind fun d1125 =>
    (asI .i64 (d1125.getD 0 .bad)).bind fun n1126 =>
    (asB (d1125.getD 1 .bad)).bind fun t1127 =>
    (asI .i64 (d1125.getD 2 .bad)).bind fun n1128 =>
    (asSl (d1125.getD 3 .bad)).bind fun s1129 =>
    (asSl (d1125.getD 4 .bad)).bind fun s1130 =>
    some ((.agg [(.int .i64 n1126), (.bool t1127), (.int .i64 n1128), (.slice s1129.1 s1129.2.1 s1129.2.2), (.slice s1130.1 s1130.2.1 s1130.2.2)]), h1123, r1115.2.2)))
    else
    (if ((n4 : Int) == 12) = true then
    ((stA h2 (nx + 1) 0 (.agg [(.int .i64 0), (.bool false), (.int .i64 0), (.slice none 0 none), (.slice none 0 none)]) 5).bind fun b1131 =>
    let h1132 := AHeap.put h2 (nx + 1) (some b1131)
    (ldR h1132 (nx + 1) 0 5).bind fun l1133 =>
    (asAgg 5 (AV.agg l1133)).bind fun d1134 =>
    (asI .i64 (d1134.getD 0 .bad)).bind fun n1135 =>
    (asB (d1134.getD 1 .bad)).bind fun t1136 =>
    (asI .i64 (d1134.getD 2 .bad)).bind fun n1137 =>
    (asSl (d1134.getD 3 .bad)).bind fun s1138 =>
    (asSl (d1134.getD 4 .bad)).bind fun s1139 =>
    some ((.agg [(.int .i64 n1135), (.bool t1136), (.int .i64 n1137), (.slice s1138.1 s1138.2.1 s1138.2.2), (.slice s1139.1 s1139.2.1 s1139.2.2)]), h1132, (nx + 24)))
    else
    (((callP Try.prog keepT n) Y 23 [(.int .i64 3)] h2 (nx + 24)).bind fun r1140 =>
    (asAgg 5 r1140.1).bind fun d1141 =>
    (asI .i64 (d1141.getD 0 .bad)).bind fun n1142 =>
    (asB (d1141.getD 1 .bad)).bind fun t1143 =>
    (asI .i64 (d1141.getD 2 .bad)).bind fun n1144 =>
    (asSl (d1141.getD 3 .bad)).bind fun s1145 =>
    (asSl (d1141.getD 4 .bad)).bind fun s1146 =>
    (stA r1140.2.1 (nx + 1) 0 (.agg [(.int .i64 n1142), (.bool t1143), (.int .i64 n1144), (.slice s1145.1 s1145.2.1 s1145.2.2), (.slice s1146.1 s1146.2.1 s1146.2.2)]) 5).bind fun b1147 =>
    let h1148 := AHeap.put r1140.2.1 (nx + 1) (some b1147)
    (ldR h1148 (nx + 1) 0 5).bind fun l1149 =>
    (asAgg 5 (AV.agg l1149)).bind fun d1150 =>
    (asI .i64 (d1150.getD 0 .bad)).bind fun n1151 =>
    (asB (d1150.getD 1 .bad)).bind fun t1152 =>
    (asI .i64 (d1150.getD 2 .bad)).bind fun n1153 =>
    (asSl (d1150.getD 3 .bad)).bind fun s1154 =>
    (asSl (d1150.getD 4 .bad)).bind fun s1155 =>
    some ((.agg [(.int .i64 n1151), (.bool t1152), (.int .i64 n1153), (.slice s1154.1 s1154.2.1 s1154.2.2), (.slice s1155.1 s1155.2.1 s1155.2.2)]), h1148, r1140.2.2))))
    else
    (if ((n4 : Int) == 3) = true then
    (if ((n4 : Int) == 3) = true then
    ((x0).bind fun p1156 =>
    (ldA h2 p1156.1 p1156.2).bind fun v1157 =>
    (asMp v1157).bind fun m1158 =>
    (ldA h2 nx 1).bind fun v1159 =>
    (asStr v1159).bind fun s1160 =>
    (mapO h2 m1158).bind fun es1161 =>
    (findE s1160 es1161 0).bind fun o1162 =>
    (asSl (valE (.slice none 0 none) o1162)).bind fun s1163 =>
    if (!(hasE o1162)) = true then
    (((callP Try.prog keepT n) Y 23 [(.int .i64 6)] h2 (nx + 38)).bind fun r1164 =>
    (asAgg 5 r1164.1).bind fun d1165 =>
    (asI .i64 (d1165.getD 0 .bad)).bind fun n1166 =>
    (asB (d1165.getD 1 .bad)).bind fun t1167 =>
    (asI .i64 (d1165.getD 2 .bad)).bind fun n1168 =>
    (asSl (d1165.getD 3 .bad)).bind fun s1169 =>
    (asSl (d1165.getD 4 .bad)).bind fun s1170 =>
    (stA r1164.2.1 (nx + 1) 0 (.agg [(.int .i64 n1166), (.bool t1167), (.int .i64 n1168), (.slice s1169.1 s1169.2.1 s1169.2.2), (.slice s1170.1 s1170.2.1 s1170.2.2)]) 5).bind fun b1171 =>
    let h1172 := AHeap.put r1164.2.1 (nx + 1) (some b1171)
    (ldR h1172 (nx + 1) 0 5).bind fun l1173 =>
    (asAgg 5 (AV.agg l1173)).bind fun d1174 =>
    (asI .i64 (d1174.getD 0 .bad)).bind fun n1175 =>
    (asB (d1174.getD 1 .bad)).bind fun t1176 =>
    (asI .i64 (d1174.getD 2 .bad)).bind fun n1177 =>
    (asSl (d1174.getD 3 .bad)).bind fun s1178 =>
    (asSl (d1174.getD 4 .bad)).bind fun s1179 =>
    some ((.agg [(.int .i64 n1175), (.bool t1176), (.int .i64 n1177), (.slice s1178.1 s1178.2.1 s1178.2.2), (.slice s1179.1 s1179.2.1 s1179.2.2)]), h1172, r1164.2.2))
    else
    ((ldR h2 nx 0 8).bind fun l1180 =>
    (asAgg 8 (AV.agg l1180)).bind fun d1181 =>
    (asI .i64 (d1181.getD 0 .bad)).bind fun n1182 =>
    (asStr (d1181.getD 1 .bad)).bind fun s1183 =>
    (asStr (d1181.getD 2 .bad)).bind fun s1184 =>
    (asI .i64 (d1181.getD 3 .bad)).bind fun n1185 =>
    (asI .i64 (d1181.getD 4 .bad)).bind fun n1186 =>
    (asI .i64 (d1181.getD 5 .bad)).bind fun n1187 =>
    (asI .i64 (d1181.getD 6 .bad)).bind fun n1188 =>
    (asSl (d1181.getD 7 .bad)).bind fun s1189 =>
    ((callP Try.prog keepT n) Y 27 [(.ptr x0), (.slice s1163.1 s1163.2.1 s1163.2.2), (.agg [(.int .i64 n1182), (.str s1183), (.str s1184), (.int .i64 n1185), (.int .i64 n1186), (.int .i64 n1187), (.int .i64 n1188), (.slice s1189.1 s1189.2.1 s1189.2.2)])] h2 (nx + 41)).bind fun r1190 =>
    (asAgg 5 r1190.1).bind fun d1191 =>
    (asI .i64 (d1191.getD 0 .bad)).bind fun n1192 =>
    (asB (d1191.getD 1 .bad)).bind fun t1193 =>
    (asI .i64 (d1191.getD 2 .bad)).bind fun n1194 =>
    (asSl (d1191.getD 3 .bad)).bind fun s1195 =>
    (asSl (d1191.getD 4 .bad)).bind fun s1196 =>
    (stA r1190.2.1 (nx + 1) 0 (.agg [(.int .i64 n1192), (.bool t1193), (.int .i64 n1194), (.slice s1195.1 s1195.2.1 s1195.2.2), (.slice s1196.1 s1196.2.1 s1196.2.2)]) 5).bind fun b1197 =>
    let h1198 := AHeap.put r1190.2.1 (nx + 1) (some b1197)
    (ldR h1198 (nx + 1) 0 5).bind fun l1199 =>
    (asAgg 5 (AV.agg l1199)).bind fun d1200 =>
    (asI .i64 (d1200.getD 0 .bad)).bind fun n1201 =>
    (asB (d1200.getD 1 .bad)).bind fun t1202 =>
    (asI .i64 (d1200.getD 2 .bad)).bind fun n1203 =>
    (asSl (d1200.getD 3 .bad)).bind fun s1204 =>
    (asSl (d1200.getD 4 .bad)).bind fun s1205 =>
    some ((.agg [(.int .i64 n1201), (.bool t1202), (.int .i64 n1203), (.slice s1204.1 s1204.2.1 s1204.2.2), (.slice s1205.1 s1205.2.1 s1205.2.2)]), h1198, r1190.2.2)))
    else
    (if ((n4 : Int) == 12) = true then
    ((stA h2 (nx + 1) 0 (.agg [(.int .i64 0), (.bool false), (.int .i64 0), (.slice none 0 none), (.slice none 0 none)]) 5).bind fun b1206 =>
    let h1207 := AHeap.put h2 (nx + 1) (some b1206)
    (ldR h1207 (nx + 1) 0 5).bind fun l1208 =>
    (asAgg 5 (AV.agg l1208)).bind fun d1209 =>
    (asI .i64 (d1209.getD 0 .bad)).bind fun n1210 =>
    (asB (d1209.getD 1 .bad)).bind fun t1211 =>
    (asI .i64 (d1209.getD 2 .bad)).bind fun n1212 =>
    (asSl (d1209.getD 3 .bad)).bind fun s1213 =>
    (asSl (d1209.getD 4 .bad)).bind fun s1214 =>
    some ((.agg [(.int .i64 n1210), (.bool t1211), (.int .i64 n1212), (.slice s1213.1 s1213.2.1 s1213.2.2), (.slice s1214.1 s1214.2.1 s1214.2.2)]), h1207, (nx + 26)))
    else
    (((callP Try.prog keepT n) Y 23 [(.int .i64 3)] h2 (nx + 26)).bind fun r1215 =>
    (asAgg 5 r1215.1).bind fun d1216 =>
    (asI .i64 (d1216.getD 0 .bad)).bind fun n1217 =>
    (asB (d1216.getD 1 .bad)).bind fun t1218 =>
    (asI .i64 (d1216.getD 2 .bad)).bind fun n1219 =>
    (asSl (d1216.getD 3 .bad)).bind fun s1220 =>
    (asSl (d1216.getD 4 .bad)).bind fun s1221 =>
    (stA r1215.2.1 (nx + 1) 0 (.agg [(.int .i64 n1217), (.bool t1218), (.int .i64 n1219), (.slice s1220.1 s1220.2.1 s1220.2.2), (.slice s1221.1 s1221.2.1 s1221.2.2)]) 5).bind fun b1222 =>
    let h1223 := AHeap.put r1215.2.1 (nx + 1) (some b1222)
    (ldR h1223 (nx + 1) 0 5).bind fun l1224 =>
    (asAgg 5 (AV.agg l1224)).bind fun d1225 =>
    (asI .i64 (d1225.getD 0 .bad)).bind fun n1226 =>
    (asB (d1225.getD 1 .bad)).bind fun t1227 =>
    (asI .i64 (d1225.getD 2 .bad)).bind fun n1228 =>
    (asSl (d1225.getD 3 .bad)).bind fun s1229 =>
    (asSl (d1225.getD 4 .bad)).bind fun s1230 =>
    some ((.agg [(.int .i64 n1226), (.bool t1227), (.int .i64 n1228), (.slice s1229.1 s1229.2.1 s1229.2.2), (.slice s1230.1 s1230.2.1 s1230.2.2)]), h1223, r1215.2.2))))
    else
    (if ((n4 : Int) == 4) = true then
    (if ((n4 : Int) == 4) = true then
    ((x0).bind fun p1231 =>
    (ldA h2 p1231.1 p1231.2).bind fun v1232 =>
    (asMp v1232).bind fun m1233 =>
    (ldA h2 nx 1).bind fun v1234 =>
    (asStr v1234).bind fun s1235 =>
    (mapO h2 m1233).bind fun es1236 =>
    (findE s1235 es1236 0).bind fun o1237 =>
    (asSl (valE (.slice none 0 none) o1237)).bind fun s1238 =>
    if (!(hasE o1237)) = true then
    (((callP Try.prog keepT n) Y 23 [(.int .i64 6)] h2 (nx + 40)).bind fun r1239 =>
    (asAgg 5 r1239.1).bind fun d1240 =>
    (asI .i64 (d1240.getD 0 .bad)).bind fun n1241 =>
    (asB (d1240.getD 1 .bad)).bind fun t1242 =>
    (asI .i64 (d1240.getD 2 .bad)).bind fun n1243 =>
    (asSl (d1240.getD 3 .bad)).bind fun s1244 =>
    (asSl (d1240.getD 4 .bad)).bind fun s1245 =>
    (stA r1239.2.1 (nx + 1) 0 (.agg [(.int .i64 n1241), (.bool t1242), (.int .i64 n1243), (.slice s1244.1 s1244.2.1 s1244.2.2), (.slice s1245.1 s1245.2.1 s1245.2.2)]) 5).bind fun b1246 =>
    let h1247 := AHeap.put r1239.2.1 (nx + 1) (some b1246)
    (ldR h1247 (nx + 1) 0 5).bind fun l1248 =>
    (asAgg 5 (AV.agg l1248)).bind fun d1249 =>
    (asI .i64 (d1249.getD 0 .bad)).bind fun n1250 =>
    (asB (d1249.getD 1 .bad)).bind fun t1251 =>
    (asI .i64 (d1249.getD 2 .bad)).bind fun n1252 =>
    (asSl (d1249.getD 3 .bad)).bind fun s1253 =>
    (asSl (d1249.getD 4 .bad)).bind fun s1254 =>
    some ((.agg [(.int .i64 n1250), (.bool t1251), (.int .i64 n1252), (.slice s1253.1 s1253.2.1 s1253.2.2), (.slice s1254.1 s1254.2.1 s1254.2.2)]), h1247, r1239.2.2))
    else
    ((ldR h2 nx 0 8).bind fun l1255 =>
    (asAgg 8 (AV.agg l1255)).bind fun d1256 =>
    (asI .i64 (d1256.getD 0 .bad)).bind fun n1257 =>
    (asStr (d1256.getD 1 .bad)).bind fun s1258 =>
    (asStr (d1256.getD 2 .bad)).bind fun s1259 =>
    (asI .i64 (d1256.getD 3 .bad)).bind fun n1260 =>
    (asI .i64 (d1256.getD 4 .bad)).bind fun n1261 =>
    (asI .i64 (d1256.getD 5 .bad)).bind fun n1262 =>
    (asI .i64 (d1256.getD 6 .bad)).bind fun n1263 =>
    (asSl (d1256.getD 7 .bad)).bind fun s1264 =>
    ((callP Try.prog keepT n) Y 27 [(.ptr x0), (.slice s1238.1 s1238.2.1 s1238.2.2), (.agg [(.int .i64 n1257), (.str s1258), (.str s1259), (.int .i64 n1260), (.int .i64 n1261), (.int .i64 n1262), (.int .i64 n1263), (.slice s1264.1 s1264.2.1 s1264.2.2)])] h2 (nx + 43)).bind fun r1265 =>
    (asAgg 5 r1265.1).bind fun d1266 =>
    (asI .i64 (d1266.getD 0 .bad)).bind fun n1267 =>
    (asB (d1266.getD 1 .bad)).bind fun t1268 =>
    (asI .i64 (d1266.getD 2 .bad)).bind fun n1269 =>
    (asSl (d1266.getD 3 .bad)).bind fun s1270 =>
    (asSl (d1266.getD 4 .bad)).bind fun s1271 =>
    (stA r1265.2.1 (nx + 1) 0 (.agg [(.int .i64 n1267), (.bool t1268), (.int .i64 n1269), (.slice s1270.1 s1270.2.1 s1270.2.2), (.slice s1271.1 s1271.2.1 s1271.2.2)]) 5).bind fun b1272 =>
    let h1273 := AHeap.put r1265.2.1 (nx + 1) (some b1272)
    (ldR h1273 (nx + 1) 0 5).bind fun l1274 =>
    (asAgg 5 (AV.agg l1274)).bind fun d1275 =>
    (asI .i64 (d1275.getD 0 .bad)).bind fun n1276 =>
    (asB (d1275.getD 1 .bad)).bind fun t1277 =>
    (asI .i64 (d1275.getD 2 .bad)).bind fun n1278 =>
    (asSl (d1275.getD 3 .bad)).bind fun s1279 =>
    (asSl (d1275.getD 4 .bad)).bind fun s1280 =>
    some ((.agg [(.int .i64 n1276), (.bool t1277), (.int .i64 n1278), (.slice s1279.1 s1279.2.1 s1279.2.2), (.slice s1280.1 s1280.2.1 s1280.2.2)]), h1273, r1265.2.2)))
    else
    (if ((n4 : Int) == 12) = true then
    ((stA h2 (nx + 1) 0 (.agg [(.int .i64 0), (.bool false), (.int .i64 0), (.slice none 0 none), (.slice none 0 none)]) 5).bind fun b1281 =>
    let h1282 := AHeap.put h2 (nx + 1) (some b1281)
    (ldR h1282 (nx + 1) 0 5).bind fun l1283 =>
    (asAgg 5 (AV.agg l1283)).bind fun d1284 =>
    (asI .i64 (d1284.getD 0 .bad)).bind fun n1285 =>
    (asB (d1284.getD 1 .bad)).bind fun t1286 =>
    (asI .i64 (d1284.getD 2 .bad)).bind fun n1287 =>
    (asSl (d1284.getD 3 .bad)).bind fun s1288 =>
    (asSl (d1284.getD 4 .bad)).bind fun s1289 =>
    some ((.agg [(.int .i64 n1285), (.bool t1286), (.int .i64 n1287), (.slice s1288.1 s1288.2.1 s1288.2.2), (.slice s1289.1 s1289.2.1 s1289.2.2)]), h1282, (nx + 28)))
    else
    (((callP Try.prog keepT n) Y 23 [(.int .i64 3)] h2 (nx + 28)).bind fun r1290 =>
    (asAgg 5 r1290.1).bind fun d1291 =>
    (asI .i64 (d1291.getD 0 .bad)).bind fun n1292 =>
    (asB (d1291.getD 1 .bad)).bind fun t1293 =>
    (asI .i64 (d1291.getD 2 .bad)).bind fun n1294 =>
    (asSl (d1291.getD 3 .bad)).bind fun s1295 =>
    (asSl (d1291.getD 4 .bad)).bind fun s1296 =>
    (stA r1290.2.1 (nx + 1) 0 (.agg [(.int .i64 n1292), (.bool t1293), (.int .i64 n1294), (.slice s1295.1 s1295.2.1 s1295.2.2), (.slice s1296.1 s1296.2.1 s1296.2.2)]) 5).bind fun b1297 =>
    let h1298 := AHeap.put r1290.2.1 (nx + 1) (some b1297)
    (ldR h1298 (nx + 1) 0 5).bind fun l1299 =>
    (asAgg 5 (AV.agg l1299)).bind fun d1300 =>
    (asI .i64 (d1300.getD 0 .bad)).bind fun n1301 =>
    (asB (d1300.getD 1 .bad)).bind fun t1302 =>
    (asI .i64 (d1300.getD 2 .bad)).bind fun n1303 =>
    (asSl (d1300.getD 3 .bad)).bind fun s1304 =>
    (asSl (d1300.getD 4 .bad)).bind fun s1305 =>
    some ((.agg [(.int .i64 n1301), (.bool t1302), (.int .i64 n1303), (.slice s1304.1 s1304.2.1 s1304.2.2), (.slice s1305.1 s1305.2.1 s1305.2.2)]), h1298, r1290.2.2))))
    else
    (if ((n4 : Int) == 5) = true then
    ((x0).bind fun p1306 =>
    (ldA h2 p1306.1 p1306.2).bind fun v1307 =>
    (asMp v1307).bind fun m1308 =>
    (ldA h2 nx 1).bind fun v1309 =>
    (asStr v1309).bind fun s1310 =>
    (mapO h2 m1308).bind fun es1311 =>
    (findE s1310 es1311 0).bind fun o1312 =>
    (asSl (valE (.slice none 0 none) o1312)).bind fun s1313 =>
    if (!(hasE o1312)) = true then
    (((callP Try.prog keepT n) Y 23 [(.int .i64 6)] h2 (nx + 42)).bind fun r1314 =>
    (asAgg 5 r1314.1).bind fun d1315 =>
    (asI .i64 (d1315.getD 0 .bad)).bind fun n1316 =>
    (asB (d1315.getD 1 .bad)).bind fun t1317 =>
    (asI .i64 (d1315.getD 2 .bad)).bind fun n1318 =>
    (asSl (d1315.getD 3 .bad)).bind fun s1319 =>
    (asSl (d1315.getD 4 .bad)).bind fun s1320 =>
    (stA r1314.2.1 (nx + 1) 0 (.agg [(.int .i64 n1316), (.bool t1317), (.int .i64 n1318), (.slice s1319.1 s1319.2.1 s1319.2.2), (.slice s1320.1 s1320.2.1 s1320.2.2)]) 5).bind fun b1321 =>
    let h1322 := AHeap.put r1314.2.1 (nx + 1) (some b1321)
    (ldR h1322 (nx + 1) 0 5).bind fun l1323 =>
    (asAgg 5 (AV.agg l1323)).bind fun d1324 =>
    (asI .i64 (d1324.getD 0 .bad)).bind fun n1325 =>
    (asB (d1324.getD 1 .bad)).bind fun t1326 =>
    (asI .i64 (d1324.getD 2 .bad)).bind fun n1327 =>
    (asSl (d1324.getD 3 .bad)).bind fun s1328 =>
    (asSl (d1324.getD 4 .bad)).bind fun s1329 =>
    some ((.agg [(.int .i64 n1325), (.bool t1326), (.int .i64 n1327), (.slice s1328.1 s1328.2.1 s1328.2.2), (.slice s1329.1 s1329.2.1 s1329.2.2)]), h1322, r1314.2.2))
    else
    ((ldR h2 nx 0 8).bind fun l1330 =>
    (asAgg 8 (AV.agg l1330)).bind fun d1331 =>
    (asI .i64 (d1331.getD 0 .bad)).bind fun n1332 =>
    (asStr (d1331.getD 1 .bad)).bind fun s1333 =>
    (asStr (d1331.getD 2 .bad)).bind fun s1334 =>
    (asI .i64 (d1331.getD 3 .bad)).bind fun n1335 =>
    (asI .i64 (d1331.getD 4 .bad)).bind fun n1336 =>
    (asI .i64 (d1331.getD 5 .bad)).bind fun n1337 =>
    (asI .i64 (d1331.getD 6 .bad)).bind fun n1338 =>
    (asSl (d1331.getD 7 .bad)).bind fun s1339 =>
    ((callP Try.prog keepT n) Y 27 [(.ptr x0), (.slice s1313.1 s1313.2.1 s1313.2.2), (.agg [(.int .i64 n1332), (.str s1333), (.str s1334), (.int .i64 n1335), (.int .i64 n1336), (.int .i64 n1337), (.int .i64 n1338), (.slice s1339.1 s1339.2.1 s1339.2.2)])] h2 (nx + 45)).bind fun r1340 =>
    (asAgg 5 r1340.1).bind fun d1341 =>
    (asI .i64 (d1341.getD 0 .bad)).bind fun n1342 =>
    (asB (d1341.getD 1 .bad)).bind fun t1343 =>
    (asI .i64 (d1341.getD 2 .bad)).bind fun n1344 =>
    (asSl (d1341.getD 3 .bad)).bind fun s1345 =>
    (asSl (d1341.getD 4 .bad)).bind fun s1346 =>
    (stA r1340.2.1 (nx + 1) 0 (.agg [(.int .i64 n1342), (.bool t1343), (.int .i64 n1344), (.slice s1345.1 s1345.2.1 s1345.2.2), (.slice s1346.1 s1346.2.1 s1346.2.2)]) 5).bind fun b1347 =>
    let h1348 := AHeap.put r1340.2.1 (nx + 1) (some b1347)
    (ldR h1348 (nx + 1) 0 5).bind fun l1349 =>
    (asAgg 5 (AV.agg l1349)).bind fun d1350 =>
    (asI .i64 (d1350.getD 0 .bad)).bind fun n1351 =>
    (asB (d1350.getD 1 .bad)).bind fun t1352 =>
    (asI .i64 (d1350.getD 2 .bad)).bind fun n1353 =>
    (asSl (d1350.getD 3 .bad)).bind fun s1354 =>
    (asSl (d1350.getD 4 .bad)).bind fun s1355 =>
    some ((.agg [(.int .i64 n1351), (.bool t1352), (.int .i64 n1353), (.slice s1354.1 s1354.2.1 s1354.2.2), (.slice s1355.1 s1355.2.1 s1355.2.2)]), h1348, r1340.2.2)))
    else
    (if ((n4 : Int) == 12) = true then
    ((stA h2 (nx + 1) 0 (.agg [(.int .i64 0), (.bool false), (.int .i64 0), (.slice none 0 none), (.slice none 0 none)]) 5).bind fun b1356 =>
    let h1357 := AHeap.put h2 (nx + 1) (some b1356)
    (ldR h1357 (nx + 1) 0 5).bind fun l1358 =>
    (asAgg 5 (AV.agg l1358)).bind fun d1359 =>
    (asI .i64 (d1359.getD 0 .bad)).bind fun n1360 =>
    (asB (d1359.getD 1 .bad)).bind fun t1361 =>
    (asI .i64 (d1359.getD 2 .bad)).bind fun n1362 =>
    (asSl (d1359.getD 3 .bad)).bind fun s1363 =>
    (asSl (d1359.getD 4 .bad)).bind fun s1364 =>
    some ((.agg [(.int .i64 n1360), (.bool t1361), (.int .i64 n1362), (.slice s1363.1 s1363.2.1 s1363.2.2), (.slice s1364.1 s1364.2.1 s1364.2.2)]), h1357, (nx + 30)))
    else
    (((callP Try.prog keepT n) Y 23 [(.int .i64 3)] h2 (nx + 30)).bind fun r1365 =>
    (asAgg 5 r1365.1).bind fun d1366 =>
    (asI .i64 (d1366.getD 0 .bad)).bind fun n1367 =>
    (asB (d1366.getD 1 .bad)).bind fun t1368 =>
    (asI .i64 (d1366.getD 2 .bad)).bind fun n1369 =>
    (asSl (d1366.getD 3 .bad)).bind fun s1370 =>
    (asSl (d1366.getD 4 .bad)).bind fun s1371 =>
    (stA r1365.2.1 (nx + 1) 0 (.agg [(.int .i64 n1367), (.bool t1368), (.int .i64 n1369), (.slice s1370.1 s1370.2.1 s1370.2.2), (.slice s1371.1 s1371.2.1 s1371.2.2)]) 5).bind fun b1372 =>
    let h1373 := AHeap.put r1365.2.1 (nx + 1) (some b1372)
    (ldR h1373 (nx + 1) 0 5).bind fun l1374 =>
    (asAgg 5 (AV.agg l1374)).bind fun d1375 =>
    (asI .i64 (d1375.getD 0 .bad)).bind fun n1376 =>
    (asB (d1375.getD 1 .bad)).bind fun t1377 =>
    (asI .i64 (d1375.getD 2 .bad)).bind fun n1378 =>
    (asSl (d1375.getD 3 .bad)).bind fun s1379 =>
    (asSl (d1375.getD 4 .bad)).bind fun s1380 =>
    some ((.agg [(.int .i64 n1376), (.bool t1377), (.int .i64 n1378), (.slice s1379.1 s1379.2.1 s1379.2.2), (.slice s1380.1 s1380.2.1 s1380.2.2)]), h1373, r1365.2.2))))))))))))) := F21_eq' go1 n Y x0 x1_0 x1_1 x1_2 x1_3 x1_4 x1_5 x1_6 x1_7a x1_7n x1_7c h nx

noncomputable def c22 : Code := (Try.f22.body).getD .skip

noncomputable def r22 : List ResultVar := Try.f22.results.toList

theorem F22_eq' (J : StepF (AV × AHeap × Nat) → StepF (AV × AHeap × Nat)) (n : Nat) (Y : YldF) (x0 : Option Nat) (x1 : ByteArray) (x2 : Int) (h : AHeap) (nx : Nat) : rootJ J Try.prog keepT (callP Try.prog keepT n) Y n 22 [(.mapv x0), (.str x1), (.int .i64 x2)] h nx =
    (mapO h x0).bind fun es1 =>
    (findE x1 es1 0).bind fun o2 =>
    (asSl (valE (.slice none 0 none) o2)).bind fun s3 =>
    ((callP Try.prog keepT n) Y 28 [(.str x1)] h (nx + 13)).bind fun r4 =>
    (asB r4.1).bind fun t5 =>
    if (!t5) = true then
    (some ((.int .i64 4), r4.2.1, (r4.2.2 + 1)))
    else
    (if (hasE o2) = true then
    (some ((.int .i64 7), r4.2.1, (r4.2.2 + 3)))
    else
    ((mapO r4.2.1 x0).bind fun es6 =>
    if ((((es6.length : Nat) : Int) : Int) == x2) = true then
    (some ((.int .i64 8), r4.2.1, (r4.2.2 + 8)))
    else
    (some ((.int .i64 0), r4.2.1, (r4.2.2 + 8))))) := by kernel_rfl

/-- quickset/pool.room[quickset/pool.flat] -/
theorem F22_eq (n : Nat) (Y : YldF) (x0 : Option Nat) (x1 : ByteArray) (x2 : Int) (h : AHeap) (nx : Nat) : callP Try.prog keepT (n + 1) Y 22 [(.mapv x0), (.str x1), (.int .i64 x2)] h nx =
    (mapO h x0).bind fun es1 =>
    (findE x1 es1 0).bind fun o2 =>
    (asSl (valE (.slice none 0 none) o2)).bind fun s3 =>
    ((callP Try.prog keepT n) Y 28 [(.str x1)] h (nx + 13)).bind fun r4 =>
    (asB r4.1).bind fun t5 =>
    if (!t5) = true then
    (some ((.int .i64 4), r4.2.1, (r4.2.2 + 1)))
    else
    (if (hasE o2) = true then
    (some ((.int .i64 7), r4.2.1, (r4.2.2 + 3)))
    else
    ((mapO r4.2.1 x0).bind fun es6 =>
    if ((((es6.length : Nat) : Int) : Int) == x2) = true then
    (some ((.int .i64 8), r4.2.1, (r4.2.2 + 8)))
    else
    (some ((.int .i64 0), r4.2.1, (r4.2.2 + 8))))) := F22_eq' go1 n Y x0 x1 x2 h nx

noncomputable def c23 : Code := (Try.f23.body).getD .skip

noncomputable def r23 : List ResultVar := Try.f23.results.toList

theorem F23_eq' (J : StepF (AV × AHeap × Nat) → StepF (AV × AHeap × Nat)) (n : Nat) (Y : YldF) (x0 : Int) (h : AHeap) (nx : Nat) : rootJ J Try.prog keepT (callP Try.prog keepT n) Y n 23 [(.int .i64 x0)] h nx =
    let h1 := AHeap.put h nx (some ⟨[(.int .i64 0), (.bool false), (.int .i64 0), (.slice none 0 none), (.slice none 0 none)], 5, true⟩)
    (stA h1 nx 0 (.agg [(.int .i64 x0), (.bool false), (.int .i64 0), (.slice none 0 none), (.slice none 0 none)]) 5).bind fun b2 =>
    let h3 := AHeap.put h1 nx (some b2)
    (ldR h3 nx 0 5).bind fun l4 =>
    (asAgg 5 (AV.agg l4)).bind fun d5 =>
    (asI .i64 (d5.getD 0 .bad)).bind fun n6 =>
    (asB (d5.getD 1 .bad)).bind fun t7 =>
    (asI .i64 (d5.getD 2 .bad)).bind fun n8 =>
    (asSl (d5.getD 3 .bad)).bind fun s9 =>
    (asSl (d5.getD 4 .bad)).bind fun s10 =>
    some ((.agg [(.int .i64 n6), (.bool t7), (.int .i64 n8), (.slice s9.1 s9.2.1 s9.2.2), (.slice s10.1 s10.2.1 s10.2.2)]), h3, (nx + 4)) := by kernel_rfl

/-- quickset/pool.no -/
theorem F23_eq (n : Nat) (Y : YldF) (x0 : Int) (h : AHeap) (nx : Nat) : callP Try.prog keepT (n + 1) Y 23 [(.int .i64 x0)] h nx =
    let h1 := AHeap.put h nx (some ⟨[(.int .i64 0), (.bool false), (.int .i64 0), (.slice none 0 none), (.slice none 0 none)], 5, true⟩)
    (stA h1 nx 0 (.agg [(.int .i64 x0), (.bool false), (.int .i64 0), (.slice none 0 none), (.slice none 0 none)]) 5).bind fun b2 =>
    let h3 := AHeap.put h1 nx (some b2)
    (ldR h3 nx 0 5).bind fun l4 =>
    (asAgg 5 (AV.agg l4)).bind fun d5 =>
    (asI .i64 (d5.getD 0 .bad)).bind fun n6 =>
    (asB (d5.getD 1 .bad)).bind fun t7 =>
    (asI .i64 (d5.getD 2 .bad)).bind fun n8 =>
    (asSl (d5.getD 3 .bad)).bind fun s9 =>
    (asSl (d5.getD 4 .bad)).bind fun s10 =>
    some ((.agg [(.int .i64 n6), (.bool t7), (.int .i64 n8), (.slice s9.1 s9.2.1 s9.2.2), (.slice s10.1 s10.2.1 s10.2.2)]), h3, (nx + 4)) := F23_eq' go1 n Y x0 h nx

/-- quickset/pool.names[quickset/pool.flat], by its contract -/
theorem F24_eq (n : Nat) (Y : YldF) (args : List AV) (h : AHeap) (nx : Nat) : callP Try.prog keepT (n + 1) Y 24 args h nx = orcK [3] args h nx := by kernel_rfl

/-- quickset/pool.names[quickset/pool.Objects[quickset/pool.flat]], by its contract -/
theorem F25_eq (n : Nat) (Y : YldF) (args : List AV) (h : AHeap) (nx : Nat) : callP Try.prog keepT (n + 1) Y 25 args h nx = orcK [3] args h nx := by kernel_rfl

noncomputable def c26 : Code := (Try.f26.body).getD .skip

noncomputable def r26 : List ResultVar := Try.f26.results.toList

theorem F26_eq' (J : StepF (AV × AHeap × Nat) → StepF (AV × AHeap × Nat)) (n : Nat) (Y : YldF) (x0 : Option (Nat × Nat)) (x1_0 : Int) (x1_1 : ByteArray) (x1_2 : ByteArray) (x1_3 : Int) (x1_4 : Int) (x1_5 : Int) (x1_6 : Int) (x1_7a : Option (Nat × Nat)) (x1_7n : Nat) (x1_7c : Option Nat) (h : AHeap) (nx : Nat) : rootJ J Try.prog keepT (callP Try.prog keepT n) Y n 26 [(.ptr x0), (.agg [(.int .i64 x1_0), (.str x1_1), (.str x1_2), (.int .i64 x1_3), (.int .i64 x1_4), (.int .i64 x1_5), (.int .i64 x1_6), (.slice x1_7a x1_7n x1_7c)])] h nx =
    let h1 := AHeap.put h nx (some ⟨[(.int .i64 x1_0), (.str x1_1), (.str x1_2), (.int .i64 x1_3), (.int .i64 x1_4), (.int .i64 x1_5), (.int .i64 x1_6), (.slice x1_7a x1_7n x1_7c)], 8, true⟩)
    let h2 := AHeap.put h1 (nx + 1) (some ⟨[(.int .i64 0), (.bool false), (.int .i64 0), (.slice none 0 none), (.slice none 0 none)], 5, true⟩)
    (ldA h2 nx 0).bind fun v3 =>
    (asI .i64 v3).bind fun n4 =>
    if ((n4 : Int) == 7) = true then
    ((x0).bind fun p5 =>
    (ldA h2 p5.1 (p5.2 + 1)).bind fun v6 =>
    (asMp v6).bind fun m7 =>
    (ldA h2 nx 2).bind fun v8 =>
    (asStr v8).bind fun s9 =>
    ((callP Try.prog keepT n) Y 32 [(.mapv m7), (.str s9), (.int .i64 3)] h2 (nx + 13)).bind fun r10 =>
    (asI .i64 r10.1).bind fun n11 =>
    if ((n11 : Int) == 0) = true then
    ((x0).bind fun p12 =>
    (ldA r10.2.1 p12.1 (p12.2 + 1)).bind fun v13 =>
    (asMp v13).bind fun m14 =>
    (ldA r10.2.1 nx 2).bind fun v15 =>
    (asStr v15).bind fun s16 =>
    (x0).bind fun p17 =>
    (ldA r10.2.1 p17.1 p17.2).bind fun v18 =>
    (asMp v18).bind fun m19 =>
    ((callP Try.prog keepT n) Y 33 [(.mapv m19)] r10.2.1 (r10.2.2 + 14)).bind fun r20 =>
    (asMp r20.1).bind fun m21 =>
    (m14).bind fun i22 =>
    (mapD r20.2.1 i22).bind fun es23 =>
    (updE s16 (.mapv m21) es23).bind fun es24 =>
    let h25 := AHeap.put r20.2.1 i22 (some ⟨es24, MB, true⟩)
    ifKept [(r10.2.1, r20.2.1, [p12.1]), (r10.2.1, r20.2.1, [nx])]
    (((callP Try.prog keepT n) Y 23 [(.int .i64 n11)] h25 (r20.2.2 + 3)).bind fun r26 =>
    (asAgg 5 r26.1).bind fun d27 =>
    (asI .i64 (d27.getD 0 .bad)).bind fun n28 =>
    (asB (d27.getD 1 .bad)).bind fun t29 =>
    (asI .i64 (d27.getD 2 .bad)).bind fun n30 =>
    (asSl (d27.getD 3 .bad)).bind fun s31 =>
    (asSl (d27.getD 4 .bad)).bind fun s32 =>
    (stA r26.2.1 (nx + 1) 0 (.agg [(.int .i64 n28), (.bool t29), (.int .i64 n30), (.slice s31.1 s31.2.1 s31.2.2), (.slice s32.1 s32.2.1 s32.2.2)]) 5).bind fun b33 =>
    let h34 := AHeap.put r26.2.1 (nx + 1) (some b33)
    (ldR h34 (nx + 1) 0 5).bind fun l35 =>
    (asAgg 5 (AV.agg l35)).bind fun d36 =>
    (asI .i64 (d36.getD 0 .bad)).bind fun n37 =>
    (asB (d36.getD 1 .bad)).bind fun t38 =>
    (asI .i64 (d36.getD 2 .bad)).bind fun n39 =>
    (asSl (d36.getD 3 .bad)).bind fun s40 =>
    (asSl (d36.getD 4 .bad)).bind fun s41 =>
    some ((.agg [(.int .i64 n37), (.bool t38), (.int .i64 n39), (.slice s40.1 s40.2.1 s40.2.2), (.slice s41.1 s41.2.1 s41.2.2)]), h34, r26.2.2)))
    else
    (((callP Try.prog keepT n) Y 23 [(.int .i64 n11)] r10.2.1 (r10.2.2 + 5)).bind fun r42 =>
    (asAgg 5 r42.1).bind fun d43 =>
    (asI .i64 (d43.getD 0 .bad)).bind fun n44 =>
    (asB (d43.getD 1 .bad)).bind fun t45 =>
    (asI .i64 (d43.getD 2 .bad)).bind fun n46 =>
    (asSl (d43.getD 3 .bad)).bind fun s47 =>
    (asSl (d43.getD 4 .bad)).bind fun s48 =>
    (stA r42.2.1 (nx + 1) 0 (.agg [(.int .i64 n44), (.bool t45), (.int .i64 n46), (.slice s47.1 s47.2.1 s47.2.2), (.slice s48.1 s48.2.1 s48.2.2)]) 5).bind fun b49 =>
    let h50 := AHeap.put r42.2.1 (nx + 1) (some b49)
    (ldR h50 (nx + 1) 0 5).bind fun l51 =>
    (asAgg 5 (AV.agg l51)).bind fun d52 =>
    (asI .i64 (d52.getD 0 .bad)).bind fun n53 =>
    (asB (d52.getD 1 .bad)).bind fun t54 =>
    (asI .i64 (d52.getD 2 .bad)).bind fun n55 =>
    (asSl (d52.getD 3 .bad)).bind fun s56 =>
    (asSl (d52.getD 4 .bad)).bind fun s57 =>
    some ((.agg [(.int .i64 n53), (.bool t54), (.int .i64 n55), (.slice s56.1 s56.2.1 s56.2.2), (.slice s57.1 s57.2.1 s57.2.2)]), h50, r42.2.2)))
    else
    ((x0).bind fun p58 =>
    (ldA h2 p58.1 (p58.2 + 1)).bind fun v59 =>
    (asMp v59).bind fun m60 =>
    (ldA h2 nx 2).bind fun v61 =>
    (asStr v61).bind fun s62 =>
    (mapO h2 m60).bind fun es63 =>
    (findE s62 es63 0).bind fun o64 =>
    (asMp (valE (.mapv none) o64)).bind fun m65 =>
    if (!(hasE o64)) = true then
    (((callP Try.prog keepT n) Y 23 [(.int .i64 6)] h2 (nx + 21)).bind fun r66 =>
    (asAgg 5 r66.1).bind fun d67 =>
    (asI .i64 (d67.getD 0 .bad)).bind fun n68 =>
    (asB (d67.getD 1 .bad)).bind fun t69 =>
    (asI .i64 (d67.getD 2 .bad)).bind fun n70 =>
    (asSl (d67.getD 3 .bad)).bind fun s71 =>
    (asSl (d67.getD 4 .bad)).bind fun s72 =>
    (stA r66.2.1 (nx + 1) 0 (.agg [(.int .i64 n68), (.bool t69), (.int .i64 n70), (.slice s71.1 s71.2.1 s71.2.2), (.slice s72.1 s72.2.1 s72.2.2)]) 5).bind fun b73 =>
    let h74 := AHeap.put r66.2.1 (nx + 1) (some b73)
    (ldR h74 (nx + 1) 0 5).bind fun l75 =>
    (asAgg 5 (AV.agg l75)).bind fun d76 =>
    (asI .i64 (d76.getD 0 .bad)).bind fun n77 =>
    (asB (d76.getD 1 .bad)).bind fun t78 =>
    (asI .i64 (d76.getD 2 .bad)).bind fun n79 =>
    (asSl (d76.getD 3 .bad)).bind fun s80 =>
    (asSl (d76.getD 4 .bad)).bind fun s81 =>
    some ((.agg [(.int .i64 n77), (.bool t78), (.int .i64 n79), (.slice s80.1 s80.2.1 s80.2.2), (.slice s81.1 s81.2.1 s81.2.2)]), h74, r66.2.2))
    else
    ((ldA h2 nx 0).bind fun v82 =>
    (asI .i64 v82).bind fun n83 =>
    if ((n83 : Int) == 9) = true then
    (((callP Try.prog keepT n) Y 33 [(.mapv m65)] h2 (nx + 29)).bind fun r84 =>
    (asMp r84.1).bind fun m85 =>
    (x0).bind fun p86 =>
    (stA r84.2.1 p86.1 p86.2 (.mapv m85) 1).bind fun b87 =>
    let h88 := AHeap.put r84.2.1 p86.1 (some b87)
    (stA h88 (nx + 1) 0 (.agg [(.int .i64 0), (.bool false), (.int .i64 0), (.slice none 0 none), (.slice none 0 none)]) 5).bind fun b89 =>
    let h90 := AHeap.put h88 (nx + 1) (some b89)
    (ldR h90 (nx + 1) 0 5).bind fun l91 =>
    (asAgg 5 (AV.agg l91)).bind fun d92 =>
    (asI .i64 (d92.getD 0 .bad)).bind fun n93 =>
    (asB (d92.getD 1 .bad)).bind fun t94 =>
    (asI .i64 (d92.getD 2 .bad)).bind fun n95 =>
    (asSl (d92.getD 3 .bad)).bind fun s96 =>
    (asSl (d92.getD 4 .bad)).bind fun s97 =>
    some ((.agg [(.int .i64 n93), (.bool t94), (.int .i64 n95), (.slice s96.1 s96.2.1 s96.2.2), (.slice s97.1 s97.2.1 s97.2.2)]), h90, (r84.2.2 + 2)))
    else
    (if ((n83 : Int) == 10) = true then
    ((x0).bind fun p98 =>
    (ldA h2 p98.1 (p98.2 + 1)).bind fun v99 =>
    (asMp v99).bind fun m100 =>
    (ldA h2 nx 2).bind fun v101 =>
    (asStr v101).bind fun s102 =>
    (m100).bind fun i103 =>
    (mapD h2 i103).bind fun es104 =>
    (delE s102 es104).bind fun es105 =>
    let h106 := AHeap.put h2 i103 (some ⟨es105, MB, true⟩)
    (stA h106 (nx + 1) 0 (.agg [(.int .i64 0), (.bool false), (.int .i64 0), (.slice none 0 none), (.slice none 0 none)]) 5).bind fun b107 =>
    let h108 := AHeap.put h106 (nx + 1) (some b107)
    (ldR h108 (nx + 1) 0 5).bind fun l109 =>
    (asAgg 5 (AV.agg l109)).bind fun d110 =>
    (asI .i64 (d110.getD 0 .bad)).bind fun n111 =>
    (asB (d110.getD 1 .bad)).bind fun t112 =>
    (asI .i64 (d110.getD 2 .bad)).bind fun n113 =>
    (asSl (d110.getD 3 .bad)).bind fun s114 =>
    (asSl (d110.getD 4 .bad)).bind fun s115 =>
    some ((.agg [(.int .i64 n111), (.bool t112), (.int .i64 n113), (.slice s114.1 s114.2.1 s114.2.2), (.slice s115.1 s115.2.1 s115.2.2)]), h108, (nx + 34)))
    else
    (if ((n83 : Int) == 8) = true then
    ((ldA h2 nx 1).bind fun v116 =>
    (asStr v116).bind fun s117 =>
    (mapO h2 m65).bind fun es118 =>
    (findE s117 es118 0).bind fun o119 =>
    (asSl (valE (.slice none 0 none) o119)).bind fun s120 =>
    if (!(hasE o119)) = true then
    (((callP Try.prog keepT n) Y 23 [(.int .i64 6)] h2 (nx + 40)).bind fun r121 =>
    (asAgg 5 r121.1).bind fun d122 =>
    (asI .i64 (d122.getD 0 .bad)).bind fun n123 =>
    (asB (d122.getD 1 .bad)).bind fun t124 =>
    (asI .i64 (d122.getD 2 .bad)).bind fun n125 =>
    (asSl (d122.getD 3 .bad)).bind fun s126 =>
    (asSl (d122.getD 4 .bad)).bind fun s127 =>
    (stA r121.2.1 (nx + 1) 0 (.agg [(.int .i64 n123), (.bool t124), (.int .i64 n125), (.slice s126.1 s126.2.1 s126.2.2), (.slice s127.1 s127.2.1 s127.2.2)]) 5).bind fun b128 =>
    let h129 := AHeap.put r121.2.1 (nx + 1) (some b128)
    (ldR h129 (nx + 1) 0 5).bind fun l130 =>
    (asAgg 5 (AV.agg l130)).bind fun d131 =>
    (asI .i64 (d131.getD 0 .bad)).bind fun n132 =>
    (asB (d131.getD 1 .bad)).bind fun t133 =>
    (asI .i64 (d131.getD 2 .bad)).bind fun n134 =>
    (asSl (d131.getD 3 .bad)).bind fun s135 =>
    (asSl (d131.getD 4 .bad)).bind fun s136 =>
    some ((.agg [(.int .i64 n132), (.bool t133), (.int .i64 n134), (.slice s135.1 s135.2.1 s135.2.2), (.slice s136.1 s136.2.1 s136.2.2)]), h129, r121.2.2))
    else
    ((ldR h2 nx 0 8).bind fun l137 =>
    (asAgg 8 (AV.agg l137)).bind fun d138 =>
    (asI .i64 (d138.getD 0 .bad)).bind fun n139 =>
    (asStr (d138.getD 1 .bad)).bind fun s140 =>
    (asStr (d138.getD 2 .bad)).bind fun s141 =>
    (asI .i64 (d138.getD 3 .bad)).bind fun n142 =>
    (asI .i64 (d138.getD 4 .bad)).bind fun n143 =>
    (asI .i64 (d138.getD 5 .bad)).bind fun n144 =>
    (asI .i64 (d138.getD 6 .bad)).bind fun n145 =>
    (asSl (d138.getD 7 .bad)).bind fun s146 =>
    ((callP Try.prog keepT n) Y 34 [(.slice s120.1 s120.2.1 s120.2.2), (.agg [(.int .i64 n139), (.str s140), (.str s141), (.int .i64 n142), (.int .i64 n143), (.int .i64 n144), (.int .i64 n145), (.slice s146.1 s146.2.1 s146.2.2)])] h2 (nx + 42)).bind fun r147 =>
    (asAgg 5 r147.1).bind fun d148 =>
    (asI .i64 (d148.getD 0 .bad)).bind fun n149 =>
    (asB (d148.getD 1 .bad)).bind fun t150 =>
    (asI .i64 (d148.getD 2 .bad)).bind fun n151 =>
    (asSl (d148.getD 3 .bad)).bind fun s152 =>
    (asSl (d148.getD 4 .bad)).bind fun s153 =>
    (stA r147.2.1 (nx + 1) 0 (.agg [(.int .i64 n149), (.bool t150), (.int .i64 n151), (.slice s152.1 s152.2.1 s152.2.2), (.slice s153.1 s153.2.1 s153.2.2)]) 5).bind fun b154 =>
    let h155 := AHeap.put r147.2.1 (nx + 1) (some b154)
    (ldR h155 (nx + 1) 0 5).bind fun l156 =>
    (asAgg 5 (AV.agg l156)).bind fun d157 =>
    (asI .i64 (d157.getD 0 .bad)).bind fun n158 =>
    (asB (d157.getD 1 .bad)).bind fun t159 =>
    (asI .i64 (d157.getD 2 .bad)).bind fun n160 =>
    (asSl (d157.getD 3 .bad)).bind fun s161 =>
    (asSl (d157.getD 4 .bad)).bind fun s162 =>
    some ((.agg [(.int .i64 n158), (.bool t159), (.int .i64 n160), (.slice s161.1 s161.2.1 s161.2.2), (.slice s162.1 s162.2.1 s162.2.2)]), h155, r147.2.2)))
    else
    ((stA h2 (nx + 1) 0 (.agg [(.int .i64 0), (.bool false), (.int .i64 0), (.slice none 0 none), (.slice none 0 none)]) 5).bind fun b163 =>
    let h164 := AHeap.put h2 (nx + 1) (some b163)
    (ldR h164 (nx + 1) 0 5).bind fun l165 =>
    (asAgg 5 (AV.agg l165)).bind fun d166 =>
    (asI .i64 (d166.getD 0 .bad)).bind fun n167 =>
    (asB (d166.getD 1 .bad)).bind fun t168 =>
    (asI .i64 (d166.getD 2 .bad)).bind fun n169 =>
    (asSl (d166.getD 3 .bad)).bind fun s170 =>
    (asSl (d166.getD 4 .bad)).bind fun s171 =>
    some ((.agg [(.int .i64 n167), (.bool t168), (.int .i64 n169), (.slice s170.1 s170.2.1 s170.2.2), (.slice s171.1 s171.2.1 s171.2.2)]), h164, (nx + 29))))))) := by kernel_rfl

/-- (*quickset/pool.State[quickset/pool.flat]).snap -/
theorem F26_eq (n : Nat) (Y : YldF) (x0 : Option (Nat × Nat)) (x1_0 : Int) (x1_1 : ByteArray) (x1_2 : ByteArray) (x1_3 : Int) (x1_4 : Int) (x1_5 : Int) (x1_6 : Int) (x1_7a : Option (Nat × Nat)) (x1_7n : Nat) (x1_7c : Option Nat) (h : AHeap) (nx : Nat) : callP Try.prog keepT (n + 1) Y 26 [(.ptr x0), (.agg [(.int .i64 x1_0), (.str x1_1), (.str x1_2), (.int .i64 x1_3), (.int .i64 x1_4), (.int .i64 x1_5), (.int .i64 x1_6), (.slice x1_7a x1_7n x1_7c)])] h nx =
    let h1 := AHeap.put h nx (some ⟨[(.int .i64 x1_0), (.str x1_1), (.str x1_2), (.int .i64 x1_3), (.int .i64 x1_4), (.int .i64 x1_5), (.int .i64 x1_6), (.slice x1_7a x1_7n x1_7c)], 8, true⟩)
    let h2 := AHeap.put h1 (nx + 1) (some ⟨[(.int .i64 0), (.bool false), (.int .i64 0), (.slice none 0 none), (.slice none 0 none)], 5, true⟩)
    (ldA h2 nx 0).bind fun v3 =>
    (asI .i64 v3).bind fun n4 =>
    if ((n4 : Int) == 7) = true then
    ((x0).bind fun p5 =>
    (ldA h2 p5.1 (p5.2 + 1)).bind fun v6 =>
    (asMp v6).bind fun m7 =>
    (ldA h2 nx 2).bind fun v8 =>
    (asStr v8).bind fun s9 =>
    ((callP Try.prog keepT n) Y 32 [(.mapv m7), (.str s9), (.int .i64 3)] h2 (nx + 13)).bind fun r10 =>
    (asI .i64 r10.1).bind fun n11 =>
    if ((n11 : Int) == 0) = true then
    ((x0).bind fun p12 =>
    (ldA r10.2.1 p12.1 (p12.2 + 1)).bind fun v13 =>
    (asMp v13).bind fun m14 =>
    (ldA r10.2.1 nx 2).bind fun v15 =>
    (asStr v15).bind fun s16 =>
    (x0).bind fun p17 =>
    (ldA r10.2.1 p17.1 p17.2).bind fun v18 =>
    (asMp v18).bind fun m19 =>
    ((callP Try.prog keepT n) Y 33 [(.mapv m19)] r10.2.1 (r10.2.2 + 14)).bind fun r20 =>
    (asMp r20.1).bind fun m21 =>
    (m14).bind fun i22 =>
    (mapD r20.2.1 i22).bind fun es23 =>
    (updE s16 (.mapv m21) es23).bind fun es24 =>
    let h25 := AHeap.put r20.2.1 i22 (some ⟨es24, MB, true⟩)
    ifKept [(r10.2.1, r20.2.1, [p12.1]), (r10.2.1, r20.2.1, [nx])]
    (((callP Try.prog keepT n) Y 23 [(.int .i64 n11)] h25 (r20.2.2 + 3)).bind fun r26 =>
    (asAgg 5 r26.1).bind fun d27 =>
    (asI .i64 (d27.getD 0 .bad)).bind fun n28 =>
    (asB (d27.getD 1 .bad)).bind fun t29 =>
    (asI .i64 (d27.getD 2 .bad)).bind fun n30 =>
    (asSl (d27.getD 3 .bad)).bind fun s31 =>
    (asSl (d27.getD 4 .bad)).bind fun s32 =>
    (stA r26.2.1 (nx + 1) 0 (.agg [(.int .i64 n28), (.bool t29), (.int .i64 n30), (.slice s31.1 s31.2.1 s31.2.2), (.slice s32.1 s32.2.1 s32.2.2)]) 5).bind fun b33 =>
    let h34 := AHeap.put r26.2.1 (nx + 1) (some b33)
    (ldR h34 (nx + 1) 0 5).bind fun l35 =>
    (asAgg 5 (AV.agg l35)).bind fun d36 =>
    (asI .i64 (d36.getD 0 .bad)).bind fun n37 =>
    (asB (d36.getD 1 .bad)).bind fun t38 =>
    (asI .i64 (d36.getD 2 .bad)).bind fun n39 =>
    (asSl (d36.getD 3 .bad)).bind fun s40 =>
    (asSl (d36.getD 4 .bad)).bind fun s41 =>
    some ((.agg [(.int .i64 n37), (.bool t38), (.int .i64 n39), (.slice s40.1 s40.2.1 s40.2.2), (.slice s41.1 s41.2.1 s41.2.2)]), h34, r26.2.2)))
    else
    (((callP Try.prog keepT n) Y 23 [(.int .i64 n11)] r10.2.1 (r10.2.2 + 5)).bind fun r42 =>
    (asAgg 5 r42.1).bind fun d43 =>
    (asI .i64 (d43.getD 0 .bad)).bind fun n44 =>
    (asB (d43.getD 1 .bad)).bind fun t45 =>
    (asI .i64 (d43.getD 2 .bad)).bind fun n46 =>
    (asSl (d43.getD 3 .bad)).bind fun s47 =>
    (asSl (d43.getD 4 .bad)).bind fun s48 =>
    (stA r42.2.1 (nx + 1) 0 (.agg [(.int .i64 n44), (.bool t45), (.int .i64 n46), (.slice s47.1 s47.2.1 s47.2.2), (.slice s48.1 s48.2.1 s48.2.2)]) 5).bind fun b49 =>
    let h50 := AHeap.put r42.2.1 (nx + 1) (some b49)
    (ldR h50 (nx + 1) 0 5).bind fun l51 =>
    (asAgg 5 (AV.agg l51)).bind fun d52 =>
    (asI .i64 (d52.getD 0 .bad)).bind fun n53 =>
    (asB (d52.getD 1 .bad)).bind fun t54 =>
    (asI .i64 (d52.getD 2 .bad)).bind fun n55 =>
    (asSl (d52.getD 3 .bad)).bind fun s56 =>
    (asSl (d52.getD 4 .bad)).bind fun s57 =>
    some ((.agg [(.int .i64 n53), (.bool t54), (.int .i64 n55), (.slice s56.1 s56.2.1 s56.2.2), (.slice s57.1 s57.2.1 s57.2.2)]), h50, r42.2.2)))
    else
    ((x0).bind fun p58 =>
    (ldA h2 p58.1 (p58.2 + 1)).bind fun v59 =>
    (asMp v59).bind fun m60 =>
    (ldA h2 nx 2).bind fun v61 =>
    (asStr v61).bind fun s62 =>
    (mapO h2 m60).bind fun es63 =>
    (findE s62 es63 0).bind fun o64 =>
    (asMp (valE (.mapv none) o64)).bind fun m65 =>
    if (!(hasE o64)) = true then
    (((callP Try.prog keepT n) Y 23 [(.int .i64 6)] h2 (nx + 21)).bind fun r66 =>
    (asAgg 5 r66.1).bind fun d67 =>
    (asI .i64 (d67.getD 0 .bad)).bind fun n68 =>
    (asB (d67.getD 1 .bad)).bind fun t69 =>
    (asI .i64 (d67.getD 2 .bad)).bind fun n70 =>
    (asSl (d67.getD 3 .bad)).bind fun s71 =>
    (asSl (d67.getD 4 .bad)).bind fun s72 =>
    (stA r66.2.1 (nx + 1) 0 (.agg [(.int .i64 n68), (.bool t69), (.int .i64 n70), (.slice s71.1 s71.2.1 s71.2.2), (.slice s72.1 s72.2.1 s72.2.2)]) 5).bind fun b73 =>
    let h74 := AHeap.put r66.2.1 (nx + 1) (some b73)
    (ldR h74 (nx + 1) 0 5).bind fun l75 =>
    (asAgg 5 (AV.agg l75)).bind fun d76 =>
    (asI .i64 (d76.getD 0 .bad)).bind fun n77 =>
    (asB (d76.getD 1 .bad)).bind fun t78 =>
    (asI .i64 (d76.getD 2 .bad)).bind fun n79 =>
    (asSl (d76.getD 3 .bad)).bind fun s80 =>
    (asSl (d76.getD 4 .bad)).bind fun s81 =>
    some ((.agg [(.int .i64 n77), (.bool t78), (.int .i64 n79), (.slice s80.1 s80.2.1 s80.2.2), (.slice s81.1 s81.2.1 s81.2.2)]), h74, r66.2.2))
    else
    ((ldA h2 nx 0).bind fun v82 =>
    (asI .i64 v82).bind fun n83 =>
    if ((n83 : Int) == 9) = true then
    (((callP Try.prog keepT n) Y 33 [(.mapv m65)] h2 (nx + 29)).bind fun r84 =>
    (asMp r84.1).bind fun m85 =>
    (x0).bind fun p86 =>
    (stA r84.2.1 p86.1 p86.2 (.mapv m85) 1).bind fun b87 =>
    let h88 := AHeap.put r84.2.1 p86.1 (some b87)
    (stA h88 (nx + 1) 0 (.agg [(.int .i64 0), (.bool false), (.int .i64 0), (.slice none 0 none), (.slice none 0 none)]) 5).bind fun b89 =>
    let h90 := AHeap.put h88 (nx + 1) (some b89)
    (ldR h90 (nx + 1) 0 5).bind fun l91 =>
    (asAgg 5 (AV.agg l91)).bind fun d92 =>
    (asI .i64 (d92.getD 0 .bad)).bind fun n93 =>
    (asB (d92.getD 1 .bad)).bind fun t94 =>
    (asI .i64 (d92.getD 2 .bad)).bind fun n95 =>
    (asSl (d92.getD 3 .bad)).bind fun s96 =>
    (asSl (d92.getD 4 .bad)).bind fun s97 =>
    some ((.agg [(.int .i64 n93), (.bool t94), (.int .i64 n95), (.slice s96.1 s96.2.1 s96.2.2), (.slice s97.1 s97.2.1 s97.2.2)]), h90, (r84.2.2 + 2)))
    else
    (if ((n83 : Int) == 10) = true then
    ((x0).bind fun p98 =>
    (ldA h2 p98.1 (p98.2 + 1)).bind fun v99 =>
    (asMp v99).bind fun m100 =>
    (ldA h2 nx 2).bind fun v101 =>
    (asStr v101).bind fun s102 =>
    (m100).bind fun i103 =>
    (mapD h2 i103).bind fun es104 =>
    (delE s102 es104).bind fun es105 =>
    let h106 := AHeap.put h2 i103 (some ⟨es105, MB, true⟩)
    (stA h106 (nx + 1) 0 (.agg [(.int .i64 0), (.bool false), (.int .i64 0), (.slice none 0 none), (.slice none 0 none)]) 5).bind fun b107 =>
    let h108 := AHeap.put h106 (nx + 1) (some b107)
    (ldR h108 (nx + 1) 0 5).bind fun l109 =>
    (asAgg 5 (AV.agg l109)).bind fun d110 =>
    (asI .i64 (d110.getD 0 .bad)).bind fun n111 =>
    (asB (d110.getD 1 .bad)).bind fun t112 =>
    (asI .i64 (d110.getD 2 .bad)).bind fun n113 =>
    (asSl (d110.getD 3 .bad)).bind fun s114 =>
    (asSl (d110.getD 4 .bad)).bind fun s115 =>
    some ((.agg [(.int .i64 n111), (.bool t112), (.int .i64 n113), (.slice s114.1 s114.2.1 s114.2.2), (.slice s115.1 s115.2.1 s115.2.2)]), h108, (nx + 34)))
    else
    (if ((n83 : Int) == 8) = true then
    ((ldA h2 nx 1).bind fun v116 =>
    (asStr v116).bind fun s117 =>
    (mapO h2 m65).bind fun es118 =>
    (findE s117 es118 0).bind fun o119 =>
    (asSl (valE (.slice none 0 none) o119)).bind fun s120 =>
    if (!(hasE o119)) = true then
    (((callP Try.prog keepT n) Y 23 [(.int .i64 6)] h2 (nx + 40)).bind fun r121 =>
    (asAgg 5 r121.1).bind fun d122 =>
    (asI .i64 (d122.getD 0 .bad)).bind fun n123 =>
    (asB (d122.getD 1 .bad)).bind fun t124 =>
    (asI .i64 (d122.getD 2 .bad)).bind fun n125 =>
    (asSl (d122.getD 3 .bad)).bind fun s126 =>
    (asSl (d122.getD 4 .bad)).bind fun s127 =>
    (stA r121.2.1 (nx + 1) 0 (.agg [(.int .i64 n123), (.bool t124), (.int .i64 n125), (.slice s126.1 s126.2.1 s126.2.2), (.slice s127.1 s127.2.1 s127.2.2)]) 5).bind fun b128 =>
    let h129 := AHeap.put r121.2.1 (nx + 1) (some b128)
    (ldR h129 (nx + 1) 0 5).bind fun l130 =>
    (asAgg 5 (AV.agg l130)).bind fun d131 =>
    (asI .i64 (d131.getD 0 .bad)).bind fun n132 =>
    (asB (d131.getD 1 .bad)).bind fun t133 =>
    (asI .i64 (d131.getD 2 .bad)).bind fun n134 =>
    (asSl (d131.getD 3 .bad)).bind fun s135 =>
    (asSl (d131.getD 4 .bad)).bind fun s136 =>
    some ((.agg [(.int .i64 n132), (.bool t133), (.int .i64 n134), (.slice s135.1 s135.2.1 s135.2.2), (.slice s136.1 s136.2.1 s136.2.2)]), h129, r121.2.2))
    else
    ((ldR h2 nx 0 8).bind fun l137 =>
    (asAgg 8 (AV.agg l137)).bind fun d138 =>
    (asI .i64 (d138.getD 0 .bad)).bind fun n139 =>
    (asStr (d138.getD 1 .bad)).bind fun s140 =>
    (asStr (d138.getD 2 .bad)).bind fun s141 =>
    (asI .i64 (d138.getD 3 .bad)).bind fun n142 =>
    (asI .i64 (d138.getD 4 .bad)).bind fun n143 =>
    (asI .i64 (d138.getD 5 .bad)).bind fun n144 =>
    (asI .i64 (d138.getD 6 .bad)).bind fun n145 =>
    (asSl (d138.getD 7 .bad)).bind fun s146 =>
    ((callP Try.prog keepT n) Y 34 [(.slice s120.1 s120.2.1 s120.2.2), (.agg [(.int .i64 n139), (.str s140), (.str s141), (.int .i64 n142), (.int .i64 n143), (.int .i64 n144), (.int .i64 n145), (.slice s146.1 s146.2.1 s146.2.2)])] h2 (nx + 42)).bind fun r147 =>
    (asAgg 5 r147.1).bind fun d148 =>
    (asI .i64 (d148.getD 0 .bad)).bind fun n149 =>
    (asB (d148.getD 1 .bad)).bind fun t150 =>
    (asI .i64 (d148.getD 2 .bad)).bind fun n151 =>
    (asSl (d148.getD 3 .bad)).bind fun s152 =>
    (asSl (d148.getD 4 .bad)).bind fun s153 =>
    (stA r147.2.1 (nx + 1) 0 (.agg [(.int .i64 n149), (.bool t150), (.int .i64 n151), (.slice s152.1 s152.2.1 s152.2.2), (.slice s153.1 s153.2.1 s153.2.2)]) 5).bind fun b154 =>
    let h155 := AHeap.put r147.2.1 (nx + 1) (some b154)
    (ldR h155 (nx + 1) 0 5).bind fun l156 =>
    (asAgg 5 (AV.agg l156)).bind fun d157 =>
    (asI .i64 (d157.getD 0 .bad)).bind fun n158 =>
    (asB (d157.getD 1 .bad)).bind fun t159 =>
    (asI .i64 (d157.getD 2 .bad)).bind fun n160 =>
    (asSl (d157.getD 3 .bad)).bind fun s161 =>
    (asSl (d157.getD 4 .bad)).bind fun s162 =>
    some ((.agg [(.int .i64 n158), (.bool t159), (.int .i64 n160), (.slice s161.1 s161.2.1 s161.2.2), (.slice s162.1 s162.2.1 s162.2.2)]), h155, r147.2.2)))
    else
    ((stA h2 (nx + 1) 0 (.agg [(.int .i64 0), (.bool false), (.int .i64 0), (.slice none 0 none), (.slice none 0 none)]) 5).bind fun b163 =>
    let h164 := AHeap.put h2 (nx + 1) (some b163)
    (ldR h164 (nx + 1) 0 5).bind fun l165 =>
    (asAgg 5 (AV.agg l165)).bind fun d166 =>
    (asI .i64 (d166.getD 0 .bad)).bind fun n167 =>
    (asB (d166.getD 1 .bad)).bind fun t168 =>
    (asI .i64 (d166.getD 2 .bad)).bind fun n169 =>
    (asSl (d166.getD 3 .bad)).bind fun s170 =>
    (asSl (d166.getD 4 .bad)).bind fun s171 =>
    some ((.agg [(.int .i64 n167), (.bool t168), (.int .i64 n169), (.slice s170.1 s170.2.1 s170.2.2), (.slice s171.1 s171.2.1 s171.2.2)]), h164, (nx + 29))))))) := F26_eq' go1 n Y x0 x1_0 x1_1 x1_2 x1_3 x1_4 x1_5 x1_6 x1_7a x1_7n x1_7c h nx

end Go.Proofs.Ytncmdbpoceilgaa.T
