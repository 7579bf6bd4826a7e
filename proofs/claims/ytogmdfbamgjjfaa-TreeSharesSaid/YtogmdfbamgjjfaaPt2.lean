/- Printed by mp.py: functions of the program as plain Lean, each by the kernel. -/
import Derived.Test.YtogmdfbamgjjfaaPt1
set_option linter.unusedVariables false
set_option linter.unusedSimpArgs false
namespace Go.Proofs.Ytogmdfbamgjjfaa.T
open Go Go.RowKit Go.Proofs
set_option maxRecDepth 100000

noncomputable def c20 : Code := (Try.f20.body).getD .skip

noncomputable def r20 : List ResultVar := Try.f20.results.toList

noncomputable def F20_J1' (W J : StepF (AV × AHeap × Nat) → StepF (AV × AHeap × Nat)) (call : YldF → CallF) (Y : YldF) (lf : Nat) (x0 : Option (Nat × Nat)) (x3 : Option (Nat × Nat)) (x4 : Option (Nat × Nat)) (h : AHeap) (nx : Nat) : Option (AV × AHeap × Nat) :=
  goK W J drawK (machOf Try.prog) call Y (keepT 20) lf c20 [1, 1] [] (retK (machOf Try.prog) ⟨c20, 125, r20, keepT 20⟩) ⟨125, mkL [(0, (.ptr x0)), (3, (.ptr x3)), (4, (.ptr x4))]⟩ h nx

noncomputable def F20_J1 (call : YldF → CallF) (Y : YldF) (lf : Nat) (x0 : Option (Nat × Nat)) (x3 : Option (Nat × Nat)) (x4 : Option (Nat × Nat)) (h : AHeap) (nx : Nat) : Option (AV × AHeap × Nat) := F20_J1' go1 go1 call Y lf x0 x3 x4 h nx

noncomputable def F20_J2' (W J : StepF (AV × AHeap × Nat) → StepF (AV × AHeap × Nat)) (call : YldF → CallF) (Y : YldF) (lf : Nat) (x0 : Option (Nat × Nat)) (x3 : Option (Nat × Nat)) (x4 : Option (Nat × Nat)) (h : AHeap) (nx : Nat) : Option (AV × AHeap × Nat) :=
  goK W J drawK (machOf Try.prog) call Y (keepT 20) lf c20 [1, 1, 1] [] (retK (machOf Try.prog) ⟨c20, 125, r20, keepT 20⟩) ⟨125, mkL [(0, (.ptr x0)), (3, (.ptr x3)), (4, (.ptr x4))]⟩ h nx

noncomputable def F20_J2 (call : YldF → CallF) (Y : YldF) (lf : Nat) (x0 : Option (Nat × Nat)) (x3 : Option (Nat × Nat)) (x4 : Option (Nat × Nat)) (h : AHeap) (nx : Nat) : Option (AV × AHeap × Nat) := F20_J2' go1 go1 call Y lf x0 x3 x4 h nx

noncomputable def F20_J3' (W J : StepF (AV × AHeap × Nat) → StepF (AV × AHeap × Nat)) (call : YldF → CallF) (Y : YldF) (lf : Nat) (x0 : Option (Nat × Nat)) (x3 : Option (Nat × Nat)) (x4 : Option (Nat × Nat)) (x5 : Option (Nat × Nat)) (h : AHeap) (nx : Nat) : Option (AV × AHeap × Nat) :=
  goK W J drawK (machOf Try.prog) call Y (keepT 20) lf c20 [1, 1, 1, 1, 0, 1, 0, 1, 0, 1, 1] [] (retK (machOf Try.prog) ⟨c20, 125, r20, keepT 20⟩) ⟨125, mkL [(0, (.ptr x0)), (3, (.ptr x3)), (4, (.ptr x4)), (5, (.ptr x5))]⟩ h nx

noncomputable def F20_J3 (call : YldF → CallF) (Y : YldF) (lf : Nat) (x0 : Option (Nat × Nat)) (x3 : Option (Nat × Nat)) (x4 : Option (Nat × Nat)) (x5 : Option (Nat × Nat)) (h : AHeap) (nx : Nat) : Option (AV × AHeap × Nat) := F20_J3' go1 go1 call Y lf x0 x3 x4 x5 h nx

noncomputable def F20_J4' (W J : StepF (AV × AHeap × Nat) → StepF (AV × AHeap × Nat)) (call : YldF → CallF) (Y : YldF) (lf : Nat) (x0 : Option (Nat × Nat)) (x3 : Option (Nat × Nat)) (x4 : Option (Nat × Nat)) (x5 : Option (Nat × Nat)) (h : AHeap) (nx : Nat) : Option (AV × AHeap × Nat) :=
  goK W J drawK (machOf Try.prog) call Y (keepT 20) lf c20 [1, 1, 1, 1, 0, 1, 0, 1, 1, 1, 0, 1] [] (retK (machOf Try.prog) ⟨c20, 125, r20, keepT 20⟩) ⟨125, mkL [(0, (.ptr x0)), (3, (.ptr x3)), (4, (.ptr x4)), (5, (.ptr x5))]⟩ h nx

noncomputable def F20_J4 (call : YldF → CallF) (Y : YldF) (lf : Nat) (x0 : Option (Nat × Nat)) (x3 : Option (Nat × Nat)) (x4 : Option (Nat × Nat)) (x5 : Option (Nat × Nat)) (h : AHeap) (nx : Nat) : Option (AV × AHeap × Nat) := F20_J4' go1 go1 call Y lf x0 x3 x4 x5 h nx

noncomputable def F20_J5' (W J : StepF (AV × AHeap × Nat) → StepF (AV × AHeap × Nat)) (call : YldF → CallF) (Y : YldF) (lf : Nat) (x3 : Option (Nat × Nat)) (x4 : Option (Nat × Nat)) (x5 : Option (Nat × Nat)) (h : AHeap) (nx : Nat) : Option (AV × AHeap × Nat) :=
  goK W J drawK (machOf Try.prog) call Y (keepT 20) lf c20 [1, 1, 1, 1, 1, 1] [] (retK (machOf Try.prog) ⟨c20, 125, r20, keepT 20⟩) ⟨125, mkL [(3, (.ptr x3)), (4, (.ptr x4)), (5, (.ptr x5))]⟩ h nx

noncomputable def F20_J5 (call : YldF → CallF) (Y : YldF) (lf : Nat) (x3 : Option (Nat × Nat)) (x4 : Option (Nat × Nat)) (x5 : Option (Nat × Nat)) (h : AHeap) (nx : Nat) : Option (AV × AHeap × Nat) := F20_J5' go1 go1 call Y lf x3 x4 x5 h nx

theorem F20_J1_eq' (J : StepF (AV × AHeap × Nat) → StepF (AV × AHeap × Nat)) (call : YldF → CallF) (Y : YldF) (lf : Nat) (x0 : Option (Nat × Nat)) (x3 : Option (Nat × Nat)) (x4 : Option (Nat × Nat)) (h : AHeap) (nx : Nat) : F20_J1' go1 J call Y lf x0 x3 x4 h nx =
    (x3).bind fun p1 =>
    (ldA h p1.1 (p1.2 + 1)).bind fun v2 =>
    (asI .i64 v2).bind fun n3 =>
    if (decide ((n3 : Int) < 0)) = true then
    ((call Y 21 [(.int .i64 2)] h (nx + 15)).bind fun r4 =>
    (asAgg 4 r4.1).bind fun d5 =>
    (asI .i64 (d5.getD 0 .bad)).bind fun n6 =>
    (asI .i64 (d5.getD 1 .bad)).bind fun n7 =>
    (asI .i64 (d5.getD 2 .bad)).bind fun n8 =>
    (asSl (d5.getD 3 .bad)).bind fun s9 =>
    (x4).bind fun p10 =>
    (stA r4.2.1 p10.1 p10.2 (.agg [(.int .i64 n6), (.int .i64 n7), (.int .i64 n8), (.slice s9.1 s9.2.1 s9.2.2)]) 4).bind fun b11 =>
    let h12 := AHeap.put r4.2.1 p10.1 (some b11)
    (x4).bind fun p13 =>
    (ldR h12 p13.1 p13.2 4).bind fun l14 =>
    (asAgg 4 (AV.agg l14)).bind fun d15 =>
    (asI .i64 (d15.getD 0 .bad)).bind fun n16 =>
    (asI .i64 (d15.getD 1 .bad)).bind fun n17 =>
    (asI .i64 (d15.getD 2 .bad)).bind fun n18 =>
    (asSl (d15.getD 3 .bad)).bind fun s19 =>
    some ((.agg [(.int .i64 n16), (.int .i64 n17), (.int .i64 n18), (.slice s19.1 s19.2.1 s19.2.2)]), h12, r4.2.2))
    else
    ((x3).bind fun p20 =>
    (ldA h p20.1 (p20.2 + 1)).bind fun v21 =>
    (asI .i64 v21).bind fun n22 =>
    (x0).bind fun p23 =>
    (ldA h p23.1 p23.2).bind fun v24 =>
    (asSl v24).bind fun s25 =>
    if (decide ((n22 : Int) ≥ ((s25.2.1 : Nat) : Int))) = true then
    ((call Y 21 [(.int .i64 2)] h (nx + 15)).bind fun r26 =>
    (asAgg 4 r26.1).bind fun d27 =>
    (asI .i64 (d27.getD 0 .bad)).bind fun n28 =>
    (asI .i64 (d27.getD 1 .bad)).bind fun n29 =>
    (asI .i64 (d27.getD 2 .bad)).bind fun n30 =>
    (asSl (d27.getD 3 .bad)).bind fun s31 =>
    (x4).bind fun p32 =>
    (stA r26.2.1 p32.1 p32.2 (.agg [(.int .i64 n28), (.int .i64 n29), (.int .i64 n30), (.slice s31.1 s31.2.1 s31.2.2)]) 4).bind fun b33 =>
    let h34 := AHeap.put r26.2.1 p32.1 (some b33)
    (x4).bind fun p35 =>
    (ldR h34 p35.1 p35.2 4).bind fun l36 =>
    (asAgg 4 (AV.agg l36)).bind fun d37 =>
    (asI .i64 (d37.getD 0 .bad)).bind fun n38 =>
    (asI .i64 (d37.getD 1 .bad)).bind fun n39 =>
    (asI .i64 (d37.getD 2 .bad)).bind fun n40 =>
    (asSl (d37.getD 3 .bad)).bind fun s41 =>
    some ((.agg [(.int .i64 n38), (.int .i64 n39), (.int .i64 n40), (.slice s41.1 s41.2.1 s41.2.2)]), h34, r26.2.2))
    else
    (F20_J2' J J call Y lf x0 x3 x4 h (nx + 13))) := by kernel_rfl

theorem F20_J1_eq (call : YldF → CallF) (Y : YldF) (lf : Nat) (x0 : Option (Nat × Nat)) (x3 : Option (Nat × Nat)) (x4 : Option (Nat × Nat)) (h : AHeap) (nx : Nat) : F20_J1 call Y lf x0 x3 x4 h nx =
    (x3).bind fun p1 =>
    (ldA h p1.1 (p1.2 + 1)).bind fun v2 =>
    (asI .i64 v2).bind fun n3 =>
    if (decide ((n3 : Int) < 0)) = true then
    ((call Y 21 [(.int .i64 2)] h (nx + 15)).bind fun r4 =>
    (asAgg 4 r4.1).bind fun d5 =>
    (asI .i64 (d5.getD 0 .bad)).bind fun n6 =>
    (asI .i64 (d5.getD 1 .bad)).bind fun n7 =>
    (asI .i64 (d5.getD 2 .bad)).bind fun n8 =>
    (asSl (d5.getD 3 .bad)).bind fun s9 =>
    (x4).bind fun p10 =>
    (stA r4.2.1 p10.1 p10.2 (.agg [(.int .i64 n6), (.int .i64 n7), (.int .i64 n8), (.slice s9.1 s9.2.1 s9.2.2)]) 4).bind fun b11 =>
    let h12 := AHeap.put r4.2.1 p10.1 (some b11)
    (x4).bind fun p13 =>
    (ldR h12 p13.1 p13.2 4).bind fun l14 =>
    (asAgg 4 (AV.agg l14)).bind fun d15 =>
    (asI .i64 (d15.getD 0 .bad)).bind fun n16 =>
    (asI .i64 (d15.getD 1 .bad)).bind fun n17 =>
    (asI .i64 (d15.getD 2 .bad)).bind fun n18 =>
    (asSl (d15.getD 3 .bad)).bind fun s19 =>
    some ((.agg [(.int .i64 n16), (.int .i64 n17), (.int .i64 n18), (.slice s19.1 s19.2.1 s19.2.2)]), h12, r4.2.2))
    else
    ((x3).bind fun p20 =>
    (ldA h p20.1 (p20.2 + 1)).bind fun v21 =>
    (asI .i64 v21).bind fun n22 =>
    (x0).bind fun p23 =>
    (ldA h p23.1 p23.2).bind fun v24 =>
    (asSl v24).bind fun s25 =>
    if (decide ((n22 : Int) ≥ ((s25.2.1 : Nat) : Int))) = true then
    ((call Y 21 [(.int .i64 2)] h (nx + 15)).bind fun r26 =>
    (asAgg 4 r26.1).bind fun d27 =>
    (asI .i64 (d27.getD 0 .bad)).bind fun n28 =>
    (asI .i64 (d27.getD 1 .bad)).bind fun n29 =>
    (asI .i64 (d27.getD 2 .bad)).bind fun n30 =>
    (asSl (d27.getD 3 .bad)).bind fun s31 =>
    (x4).bind fun p32 =>
    (stA r26.2.1 p32.1 p32.2 (.agg [(.int .i64 n28), (.int .i64 n29), (.int .i64 n30), (.slice s31.1 s31.2.1 s31.2.2)]) 4).bind fun b33 =>
    let h34 := AHeap.put r26.2.1 p32.1 (some b33)
    (x4).bind fun p35 =>
    (ldR h34 p35.1 p35.2 4).bind fun l36 =>
    (asAgg 4 (AV.agg l36)).bind fun d37 =>
    (asI .i64 (d37.getD 0 .bad)).bind fun n38 =>
    (asI .i64 (d37.getD 1 .bad)).bind fun n39 =>
    (asI .i64 (d37.getD 2 .bad)).bind fun n40 =>
    (asSl (d37.getD 3 .bad)).bind fun s41 =>
    some ((.agg [(.int .i64 n38), (.int .i64 n39), (.int .i64 n40), (.slice s41.1 s41.2.1 s41.2.2)]), h34, r26.2.2))
    else
    (F20_J2 call Y lf x0 x3 x4 h (nx + 13))) := F20_J1_eq' go1 call Y lf x0 x3 x4 h nx

theorem F20_J2_eq' (J : StepF (AV × AHeap × Nat) → StepF (AV × AHeap × Nat)) (call : YldF → CallF) (Y : YldF) (lf : Nat) (x0 : Option (Nat × Nat)) (x3 : Option (Nat × Nat)) (x4 : Option (Nat × Nat)) (h : AHeap) (nx : Nat) : F20_J2' go1 J call Y lf x0 x3 x4 h nx =
    (x0).bind fun p1 =>
    (ldA h p1.1 p1.2).bind fun v2 =>
    (asSl v2).bind fun s3 =>
    (x3).bind fun p4 =>
    (ldA h p4.1 (p4.2 + 1)).bind fun v5 =>
    (asI .i64 v5).bind fun n6 =>
    (s3.1).bind fun p7 =>
    if 0 ≤ (n6 : Int) ∧ n6 < ((s3.2.1 : Nat) : Int) then
    ((ldR h p7.1 (p7.2 + Int.toNat n6 * 2) 2).bind fun l8 =>
    (asAgg 2 (AV.agg l8)).bind fun d9 =>
    (asP (d9.getD 0 .bad)).bind fun p10 =>
    (asI .i64 (d9.getD 1 .bad)).bind fun n11 =>
    let h12 := AHeap.put h (nx + 8) (some ⟨[(.ptr none), (.int .i64 0)], 2, true⟩)
    (stA h12 (nx + 8) 0 (.agg [(.ptr p10), (.int .i64 n11)]) 2).bind fun b13 =>
    let h14 := AHeap.put h12 (nx + 8) (some b13)
    ifApart [([(nx + 8)], [p1.1]), ([(nx + 8)], [p4.1]), ([(nx + 8)], [p7.1])]
    ((x3).bind fun p15 =>
    (ldA h14 p15.1 p15.2).bind fun v16 =>
    (asI .i64 v16).bind fun n17 =>
    if ((n17 : Int) == 1) = true then
    ((x3).bind fun p18 =>
    (ldA h14 p18.1 (p18.2 + 2)).bind fun v19 =>
    (asI .i64 v19).bind fun n20 =>
    if (decide ((n20 : Int) < 0)) = true then
    ((call Y 21 [(.int .i64 2)] h14 (nx + 19)).bind fun r21 =>
    (asAgg 4 r21.1).bind fun d22 =>
    (asI .i64 (d22.getD 0 .bad)).bind fun n23 =>
    (asI .i64 (d22.getD 1 .bad)).bind fun n24 =>
    (asI .i64 (d22.getD 2 .bad)).bind fun n25 =>
    (asSl (d22.getD 3 .bad)).bind fun s26 =>
    (x4).bind fun p27 =>
    (stA r21.2.1 p27.1 p27.2 (.agg [(.int .i64 n23), (.int .i64 n24), (.int .i64 n25), (.slice s26.1 s26.2.1 s26.2.2)]) 4).bind fun b28 =>
    let h29 := AHeap.put r21.2.1 p27.1 (some b28)
    (x4).bind fun p30 =>
    (ldR h29 p30.1 p30.2 4).bind fun l31 =>
    (asAgg 4 (AV.agg l31)).bind fun d32 =>
    (asI .i64 (d32.getD 0 .bad)).bind fun n33 =>
    (asI .i64 (d32.getD 1 .bad)).bind fun n34 =>
    (asI .i64 (d32.getD 2 .bad)).bind fun n35 =>
    (asSl (d32.getD 3 .bad)).bind fun s36 =>
    some ((.agg [(.int .i64 n33), (.int .i64 n34), (.int .i64 n35), (.slice s36.1 s36.2.1 s36.2.2)]), h29, r21.2.2))
    else
    ((x3).bind fun p37 =>
    (ldA h14 p37.1 (p37.2 + 4)).bind fun v38 =>
    (asSl v38).bind fun s39 =>
    if ((((s39.2.1 : Nat) : Int) : Int) == 0) = true then
    ((call Y 21 [(.int .i64 1)] h14 (nx + 32)).bind fun r40 =>
    (asAgg 4 r40.1).bind fun d41 =>
    (asI .i64 (d41.getD 0 .bad)).bind fun n42 =>
    (asI .i64 (d41.getD 1 .bad)).bind fun n43 =>
    (asI .i64 (d41.getD 2 .bad)).bind fun n44 =>
    (asSl (d41.getD 3 .bad)).bind fun s45 =>
    (x4).bind fun p46 =>
    (stA r40.2.1 p46.1 p46.2 (.agg [(.int .i64 n42), (.int .i64 n43), (.int .i64 n44), (.slice s45.1 s45.2.1 s45.2.2)]) 4).bind fun b47 =>
    let h48 := AHeap.put r40.2.1 p46.1 (some b47)
    (x4).bind fun p49 =>
    (ldR h48 p49.1 p49.2 4).bind fun l50 =>
    (asAgg 4 (AV.agg l50)).bind fun d51 =>
    (asI .i64 (d51.getD 0 .bad)).bind fun n52 =>
    (asI .i64 (d51.getD 1 .bad)).bind fun n53 =>
    (asI .i64 (d51.getD 2 .bad)).bind fun n54 =>
    (asSl (d51.getD 3 .bad)).bind fun s55 =>
    some ((.agg [(.int .i64 n52), (.int .i64 n53), (.int .i64 n54), (.slice s55.1 s55.2.1 s55.2.2)]), h48, r40.2.2))
    else
    ((x3).bind fun p56 =>
    (ldA h14 p56.1 (p56.2 + 2)).bind fun v57 =>
    (asI .i64 v57).bind fun n58 =>
    (x3).bind fun p59 =>
    (ldA h14 p59.1 (p59.2 + 4)).bind fun v60 =>
    (asSl v60).bind fun s61 =>
    if (decide ((n58 : Int) > (wrapA .i64 (4096 - ((s61.2.1 : Nat) : Int))))) = true then
    ((call Y 21 [(.int .i64 1)] h14 (nx + 32)).bind fun r62 =>
    (asAgg 4 r62.1).bind fun d63 =>
    (asI .i64 (d63.getD 0 .bad)).bind fun n64 =>
    (asI .i64 (d63.getD 1 .bad)).bind fun n65 =>
    (asI .i64 (d63.getD 2 .bad)).bind fun n66 =>
    (asSl (d63.getD 3 .bad)).bind fun s67 =>
    (x4).bind fun p68 =>
    (stA r62.2.1 p68.1 p68.2 (.agg [(.int .i64 n64), (.int .i64 n65), (.int .i64 n66), (.slice s67.1 s67.2.1 s67.2.2)]) 4).bind fun b69 =>
    let h70 := AHeap.put r62.2.1 p68.1 (some b69)
    (x4).bind fun p71 =>
    (ldR h70 p71.1 p71.2 4).bind fun l72 =>
    (asAgg 4 (AV.agg l72)).bind fun d73 =>
    (asI .i64 (d73.getD 0 .bad)).bind fun n74 =>
    (asI .i64 (d73.getD 1 .bad)).bind fun n75 =>
    (asI .i64 (d73.getD 2 .bad)).bind fun n76 =>
    (asSl (d73.getD 3 .bad)).bind fun s77 =>
    some ((.agg [(.int .i64 n74), (.int .i64 n75), (.int .i64 n76), (.slice s77.1 s77.2.1 s77.2.2)]), h70, r62.2.2))
    else
    (F20_J3' J J call Y lf x0 x3 x4 (some ((nx + 8), 0)) h14 (nx + 30)))))
    else
    (if ((n17 : Int) == 2) = true then
    ((x3).bind fun p78 =>
    (ldA h14 p78.1 (p78.2 + 3)).bind fun v79 =>
    (asI .i64 v79).bind fun n80 =>
    if (decide ((n80 : Int) < 0)) = true then
    ((call Y 21 [(.int .i64 2)] h14 (nx + 26)).bind fun r81 =>
    (asAgg 4 r81.1).bind fun d82 =>
    (asI .i64 (d82.getD 0 .bad)).bind fun n83 =>
    (asI .i64 (d82.getD 1 .bad)).bind fun n84 =>
    (asI .i64 (d82.getD 2 .bad)).bind fun n85 =>
    (asSl (d82.getD 3 .bad)).bind fun s86 =>
    (x4).bind fun p87 =>
    (stA r81.2.1 p87.1 p87.2 (.agg [(.int .i64 n83), (.int .i64 n84), (.int .i64 n85), (.slice s86.1 s86.2.1 s86.2.2)]) 4).bind fun b88 =>
    let h89 := AHeap.put r81.2.1 p87.1 (some b88)
    (x4).bind fun p90 =>
    (ldR h89 p90.1 p90.2 4).bind fun l91 =>
    (asAgg 4 (AV.agg l91)).bind fun d92 =>
    (asI .i64 (d92.getD 0 .bad)).bind fun n93 =>
    (asI .i64 (d92.getD 1 .bad)).bind fun n94 =>
    (asI .i64 (d92.getD 2 .bad)).bind fun n95 =>
    (asSl (d92.getD 3 .bad)).bind fun s96 =>
    some ((.agg [(.int .i64 n93), (.int .i64 n94), (.int .i64 n95), (.slice s96.1 s96.2.1 s96.2.2)]), h89, r81.2.2))
    else
    ((x3).bind fun p97 =>
    (ldA h14 p97.1 (p97.2 + 3)).bind fun v98 =>
    (asI .i64 v98).bind fun n99 =>
    if (decide ((n99 : Int) > 4096)) = true then
    ((call Y 21 [(.int .i64 2)] h14 (nx + 26)).bind fun r100 =>
    (asAgg 4 r100.1).bind fun d101 =>
    (asI .i64 (d101.getD 0 .bad)).bind fun n102 =>
    (asI .i64 (d101.getD 1 .bad)).bind fun n103 =>
    (asI .i64 (d101.getD 2 .bad)).bind fun n104 =>
    (asSl (d101.getD 3 .bad)).bind fun s105 =>
    (x4).bind fun p106 =>
    (stA r100.2.1 p106.1 p106.2 (.agg [(.int .i64 n102), (.int .i64 n103), (.int .i64 n104), (.slice s105.1 s105.2.1 s105.2.2)]) 4).bind fun b107 =>
    let h108 := AHeap.put r100.2.1 p106.1 (some b107)
    (x4).bind fun p109 =>
    (ldR h108 p109.1 p109.2 4).bind fun l110 =>
    (asAgg 4 (AV.agg l110)).bind fun d111 =>
    (asI .i64 (d111.getD 0 .bad)).bind fun n112 =>
    (asI .i64 (d111.getD 1 .bad)).bind fun n113 =>
    (asI .i64 (d111.getD 2 .bad)).bind fun n114 =>
    (asSl (d111.getD 3 .bad)).bind fun s115 =>
    some ((.agg [(.int .i64 n112), (.int .i64 n113), (.int .i64 n114), (.slice s115.1 s115.2.1 s115.2.2)]), h108, r100.2.2))
    else
    (F20_J4' J J call Y lf x0 x3 x4 (some ((nx + 8), 0)) h14 (nx + 24))))
    else
    ((x3).bind fun p116 =>
    (ldA h14 p116.1 (p116.2 + 2)).bind fun v117 =>
    (asI .i64 v117).bind fun n118 =>
    if (decide ((n118 : Int) < 0)) = true then
    ((call Y 21 [(.int .i64 2)] h14 (nx + 26)).bind fun r119 =>
    (asAgg 4 r119.1).bind fun d120 =>
    (asI .i64 (d120.getD 0 .bad)).bind fun n121 =>
    (asI .i64 (d120.getD 1 .bad)).bind fun n122 =>
    (asI .i64 (d120.getD 2 .bad)).bind fun n123 =>
    (asSl (d120.getD 3 .bad)).bind fun s124 =>
    (x4).bind fun p125 =>
    (stA r119.2.1 p125.1 p125.2 (.agg [(.int .i64 n121), (.int .i64 n122), (.int .i64 n123), (.slice s124.1 s124.2.1 s124.2.2)]) 4).bind fun b126 =>
    let h127 := AHeap.put r119.2.1 p125.1 (some b126)
    (x4).bind fun p128 =>
    (ldR h127 p128.1 p128.2 4).bind fun l129 =>
    (asAgg 4 (AV.agg l129)).bind fun d130 =>
    (asI .i64 (d130.getD 0 .bad)).bind fun n131 =>
    (asI .i64 (d130.getD 1 .bad)).bind fun n132 =>
    (asI .i64 (d130.getD 2 .bad)).bind fun n133 =>
    (asSl (d130.getD 3 .bad)).bind fun s134 =>
    some ((.agg [(.int .i64 n131), (.int .i64 n132), (.int .i64 n133), (.slice s134.1 s134.2.1 s134.2.2)]), h127, r119.2.2))
    else
    ((x3).bind fun p135 =>
    (ldA h14 p135.1 (p135.2 + 3)).bind fun v136 =>
    (asI .i64 v136).bind fun n137 =>
    if (decide ((n137 : Int) < 0)) = true then
    ((call Y 21 [(.int .i64 2)] h14 (nx + 26)).bind fun r138 =>
    (asAgg 4 r138.1).bind fun d139 =>
    (asI .i64 (d139.getD 0 .bad)).bind fun n140 =>
    (asI .i64 (d139.getD 1 .bad)).bind fun n141 =>
    (asI .i64 (d139.getD 2 .bad)).bind fun n142 =>
    (asSl (d139.getD 3 .bad)).bind fun s143 =>
    (x4).bind fun p144 =>
    (stA r138.2.1 p144.1 p144.2 (.agg [(.int .i64 n140), (.int .i64 n141), (.int .i64 n142), (.slice s143.1 s143.2.1 s143.2.2)]) 4).bind fun b145 =>
    let h146 := AHeap.put r138.2.1 p144.1 (some b145)
    (x4).bind fun p147 =>
    (ldR h146 p147.1 p147.2 4).bind fun l148 =>
    (asAgg 4 (AV.agg l148)).bind fun d149 =>
    (asI .i64 (d149.getD 0 .bad)).bind fun n150 =>
    (asI .i64 (d149.getD 1 .bad)).bind fun n151 =>
    (asI .i64 (d149.getD 2 .bad)).bind fun n152 =>
    (asSl (d149.getD 3 .bad)).bind fun s153 =>
    some ((.agg [(.int .i64 n150), (.int .i64 n151), (.int .i64 n152), (.slice s153.1 s153.2.1 s153.2.2)]), h146, r138.2.2))
    else
    (F20_J5' J J call Y lf x3 x4 (some ((nx + 8), 0)) h14 (nx + 24)))))))
    else none := by kernel_rfl

theorem F20_J2_eq (call : YldF → CallF) (Y : YldF) (lf : Nat) (x0 : Option (Nat × Nat)) (x3 : Option (Nat × Nat)) (x4 : Option (Nat × Nat)) (h : AHeap) (nx : Nat) : F20_J2 call Y lf x0 x3 x4 h nx =
    (x0).bind fun p1 =>
    (ldA h p1.1 p1.2).bind fun v2 =>
    (asSl v2).bind fun s3 =>
    (x3).bind fun p4 =>
    (ldA h p4.1 (p4.2 + 1)).bind fun v5 =>
    (asI .i64 v5).bind fun n6 =>
    (s3.1).bind fun p7 =>
    if 0 ≤ (n6 : Int) ∧ n6 < ((s3.2.1 : Nat) : Int) then
    ((ldR h p7.1 (p7.2 + Int.toNat n6 * 2) 2).bind fun l8 =>
    (asAgg 2 (AV.agg l8)).bind fun d9 =>
    (asP (d9.getD 0 .bad)).bind fun p10 =>
    (asI .i64 (d9.getD 1 .bad)).bind fun n11 =>
    let h12 := AHeap.put h (nx + 8) (some ⟨[(.ptr none), (.int .i64 0)], 2, true⟩)
    (stA h12 (nx + 8) 0 (.agg [(.ptr p10), (.int .i64 n11)]) 2).bind fun b13 =>
    let h14 := AHeap.put h12 (nx + 8) (some b13)
    ifApart [([(nx + 8)], [p1.1]), ([(nx + 8)], [p4.1]), ([(nx + 8)], [p7.1])]
    ((x3).bind fun p15 =>
    (ldA h14 p15.1 p15.2).bind fun v16 =>
    (asI .i64 v16).bind fun n17 =>
    if ((n17 : Int) == 1) = true then
    ((x3).bind fun p18 =>
    (ldA h14 p18.1 (p18.2 + 2)).bind fun v19 =>
    (asI .i64 v19).bind fun n20 =>
    if (decide ((n20 : Int) < 0)) = true then
    ((call Y 21 [(.int .i64 2)] h14 (nx + 19)).bind fun r21 =>
    (asAgg 4 r21.1).bind fun d22 =>
    (asI .i64 (d22.getD 0 .bad)).bind fun n23 =>
    (asI .i64 (d22.getD 1 .bad)).bind fun n24 =>
    (asI .i64 (d22.getD 2 .bad)).bind fun n25 =>
    (asSl (d22.getD 3 .bad)).bind fun s26 =>
    (x4).bind fun p27 =>
    (stA r21.2.1 p27.1 p27.2 (.agg [(.int .i64 n23), (.int .i64 n24), (.int .i64 n25), (.slice s26.1 s26.2.1 s26.2.2)]) 4).bind fun b28 =>
    let h29 := AHeap.put r21.2.1 p27.1 (some b28)
    (x4).bind fun p30 =>
    (ldR h29 p30.1 p30.2 4).bind fun l31 =>
    (asAgg 4 (AV.agg l31)).bind fun d32 =>
    (asI .i64 (d32.getD 0 .bad)).bind fun n33 =>
    (asI .i64 (d32.getD 1 .bad)).bind fun n34 =>
    (asI .i64 (d32.getD 2 .bad)).bind fun n35 =>
    (asSl (d32.getD 3 .bad)).bind fun s36 =>
    some ((.agg [(.int .i64 n33), (.int .i64 n34), (.int .i64 n35), (.slice s36.1 s36.2.1 s36.2.2)]), h29, r21.2.2))
    else
    ((x3).bind fun p37 =>
    (ldA h14 p37.1 (p37.2 + 4)).bind fun v38 =>
    (asSl v38).bind fun s39 =>
    if ((((s39.2.1 : Nat) : Int) : Int) == 0) = true then
    ((call Y 21 [(.int .i64 1)] h14 (nx + 32)).bind fun r40 =>
    (asAgg 4 r40.1).bind fun d41 =>
    (asI .i64 (d41.getD 0 .bad)).bind fun n42 =>
    (asI .i64 (d41.getD 1 .bad)).bind fun n43 =>
    (asI .i64 (d41.getD 2 .bad)).bind fun n44 =>
    (asSl (d41.getD 3 .bad)).bind fun s45 =>
    (x4).bind fun p46 =>
    (stA r40.2.1 p46.1 p46.2 (.agg [(.int .i64 n42), (.int .i64 n43), (.int .i64 n44), (.slice s45.1 s45.2.1 s45.2.2)]) 4).bind fun b47 =>
    let h48 := AHeap.put r40.2.1 p46.1 (some b47)
    (x4).bind fun p49 =>
    (ldR h48 p49.1 p49.2 4).bind fun l50 =>
    (asAgg 4 (AV.agg l50)).bind fun d51 =>
    (asI .i64 (d51.getD 0 .bad)).bind fun n52 =>
    (asI .i64 (d51.getD 1 .bad)).bind fun n53 =>
    (asI .i64 (d51.getD 2 .bad)).bind fun n54 =>
    (asSl (d51.getD 3 .bad)).bind fun s55 =>
    some ((.agg [(.int .i64 n52), (.int .i64 n53), (.int .i64 n54), (.slice s55.1 s55.2.1 s55.2.2)]), h48, r40.2.2))
    else
    ((x3).bind fun p56 =>
    (ldA h14 p56.1 (p56.2 + 2)).bind fun v57 =>
    (asI .i64 v57).bind fun n58 =>
    (x3).bind fun p59 =>
    (ldA h14 p59.1 (p59.2 + 4)).bind fun v60 =>
    (asSl v60).bind fun s61 =>
    if (decide ((n58 : Int) > (wrapA .i64 (4096 - ((s61.2.1 : Nat) : Int))))) = true then
    ((call Y 21 [(.int .i64 1)] h14 (nx + 32)).bind fun r62 =>
    (asAgg 4 r62.1).bind fun d63 =>
    (asI .i64 (d63.getD 0 .bad)).bind fun n64 =>
    (asI .i64 (d63.getD 1 .bad)).bind fun n65 =>
    (asI .i64 (d63.getD 2 .bad)).bind fun n66 =>
    (asSl (d63.getD 3 .bad)).bind fun s67 =>
    (x4).bind fun p68 =>
    (stA r62.2.1 p68.1 p68.2 (.agg [(.int .i64 n64), (.int .i64 n65), (.int .i64 n66), (.slice s67.1 s67.2.1 s67.2.2)]) 4).bind fun b69 =>
    let h70 := AHeap.put r62.2.1 p68.1 (some b69)
    (x4).bind fun p71 =>
    (ldR h70 p71.1 p71.2 4).bind fun l72 =>
    (asAgg 4 (AV.agg l72)).bind fun d73 =>
    (asI .i64 (d73.getD 0 .bad)).bind fun n74 =>
    (asI .i64 (d73.getD 1 .bad)).bind fun n75 =>
    (asI .i64 (d73.getD 2 .bad)).bind fun n76 =>
    (asSl (d73.getD 3 .bad)).bind fun s77 =>
    some ((.agg [(.int .i64 n74), (.int .i64 n75), (.int .i64 n76), (.slice s77.1 s77.2.1 s77.2.2)]), h70, r62.2.2))
    else
    (F20_J3 call Y lf x0 x3 x4 (some ((nx + 8), 0)) h14 (nx + 30)))))
    else
    (if ((n17 : Int) == 2) = true then
    ((x3).bind fun p78 =>
    (ldA h14 p78.1 (p78.2 + 3)).bind fun v79 =>
    (asI .i64 v79).bind fun n80 =>
    if (decide ((n80 : Int) < 0)) = true then
    ((call Y 21 [(.int .i64 2)] h14 (nx + 26)).bind fun r81 =>
    (asAgg 4 r81.1).bind fun d82 =>
    (asI .i64 (d82.getD 0 .bad)).bind fun n83 =>
    (asI .i64 (d82.getD 1 .bad)).bind fun n84 =>
    (asI .i64 (d82.getD 2 .bad)).bind fun n85 =>
    (asSl (d82.getD 3 .bad)).bind fun s86 =>
    (x4).bind fun p87 =>
    (stA r81.2.1 p87.1 p87.2 (.agg [(.int .i64 n83), (.int .i64 n84), (.int .i64 n85), (.slice s86.1 s86.2.1 s86.2.2)]) 4).bind fun b88 =>
    let h89 := AHeap.put r81.2.1 p87.1 (some b88)
    (x4).bind fun p90 =>
    (ldR h89 p90.1 p90.2 4).bind fun l91 =>
    (asAgg 4 (AV.agg l91)).bind fun d92 =>
    (asI .i64 (d92.getD 0 .bad)).bind fun n93 =>
    (asI .i64 (d92.getD 1 .bad)).bind fun n94 =>
    (asI .i64 (d92.getD 2 .bad)).bind fun n95 =>
    (asSl (d92.getD 3 .bad)).bind fun s96 =>
    some ((.agg [(.int .i64 n93), (.int .i64 n94), (.int .i64 n95), (.slice s96.1 s96.2.1 s96.2.2)]), h89, r81.2.2))
    else
    ((x3).bind fun p97 =>
    (ldA h14 p97.1 (p97.2 + 3)).bind fun v98 =>
    (asI .i64 v98).bind fun n99 =>
    if (decide ((n99 : Int) > 4096)) = true then
    ((call Y 21 [(.int .i64 2)] h14 (nx + 26)).bind fun r100 =>
    (asAgg 4 r100.1).bind fun d101 =>
    (asI .i64 (d101.getD 0 .bad)).bind fun n102 =>
    (asI .i64 (d101.getD 1 .bad)).bind fun n103 =>
    (asI .i64 (d101.getD 2 .bad)).bind fun n104 =>
    (asSl (d101.getD 3 .bad)).bind fun s105 =>
    (x4).bind fun p106 =>
    (stA r100.2.1 p106.1 p106.2 (.agg [(.int .i64 n102), (.int .i64 n103), (.int .i64 n104), (.slice s105.1 s105.2.1 s105.2.2)]) 4).bind fun b107 =>
    let h108 := AHeap.put r100.2.1 p106.1 (some b107)
    (x4).bind fun p109 =>
    (ldR h108 p109.1 p109.2 4).bind fun l110 =>
    (asAgg 4 (AV.agg l110)).bind fun d111 =>
    (asI .i64 (d111.getD 0 .bad)).bind fun n112 =>
    (asI .i64 (d111.getD 1 .bad)).bind fun n113 =>
    (asI .i64 (d111.getD 2 .bad)).bind fun n114 =>
    (asSl (d111.getD 3 .bad)).bind fun s115 =>
    some ((.agg [(.int .i64 n112), (.int .i64 n113), (.int .i64 n114), (.slice s115.1 s115.2.1 s115.2.2)]), h108, r100.2.2))
    else
    (F20_J4 call Y lf x0 x3 x4 (some ((nx + 8), 0)) h14 (nx + 24))))
    else
    ((x3).bind fun p116 =>
    (ldA h14 p116.1 (p116.2 + 2)).bind fun v117 =>
    (asI .i64 v117).bind fun n118 =>
    if (decide ((n118 : Int) < 0)) = true then
    ((call Y 21 [(.int .i64 2)] h14 (nx + 26)).bind fun r119 =>
    (asAgg 4 r119.1).bind fun d120 =>
    (asI .i64 (d120.getD 0 .bad)).bind fun n121 =>
    (asI .i64 (d120.getD 1 .bad)).bind fun n122 =>
    (asI .i64 (d120.getD 2 .bad)).bind fun n123 =>
    (asSl (d120.getD 3 .bad)).bind fun s124 =>
    (x4).bind fun p125 =>
    (stA r119.2.1 p125.1 p125.2 (.agg [(.int .i64 n121), (.int .i64 n122), (.int .i64 n123), (.slice s124.1 s124.2.1 s124.2.2)]) 4).bind fun b126 =>
    let h127 := AHeap.put r119.2.1 p125.1 (some b126)
    (x4).bind fun p128 =>
    (ldR h127 p128.1 p128.2 4).bind fun l129 =>
    (asAgg 4 (AV.agg l129)).bind fun d130 =>
    (asI .i64 (d130.getD 0 .bad)).bind fun n131 =>
    (asI .i64 (d130.getD 1 .bad)).bind fun n132 =>
    (asI .i64 (d130.getD 2 .bad)).bind fun n133 =>
    (asSl (d130.getD 3 .bad)).bind fun s134 =>
    some ((.agg [(.int .i64 n131), (.int .i64 n132), (.int .i64 n133), (.slice s134.1 s134.2.1 s134.2.2)]), h127, r119.2.2))
    else
    ((x3).bind fun p135 =>
    (ldA h14 p135.1 (p135.2 + 3)).bind fun v136 =>
    (asI .i64 v136).bind fun n137 =>
    if (decide ((n137 : Int) < 0)) = true then
    ((call Y 21 [(.int .i64 2)] h14 (nx + 26)).bind fun r138 =>
    (asAgg 4 r138.1).bind fun d139 =>
    (asI .i64 (d139.getD 0 .bad)).bind fun n140 =>
    (asI .i64 (d139.getD 1 .bad)).bind fun n141 =>
    (asI .i64 (d139.getD 2 .bad)).bind fun n142 =>
    (asSl (d139.getD 3 .bad)).bind fun s143 =>
    (x4).bind fun p144 =>
    (stA r138.2.1 p144.1 p144.2 (.agg [(.int .i64 n140), (.int .i64 n141), (.int .i64 n142), (.slice s143.1 s143.2.1 s143.2.2)]) 4).bind fun b145 =>
    let h146 := AHeap.put r138.2.1 p144.1 (some b145)
    (x4).bind fun p147 =>
    (ldR h146 p147.1 p147.2 4).bind fun l148 =>
    (asAgg 4 (AV.agg l148)).bind fun d149 =>
    (asI .i64 (d149.getD 0 .bad)).bind fun n150 =>
    (asI .i64 (d149.getD 1 .bad)).bind fun n151 =>
    (asI .i64 (d149.getD 2 .bad)).bind fun n152 =>
    (asSl (d149.getD 3 .bad)).bind fun s153 =>
    some ((.agg [(.int .i64 n150), (.int .i64 n151), (.int .i64 n152), (.slice s153.1 s153.2.1 s153.2.2)]), h146, r138.2.2))
    else
    (F20_J5 call Y lf x3 x4 (some ((nx + 8), 0)) h14 (nx + 24)))))))
    else none := F20_J2_eq' go1 call Y lf x0 x3 x4 h nx

theorem F20_J3_eq' (J : StepF (AV × AHeap × Nat) → StepF (AV × AHeap × Nat)) (call : YldF → CallF) (Y : YldF) (lf : Nat) (x0 : Option (Nat × Nat)) (x3 : Option (Nat × Nat)) (x4 : Option (Nat × Nat)) (x5 : Option (Nat × Nat)) (h : AHeap) (nx : Nat) : F20_J3' go1 J call Y lf x0 x3 x4 x5 h nx =
    (x5).bind fun p1 =>
    (ldA h p1.1 (p1.2 + 1)).bind fun v2 =>
    (asI .i64 v2).bind fun n3 =>
    (x3).bind fun p4 =>
    (ldA h p4.1 (p4.2 + 2)).bind fun v5 =>
    (asI .i64 v5).bind fun n6 =>
    (x3).bind fun p7 =>
    (ldA h p7.1 (p7.2 + 4)).bind fun v8 =>
    (asSl v8).bind fun s9 =>
    (x5).bind fun p10 =>
    (stA h p10.1 (p10.2 + 1) (.int .i64 (if (wrapA .i64 (n6 + ((s9.2.1 : Nat) : Int))) > n3 then (wrapA .i64 (n6 + ((s9.2.1 : Nat) : Int))) else n3)) 1).bind fun b11 =>
    let h12 := AHeap.put h p10.1 (some b11)
    (x5).bind fun p13 =>
    (ldA h12 p13.1 (p13.2 + 1)).bind fun v14 =>
    (asI .i64 v14).bind fun n15 =>
    (call Y 22 [(.int .i64 n15)] h12 (nx + 15)).bind fun r16 =>
    (asI .i64 r16.1).bind fun n17 =>
    (x5).bind fun p18 =>
    (ldR r16.2.1 p18.1 p18.2 2).bind fun l19 =>
    (asAgg 2 (AV.agg l19)).bind fun d20 =>
    (asP (d20.getD 0 .bad)).bind fun p21 =>
    (asI .i64 (d20.getD 1 .bad)).bind fun n22 =>
    (call Y 25 [(.ptr x0), (.agg [(.ptr p21), (.int .i64 n22)]), (.int .i64 n17)] r16.2.1 (r16.2.2 + 17)).bind fun r23 =>
    (asP r23.1).bind fun p24 =>
    (x3).bind fun p25 =>
    (ldA r23.2.1 p25.1 (p25.2 + 2)).bind fun v26 =>
    (asI .i64 v26).bind fun n27 =>
    (x3).bind fun p28 =>
    (ldA r23.2.1 p28.1 (p28.2 + 4)).bind fun v29 =>
    (asSl v29).bind fun s30 =>
    (call Y 24 [(.ptr x0), (.ptr p24), (.int .i64 n17), (.int .i64 0), (.int .i64 n27), (.slice s30.1 s30.2.1 s30.2.2)] r23.2.1 r23.2.2).bind fun r31 =>
    (asP r31.1).bind fun p32 =>
    (x5).bind fun p33 =>
    (ldA r31.2.1 p33.1 (p33.2 + 1)).bind fun v34 =>
    (asI .i64 v34).bind fun n35 =>
    (call Y 23 [(.ptr x0), (.agg [(.ptr p32), (.int .i64 n35)])] r31.2.1 r31.2.2).bind fun r36 =>
    (asAgg 4 r36.1).bind fun d37 =>
    (asI .i64 (d37.getD 0 .bad)).bind fun n38 =>
    (asI .i64 (d37.getD 1 .bad)).bind fun n39 =>
    (asI .i64 (d37.getD 2 .bad)).bind fun n40 =>
    (asSl (d37.getD 3 .bad)).bind fun s41 =>
    (x4).bind fun p42 =>
    (stA r36.2.1 p42.1 p42.2 (.agg [(.int .i64 n38), (.int .i64 n39), (.int .i64 n40), (.slice s41.1 s41.2.1 s41.2.2)]) 4).bind fun b43 =>
    let h44 := AHeap.put r36.2.1 p42.1 (some b43)
    ifKept [(r16.2.1, r23.2.1, [p25.1]), (r16.2.1, r23.2.1, [p28.1]), (r16.2.1, r23.2.1, [p33.1]), (r23.2.1, r31.2.1, [p33.1])]
    ((x4).bind fun p45 =>
    (ldR h44 p45.1 p45.2 4).bind fun l46 =>
    (asAgg 4 (AV.agg l46)).bind fun d47 =>
    (asI .i64 (d47.getD 0 .bad)).bind fun n48 =>
    (asI .i64 (d47.getD 1 .bad)).bind fun n49 =>
    (asI .i64 (d47.getD 2 .bad)).bind fun n50 =>
    (asSl (d47.getD 3 .bad)).bind fun s51 =>
    some ((.agg [(.int .i64 n48), (.int .i64 n49), (.int .i64 n50), (.slice s51.1 s51.2.1 s51.2.2)]), h44, r36.2.2)) := by kernel_rfl

theorem F20_J3_eq (call : YldF → CallF) (Y : YldF) (lf : Nat) (x0 : Option (Nat × Nat)) (x3 : Option (Nat × Nat)) (x4 : Option (Nat × Nat)) (x5 : Option (Nat × Nat)) (h : AHeap) (nx : Nat) : F20_J3 call Y lf x0 x3 x4 x5 h nx =
    (x5).bind fun p1 =>
    (ldA h p1.1 (p1.2 + 1)).bind fun v2 =>
    (asI .i64 v2).bind fun n3 =>
    (x3).bind fun p4 =>
    (ldA h p4.1 (p4.2 + 2)).bind fun v5 =>
    (asI .i64 v5).bind fun n6 =>
    (x3).bind fun p7 =>
    (ldA h p7.1 (p7.2 + 4)).bind fun v8 =>
    (asSl v8).bind fun s9 =>
    (x5).bind fun p10 =>
    (stA h p10.1 (p10.2 + 1) (.int .i64 (if (wrapA .i64 (n6 + ((s9.2.1 : Nat) : Int))) > n3 then (wrapA .i64 (n6 + ((s9.2.1 : Nat) : Int))) else n3)) 1).bind fun b11 =>
    let h12 := AHeap.put h p10.1 (some b11)
    (x5).bind fun p13 =>
    (ldA h12 p13.1 (p13.2 + 1)).bind fun v14 =>
    (asI .i64 v14).bind fun n15 =>
    (call Y 22 [(.int .i64 n15)] h12 (nx + 15)).bind fun r16 =>
    (asI .i64 r16.1).bind fun n17 =>
    (x5).bind fun p18 =>
    (ldR r16.2.1 p18.1 p18.2 2).bind fun l19 =>
    (asAgg 2 (AV.agg l19)).bind fun d20 =>
    (asP (d20.getD 0 .bad)).bind fun p21 =>
    (asI .i64 (d20.getD 1 .bad)).bind fun n22 =>
    (call Y 25 [(.ptr x0), (.agg [(.ptr p21), (.int .i64 n22)]), (.int .i64 n17)] r16.2.1 (r16.2.2 + 17)).bind fun r23 =>
    (asP r23.1).bind fun p24 =>
    (x3).bind fun p25 =>
    (ldA r23.2.1 p25.1 (p25.2 + 2)).bind fun v26 =>
    (asI .i64 v26).bind fun n27 =>
    (x3).bind fun p28 =>
    (ldA r23.2.1 p28.1 (p28.2 + 4)).bind fun v29 =>
    (asSl v29).bind fun s30 =>
    (call Y 24 [(.ptr x0), (.ptr p24), (.int .i64 n17), (.int .i64 0), (.int .i64 n27), (.slice s30.1 s30.2.1 s30.2.2)] r23.2.1 r23.2.2).bind fun r31 =>
    (asP r31.1).bind fun p32 =>
    (x5).bind fun p33 =>
    (ldA r31.2.1 p33.1 (p33.2 + 1)).bind fun v34 =>
    (asI .i64 v34).bind fun n35 =>
    (call Y 23 [(.ptr x0), (.agg [(.ptr p32), (.int .i64 n35)])] r31.2.1 r31.2.2).bind fun r36 =>
    (asAgg 4 r36.1).bind fun d37 =>
    (asI .i64 (d37.getD 0 .bad)).bind fun n38 =>
    (asI .i64 (d37.getD 1 .bad)).bind fun n39 =>
    (asI .i64 (d37.getD 2 .bad)).bind fun n40 =>
    (asSl (d37.getD 3 .bad)).bind fun s41 =>
    (x4).bind fun p42 =>
    (stA r36.2.1 p42.1 p42.2 (.agg [(.int .i64 n38), (.int .i64 n39), (.int .i64 n40), (.slice s41.1 s41.2.1 s41.2.2)]) 4).bind fun b43 =>
    let h44 := AHeap.put r36.2.1 p42.1 (some b43)
    ifKept [(r16.2.1, r23.2.1, [p25.1]), (r16.2.1, r23.2.1, [p28.1]), (r16.2.1, r23.2.1, [p33.1]), (r23.2.1, r31.2.1, [p33.1])]
    ((x4).bind fun p45 =>
    (ldR h44 p45.1 p45.2 4).bind fun l46 =>
    (asAgg 4 (AV.agg l46)).bind fun d47 =>
    (asI .i64 (d47.getD 0 .bad)).bind fun n48 =>
    (asI .i64 (d47.getD 1 .bad)).bind fun n49 =>
    (asI .i64 (d47.getD 2 .bad)).bind fun n50 =>
    (asSl (d47.getD 3 .bad)).bind fun s51 =>
    some ((.agg [(.int .i64 n48), (.int .i64 n49), (.int .i64 n50), (.slice s51.1 s51.2.1 s51.2.2)]), h44, r36.2.2)) := F20_J3_eq' go1 call Y lf x0 x3 x4 x5 h nx

theorem F20_J4_eq' (J : StepF (AV × AHeap × Nat) → StepF (AV × AHeap × Nat)) (call : YldF → CallF) (Y : YldF) (lf : Nat) (x0 : Option (Nat × Nat)) (x3 : Option (Nat × Nat)) (x4 : Option (Nat × Nat)) (x5 : Option (Nat × Nat)) (h : AHeap) (nx : Nat) : F20_J4' go1 J call Y lf x0 x3 x4 x5 h nx =
    (x5).bind fun p1 =>
    (ldR h p1.1 p1.2 2).bind fun l2 =>
    (asAgg 2 (AV.agg l2)).bind fun d3 =>
    (asP (d3.getD 0 .bad)).bind fun p4 =>
    (asI .i64 (d3.getD 1 .bad)).bind fun n5 =>
    (x3).bind fun p6 =>
    (ldA h p6.1 (p6.2 + 3)).bind fun v7 =>
    (asI .i64 v7).bind fun n8 =>
    (call Y 26 [(.ptr x0), (.agg [(.ptr p4), (.int .i64 n5)]), (.int .i64 n8)] h (nx + 8)).bind fun r9 =>
    (asAgg 2 r9.1).bind fun d10 =>
    (asP (d10.getD 0 .bad)).bind fun p11 =>
    (asI .i64 (d10.getD 1 .bad)).bind fun n12 =>
    (call Y 23 [(.ptr x0), (.agg [(.ptr p11), (.int .i64 n12)])] r9.2.1 r9.2.2).bind fun r13 =>
    (asAgg 4 r13.1).bind fun d14 =>
    (asI .i64 (d14.getD 0 .bad)).bind fun n15 =>
    (asI .i64 (d14.getD 1 .bad)).bind fun n16 =>
    (asI .i64 (d14.getD 2 .bad)).bind fun n17 =>
    (asSl (d14.getD 3 .bad)).bind fun s18 =>
    (x4).bind fun p19 =>
    (stA r13.2.1 p19.1 p19.2 (.agg [(.int .i64 n15), (.int .i64 n16), (.int .i64 n17), (.slice s18.1 s18.2.1 s18.2.2)]) 4).bind fun b20 =>
    let h21 := AHeap.put r13.2.1 p19.1 (some b20)
    (x4).bind fun p22 =>
    (ldR h21 p22.1 p22.2 4).bind fun l23 =>
    (asAgg 4 (AV.agg l23)).bind fun d24 =>
    (asI .i64 (d24.getD 0 .bad)).bind fun n25 =>
    (asI .i64 (d24.getD 1 .bad)).bind fun n26 =>
    (asI .i64 (d24.getD 2 .bad)).bind fun n27 =>
    (asSl (d24.getD 3 .bad)).bind fun s28 =>
    some ((.agg [(.int .i64 n25), (.int .i64 n26), (.int .i64 n27), (.slice s28.1 s28.2.1 s28.2.2)]), h21, r13.2.2) := by kernel_rfl

theorem F20_J4_eq (call : YldF → CallF) (Y : YldF) (lf : Nat) (x0 : Option (Nat × Nat)) (x3 : Option (Nat × Nat)) (x4 : Option (Nat × Nat)) (x5 : Option (Nat × Nat)) (h : AHeap) (nx : Nat) : F20_J4 call Y lf x0 x3 x4 x5 h nx =
    (x5).bind fun p1 =>
    (ldR h p1.1 p1.2 2).bind fun l2 =>
    (asAgg 2 (AV.agg l2)).bind fun d3 =>
    (asP (d3.getD 0 .bad)).bind fun p4 =>
    (asI .i64 (d3.getD 1 .bad)).bind fun n5 =>
    (x3).bind fun p6 =>
    (ldA h p6.1 (p6.2 + 3)).bind fun v7 =>
    (asI .i64 v7).bind fun n8 =>
    (call Y 26 [(.ptr x0), (.agg [(.ptr p4), (.int .i64 n5)]), (.int .i64 n8)] h (nx + 8)).bind fun r9 =>
    (asAgg 2 r9.1).bind fun d10 =>
    (asP (d10.getD 0 .bad)).bind fun p11 =>
    (asI .i64 (d10.getD 1 .bad)).bind fun n12 =>
    (call Y 23 [(.ptr x0), (.agg [(.ptr p11), (.int .i64 n12)])] r9.2.1 r9.2.2).bind fun r13 =>
    (asAgg 4 r13.1).bind fun d14 =>
    (asI .i64 (d14.getD 0 .bad)).bind fun n15 =>
    (asI .i64 (d14.getD 1 .bad)).bind fun n16 =>
    (asI .i64 (d14.getD 2 .bad)).bind fun n17 =>
    (asSl (d14.getD 3 .bad)).bind fun s18 =>
    (x4).bind fun p19 =>
    (stA r13.2.1 p19.1 p19.2 (.agg [(.int .i64 n15), (.int .i64 n16), (.int .i64 n17), (.slice s18.1 s18.2.1 s18.2.2)]) 4).bind fun b20 =>
    let h21 := AHeap.put r13.2.1 p19.1 (some b20)
    (x4).bind fun p22 =>
    (ldR h21 p22.1 p22.2 4).bind fun l23 =>
    (asAgg 4 (AV.agg l23)).bind fun d24 =>
    (asI .i64 (d24.getD 0 .bad)).bind fun n25 =>
    (asI .i64 (d24.getD 1 .bad)).bind fun n26 =>
    (asI .i64 (d24.getD 2 .bad)).bind fun n27 =>
    (asSl (d24.getD 3 .bad)).bind fun s28 =>
    some ((.agg [(.int .i64 n25), (.int .i64 n26), (.int .i64 n27), (.slice s28.1 s28.2.1 s28.2.2)]), h21, r13.2.2) := F20_J4_eq' go1 call Y lf x0 x3 x4 x5 h nx

theorem F20_J5_eq' (J : StepF (AV × AHeap × Nat) → StepF (AV × AHeap × Nat)) (call : YldF → CallF) (Y : YldF) (lf : Nat) (x3 : Option (Nat × Nat)) (x4 : Option (Nat × Nat)) (x5 : Option (Nat × Nat)) (h : AHeap) (nx : Nat) : F20_J5' go1 J call Y lf x3 x4 x5 h nx =
    (x5).bind fun p1 =>
    (ldA h p1.1 (p1.2 + 1)).bind fun v2 =>
    (asI .i64 v2).bind fun n3 =>
    (x5).bind fun p4 =>
    (ldR h p4.1 p4.2 2).bind fun l5 =>
    (asAgg 2 (AV.agg l5)).bind fun d6 =>
    (asP (d6.getD 0 .bad)).bind fun p7 =>
    (asI .i64 (d6.getD 1 .bad)).bind fun n8 =>
    (x3).bind fun p9 =>
    (ldA h p9.1 (p9.2 + 2)).bind fun v10 =>
    (asI .i64 v10).bind fun n11 =>
    (x3).bind fun p12 =>
    (ldA h p12.1 (p12.2 + 3)).bind fun v13 =>
    (asI .i64 v13).bind fun n14 =>
    (call Y 27 [(.agg [(.ptr p7), (.int .i64 n8)]), (.int .i64 n11), (.int .i64 n14)] h (nx + 10)).bind fun r15 =>
    (asSl r15.1).bind fun s16 =>
    (x4).bind fun p17 =>
    (stA r15.2.1 p17.1 p17.2 (.agg [(.int .i64 0), (.int .i64 0), (.int .i64 n3), (.slice s16.1 s16.2.1 s16.2.2)]) 4).bind fun b18 =>
    let h19 := AHeap.put r15.2.1 p17.1 (some b18)
    ifKept [(h, r15.2.1, [p1.1])]
    ((x4).bind fun p20 =>
    (ldR h19 p20.1 p20.2 4).bind fun l21 =>
    (asAgg 4 (AV.agg l21)).bind fun d22 =>
    (asI .i64 (d22.getD 0 .bad)).bind fun n23 =>
    (asI .i64 (d22.getD 1 .bad)).bind fun n24 =>
    (asI .i64 (d22.getD 2 .bad)).bind fun n25 =>
    (asSl (d22.getD 3 .bad)).bind fun s26 =>
    some ((.agg [(.int .i64 n23), (.int .i64 n24), (.int .i64 n25), (.slice s26.1 s26.2.1 s26.2.2)]), h19, r15.2.2)) := by kernel_rfl

theorem F20_J5_eq (call : YldF → CallF) (Y : YldF) (lf : Nat) (x3 : Option (Nat × Nat)) (x4 : Option (Nat × Nat)) (x5 : Option (Nat × Nat)) (h : AHeap) (nx : Nat) : F20_J5 call Y lf x3 x4 x5 h nx =
    (x5).bind fun p1 =>
    (ldA h p1.1 (p1.2 + 1)).bind fun v2 =>
    (asI .i64 v2).bind fun n3 =>
    (x5).bind fun p4 =>
    (ldR h p4.1 p4.2 2).bind fun l5 =>
    (asAgg 2 (AV.agg l5)).bind fun d6 =>
    (asP (d6.getD 0 .bad)).bind fun p7 =>
    (asI .i64 (d6.getD 1 .bad)).bind fun n8 =>
    (x3).bind fun p9 =>
    (ldA h p9.1 (p9.2 + 2)).bind fun v10 =>
    (asI .i64 v10).bind fun n11 =>
    (x3).bind fun p12 =>
    (ldA h p12.1 (p12.2 + 3)).bind fun v13 =>
    (asI .i64 v13).bind fun n14 =>
    (call Y 27 [(.agg [(.ptr p7), (.int .i64 n8)]), (.int .i64 n11), (.int .i64 n14)] h (nx + 10)).bind fun r15 =>
    (asSl r15.1).bind fun s16 =>
    (x4).bind fun p17 =>
    (stA r15.2.1 p17.1 p17.2 (.agg [(.int .i64 0), (.int .i64 0), (.int .i64 n3), (.slice s16.1 s16.2.1 s16.2.2)]) 4).bind fun b18 =>
    let h19 := AHeap.put r15.2.1 p17.1 (some b18)
    ifKept [(h, r15.2.1, [p1.1])]
    ((x4).bind fun p20 =>
    (ldR h19 p20.1 p20.2 4).bind fun l21 =>
    (asAgg 4 (AV.agg l21)).bind fun d22 =>
    (asI .i64 (d22.getD 0 .bad)).bind fun n23 =>
    (asI .i64 (d22.getD 1 .bad)).bind fun n24 =>
    (asI .i64 (d22.getD 2 .bad)).bind fun n25 =>
    (asSl (d22.getD 3 .bad)).bind fun s26 =>
    some ((.agg [(.int .i64 n23), (.int .i64 n24), (.int .i64 n25), (.slice s26.1 s26.2.1 s26.2.2)]), h19, r15.2.2)) := F20_J5_eq' go1 call Y lf x3 x4 x5 h nx

theorem F20_eq' (J : StepF (AV × AHeap × Nat) → StepF (AV × AHeap × Nat)) (n : Nat) (Y : YldF) (x0 : Option (Nat × Nat)) (x1_0 : Int) (x1_1 : Int) (x1_2 : Int) (x1_3 : Int) (x1_4a : Option (Nat × Nat)) (x1_4n : Nat) (x1_4c : Bool) (h : AHeap) (nx : Nat) : rootJ J Try.prog keepT (callP Try.prog keepT n) Y n 20 [(.ptr x0), (.agg [(.int .i64 x1_0), (.int .i64 x1_1), (.int .i64 x1_2), (.int .i64 x1_3), (.slice x1_4a x1_4n x1_4c)])] h nx =
    let h1 := AHeap.put h nx (some ⟨[(.int .i64 x1_0), (.int .i64 x1_1), (.int .i64 x1_2), (.int .i64 x1_3), (.slice x1_4a x1_4n x1_4c)], 5, true⟩)
    let h2 := AHeap.put h1 (nx + 1) (some ⟨[(.int .i64 0), (.int .i64 0), (.int .i64 0), (.slice none 0 false)], 4, true⟩)
    (ldA h2 nx 0).bind fun v3 =>
    (asI .i64 v3).bind fun n4 =>
    if (decide ((n4 : Int) < 1)) = true then
    (((callP Try.prog keepT n) Y 21 [(.int .i64 3)] h2 (nx + 12)).bind fun r5 =>
    (asAgg 4 r5.1).bind fun d6 =>
    (asI .i64 (d6.getD 0 .bad)).bind fun n7 =>
    (asI .i64 (d6.getD 1 .bad)).bind fun n8 =>
    (asI .i64 (d6.getD 2 .bad)).bind fun n9 =>
    (asSl (d6.getD 3 .bad)).bind fun s10 =>
    (stA r5.2.1 (nx + 1) 0 (.agg [(.int .i64 n7), (.int .i64 n8), (.int .i64 n9), (.slice s10.1 s10.2.1 s10.2.2)]) 4).bind fun b11 =>
    let h12 := AHeap.put r5.2.1 (nx + 1) (some b11)
    (ldR h12 (nx + 1) 0 4).bind fun l13 =>
    (asAgg 4 (AV.agg l13)).bind fun d14 =>
    (asI .i64 (d14.getD 0 .bad)).bind fun n15 =>
    (asI .i64 (d14.getD 1 .bad)).bind fun n16 =>
    (asI .i64 (d14.getD 2 .bad)).bind fun n17 =>
    (asSl (d14.getD 3 .bad)).bind fun s18 =>
    some ((.agg [(.int .i64 n15), (.int .i64 n16), (.int .i64 n17), (.slice s18.1 s18.2.1 s18.2.2)]), h12, r5.2.2))
    else
    ((ldA h2 nx 0).bind fun v19 =>
    (asI .i64 v19).bind fun n20 =>
    if (decide ((n20 : Int) > 3)) = true then
    (((callP Try.prog keepT n) Y 21 [(.int .i64 3)] h2 (nx + 12)).bind fun r21 =>
    (asAgg 4 r21.1).bind fun d22 =>
    (asI .i64 (d22.getD 0 .bad)).bind fun n23 =>
    (asI .i64 (d22.getD 1 .bad)).bind fun n24 =>
    (asI .i64 (d22.getD 2 .bad)).bind fun n25 =>
    (asSl (d22.getD 3 .bad)).bind fun s26 =>
    (stA r21.2.1 (nx + 1) 0 (.agg [(.int .i64 n23), (.int .i64 n24), (.int .i64 n25), (.slice s26.1 s26.2.1 s26.2.2)]) 4).bind fun b27 =>
    let h28 := AHeap.put r21.2.1 (nx + 1) (some b27)
    (ldR h28 (nx + 1) 0 4).bind fun l29 =>
    (asAgg 4 (AV.agg l29)).bind fun d30 =>
    (asI .i64 (d30.getD 0 .bad)).bind fun n31 =>
    (asI .i64 (d30.getD 1 .bad)).bind fun n32 =>
    (asI .i64 (d30.getD 2 .bad)).bind fun n33 =>
    (asSl (d30.getD 3 .bad)).bind fun s34 =>
    some ((.agg [(.int .i64 n31), (.int .i64 n32), (.int .i64 n33), (.slice s34.1 s34.2.1 s34.2.2)]), h28, r21.2.2))
    else
    (F20_J1' J J (callP Try.prog keepT n) Y n x0 (some (nx, 0)) (some ((nx + 1), 0)) h2 (nx + 10))) := by kernel_rfl

/-- (*quickset/tree.forest).step -/
theorem F20_eq (n : Nat) (Y : YldF) (x0 : Option (Nat × Nat)) (x1_0 : Int) (x1_1 : Int) (x1_2 : Int) (x1_3 : Int) (x1_4a : Option (Nat × Nat)) (x1_4n : Nat) (x1_4c : Bool) (h : AHeap) (nx : Nat) : callP Try.prog keepT (n + 1) Y 20 [(.ptr x0), (.agg [(.int .i64 x1_0), (.int .i64 x1_1), (.int .i64 x1_2), (.int .i64 x1_3), (.slice x1_4a x1_4n x1_4c)])] h nx =
    let h1 := AHeap.put h nx (some ⟨[(.int .i64 x1_0), (.int .i64 x1_1), (.int .i64 x1_2), (.int .i64 x1_3), (.slice x1_4a x1_4n x1_4c)], 5, true⟩)
    let h2 := AHeap.put h1 (nx + 1) (some ⟨[(.int .i64 0), (.int .i64 0), (.int .i64 0), (.slice none 0 false)], 4, true⟩)
    (ldA h2 nx 0).bind fun v3 =>
    (asI .i64 v3).bind fun n4 =>
    if (decide ((n4 : Int) < 1)) = true then
    (((callP Try.prog keepT n) Y 21 [(.int .i64 3)] h2 (nx + 12)).bind fun r5 =>
    (asAgg 4 r5.1).bind fun d6 =>
    (asI .i64 (d6.getD 0 .bad)).bind fun n7 =>
    (asI .i64 (d6.getD 1 .bad)).bind fun n8 =>
    (asI .i64 (d6.getD 2 .bad)).bind fun n9 =>
    (asSl (d6.getD 3 .bad)).bind fun s10 =>
    (stA r5.2.1 (nx + 1) 0 (.agg [(.int .i64 n7), (.int .i64 n8), (.int .i64 n9), (.slice s10.1 s10.2.1 s10.2.2)]) 4).bind fun b11 =>
    let h12 := AHeap.put r5.2.1 (nx + 1) (some b11)
    (ldR h12 (nx + 1) 0 4).bind fun l13 =>
    (asAgg 4 (AV.agg l13)).bind fun d14 =>
    (asI .i64 (d14.getD 0 .bad)).bind fun n15 =>
    (asI .i64 (d14.getD 1 .bad)).bind fun n16 =>
    (asI .i64 (d14.getD 2 .bad)).bind fun n17 =>
    (asSl (d14.getD 3 .bad)).bind fun s18 =>
    some ((.agg [(.int .i64 n15), (.int .i64 n16), (.int .i64 n17), (.slice s18.1 s18.2.1 s18.2.2)]), h12, r5.2.2))
    else
    ((ldA h2 nx 0).bind fun v19 =>
    (asI .i64 v19).bind fun n20 =>
    if (decide ((n20 : Int) > 3)) = true then
    (((callP Try.prog keepT n) Y 21 [(.int .i64 3)] h2 (nx + 12)).bind fun r21 =>
    (asAgg 4 r21.1).bind fun d22 =>
    (asI .i64 (d22.getD 0 .bad)).bind fun n23 =>
    (asI .i64 (d22.getD 1 .bad)).bind fun n24 =>
    (asI .i64 (d22.getD 2 .bad)).bind fun n25 =>
    (asSl (d22.getD 3 .bad)).bind fun s26 =>
    (stA r21.2.1 (nx + 1) 0 (.agg [(.int .i64 n23), (.int .i64 n24), (.int .i64 n25), (.slice s26.1 s26.2.1 s26.2.2)]) 4).bind fun b27 =>
    let h28 := AHeap.put r21.2.1 (nx + 1) (some b27)
    (ldR h28 (nx + 1) 0 4).bind fun l29 =>
    (asAgg 4 (AV.agg l29)).bind fun d30 =>
    (asI .i64 (d30.getD 0 .bad)).bind fun n31 =>
    (asI .i64 (d30.getD 1 .bad)).bind fun n32 =>
    (asI .i64 (d30.getD 2 .bad)).bind fun n33 =>
    (asSl (d30.getD 3 .bad)).bind fun s34 =>
    some ((.agg [(.int .i64 n31), (.int .i64 n32), (.int .i64 n33), (.slice s34.1 s34.2.1 s34.2.2)]), h28, r21.2.2))
    else
    (F20_J1 (callP Try.prog keepT n) Y n x0 (some (nx, 0)) (some ((nx + 1), 0)) h2 (nx + 10))) := F20_eq' go1 n Y x0 x1_0 x1_1 x1_2 x1_3 x1_4a x1_4n x1_4c h nx

noncomputable def c21 : Code := (Try.f21.body).getD .skip

noncomputable def r21 : List ResultVar := Try.f21.results.toList

theorem F21_eq' (J : StepF (AV × AHeap × Nat) → StepF (AV × AHeap × Nat)) (n : Nat) (Y : YldF) (x0 : Int) (h : AHeap) (nx : Nat) : rootJ J Try.prog keepT (callP Try.prog keepT n) Y n 21 [(.int .i64 x0)] h nx =
    let h1 := AHeap.put h nx (some ⟨[(.int .i64 0), (.int .i64 0), (.int .i64 0), (.slice none 0 false)], 4, true⟩)
    (stA h1 nx 0 (.agg [(.int .i64 x0), (.int .i64 0), (.int .i64 0), (.slice none 0 false)]) 4).bind fun b2 =>
    let h3 := AHeap.put h1 nx (some b2)
    (ldR h3 nx 0 4).bind fun l4 =>
    (asAgg 4 (AV.agg l4)).bind fun d5 =>
    (asI .i64 (d5.getD 0 .bad)).bind fun n6 =>
    (asI .i64 (d5.getD 1 .bad)).bind fun n7 =>
    (asI .i64 (d5.getD 2 .bad)).bind fun n8 =>
    (asSl (d5.getD 3 .bad)).bind fun s9 =>
    some ((.agg [(.int .i64 n6), (.int .i64 n7), (.int .i64 n8), (.slice s9.1 s9.2.1 s9.2.2)]), h3, (nx + 4)) := by kernel_rfl

/-- quickset/tree.no -/
theorem F21_eq (n : Nat) (Y : YldF) (x0 : Int) (h : AHeap) (nx : Nat) : callP Try.prog keepT (n + 1) Y 21 [(.int .i64 x0)] h nx =
    let h1 := AHeap.put h nx (some ⟨[(.int .i64 0), (.int .i64 0), (.int .i64 0), (.slice none 0 false)], 4, true⟩)
    (stA h1 nx 0 (.agg [(.int .i64 x0), (.int .i64 0), (.int .i64 0), (.slice none 0 false)]) 4).bind fun b2 =>
    let h3 := AHeap.put h1 nx (some b2)
    (ldR h3 nx 0 4).bind fun l4 =>
    (asAgg 4 (AV.agg l4)).bind fun d5 =>
    (asI .i64 (d5.getD 0 .bad)).bind fun n6 =>
    (asI .i64 (d5.getD 1 .bad)).bind fun n7 =>
    (asI .i64 (d5.getD 2 .bad)).bind fun n8 =>
    (asSl (d5.getD 3 .bad)).bind fun s9 =>
    some ((.agg [(.int .i64 n6), (.int .i64 n7), (.int .i64 n8), (.slice s9.1 s9.2.1 s9.2.2)]), h3, (nx + 4)) := F21_eq' go1 n Y x0 h nx

noncomputable def c22 : Code := (Try.f22.body).getD .skip

noncomputable def r22 : List ResultVar := Try.f22.results.toList

noncomputable def F22_L1' (W J : StepF (AV × AHeap × Nat) → StepF (AV × AHeap × Nat)) (call : YldF → CallF) (Y : YldF) (lf : Nat) (n0 : Nat) (x0 : Int) (x3 : Int) (h : AHeap) (nx : Nat) : Option (AV × AHeap × Nat) :=
  goK W J drawK (machOf Try.prog) call Y (keepT 22) lf c22 [1, 1, 0, 0, 9] [n0] (retK (machOf Try.prog) ⟨c22, 11, r22, keepT 22⟩) ⟨11, mkL [(0, (.int .i64 x0)), (3, (.int .i64 x3))]⟩ h nx

noncomputable def F22_L1 (call : YldF → CallF) (Y : YldF) (lf : Nat) (n0 : Nat) (x0 : Int) (x3 : Int) (h : AHeap) (nx : Nat) : Option (AV × AHeap × Nat) := F22_L1' go1 go1 call Y lf n0 x0 x3 h nx

theorem F22_L1_eq' (J : StepF (AV × AHeap × Nat) → StepF (AV × AHeap × Nat)) (call : YldF → CallF) (Y : YldF) (lf : Nat) (n0 : Nat) (x0 : Int) (x3 : Int) (h : AHeap) (nx : Nat) : F22_L1' go1 J call Y lf (n0 + 1) x0 x3 h nx =
    (call Y 28 [(.int .i64 x3)] h (nx + 4)).bind fun r1 =>
    (asI .i64 r1.1).bind fun n2 =>
    if (decide ((n2 : Int) < x0)) = true then
    (F22_L1' J J call Y lf n0 x0 (wrapA .i64 (x3 + 1)) r1.2.1 (r1.2.2 + 3))
    else
    (some ((.int .i64 x3), r1.2.1, (r1.2.2 + 2))) := by kernel_rfl

theorem F22_L1_eq (call : YldF → CallF) (Y : YldF) (lf : Nat) (n0 : Nat) (x0 : Int) (x3 : Int) (h : AHeap) (nx : Nat) : F22_L1 call Y lf (n0 + 1) x0 x3 h nx =
    (call Y 28 [(.int .i64 x3)] h (nx + 4)).bind fun r1 =>
    (asI .i64 r1.1).bind fun n2 =>
    if (decide ((n2 : Int) < x0)) = true then
    (F22_L1 call Y lf n0 x0 (wrapA .i64 (x3 + 1)) r1.2.1 (r1.2.2 + 3))
    else
    (some ((.int .i64 x3), r1.2.1, (r1.2.2 + 2))) := F22_L1_eq' go1 call Y lf n0 x0 x3 h nx

theorem F22_L1_zero (call : YldF → CallF) (Y : YldF) (lf : Nat) (x0 : Int) (x3 : Int) (h : AHeap) (nx : Nat) : F22_L1 call Y lf 0 x0 x3 h nx = none := by kernel_rfl

theorem F22_eq' (J : StepF (AV × AHeap × Nat) → StepF (AV × AHeap × Nat)) (n : Nat) (Y : YldF) (x0 : Int) (h : AHeap) (nx : Nat) : rootJ J Try.prog keepT (callP Try.prog keepT n) Y n 22 [(.int .i64 x0)] h nx =
    F22_L1' J J (callP Try.prog keepT n) Y n n x0 0 h (nx + 2) := by kernel_rfl

/-- quickset/tree.levelOf -/
theorem F22_eq (n : Nat) (Y : YldF) (x0 : Int) (h : AHeap) (nx : Nat) : callP Try.prog keepT (n + 1) Y 22 [(.int .i64 x0)] h nx =
    F22_L1 (callP Try.prog keepT n) Y n n x0 0 h (nx + 2) := F22_eq' go1 n Y x0 h nx

noncomputable def c23 : Code := (Try.f23.body).getD .skip

noncomputable def r23 : List ResultVar := Try.f23.results.toList

theorem F23_eq' (J : StepF (AV × AHeap × Nat) → StepF (AV × AHeap × Nat)) (n : Nat) (Y : YldF) (x0 : Option (Nat × Nat)) (x1_0 : Option (Nat × Nat)) (x1_1 : Int) (h : AHeap) (nx : Nat) : rootJ J Try.prog keepT (callP Try.prog keepT n) Y n 23 [(.ptr x0), (.agg [(.ptr x1_0), (.int .i64 x1_1)])] h nx =
    let h1 := AHeap.put h nx (some ⟨[(.ptr x1_0), (.int .i64 x1_1)], 2, true⟩)
    let h2 := AHeap.put h1 (nx + 1) (some ⟨[(.int .i64 0), (.int .i64 0), (.int .i64 0), (.slice none 0 false)], 4, true⟩)
    (x0).bind fun p3 =>
    (ldA h2 p3.1 p3.2).bind fun v4 =>
    (asSl v4).bind fun s5 =>
    (ldR h2 nx 0 2).bind fun l6 =>
    (asAgg 2 (AV.agg l6)).bind fun d7 =>
    (asP (d7.getD 0 .bad)).bind fun p8 =>
    (asI .i64 (d7.getD 1 .bad)).bind fun n9 =>
    let h10 := AHeap.put h2 (nx + 8) (some ⟨[(.ptr p8), (.int .i64 n9)], 2, true⟩)
    (srcS h10 (some ((nx + 8), 0)) 1 2).bind fun q11 =>
    (appD h10 s5.1 s5.2.1 s5.2.2 2 16 (nx + 9) q11).bind fun e12 =>
    let h13 := AHeap.puts h10 e12.sets
    (x0).bind fun p14 =>
    (stA h13 p14.1 p14.2 (.slice e12.a e12.n e12.c) 1).bind fun b15 =>
    let h16 := AHeap.put h13 p14.1 (some b15)
    ifApart [([(nx + 8)], [p3.1])]
    ((x0).bind fun p17 =>
    (ldA h16 p17.1 p17.2).bind fun v18 =>
    (asSl v18).bind fun s19 =>
    (ldA h16 nx 1).bind fun v20 =>
    (asI .i64 v20).bind fun n21 =>
    (stA h16 (nx + 1) 0 (.agg [(.int .i64 0), (.int .i64 (wrapA .i64 (((s19.2.1 : Nat) : Int) - 1))), (.int .i64 n21), (.slice none 0 false)]) 4).bind fun b22 =>
    let h23 := AHeap.put h16 (nx + 1) (some b22)
    (ldR h23 (nx + 1) 0 4).bind fun l24 =>
    (asAgg 4 (AV.agg l24)).bind fun d25 =>
    (asI .i64 (d25.getD 0 .bad)).bind fun n26 =>
    (asI .i64 (d25.getD 1 .bad)).bind fun n27 =>
    (asI .i64 (d25.getD 2 .bad)).bind fun n28 =>
    (asSl (d25.getD 3 .bad)).bind fun s29 =>
    some ((.agg [(.int .i64 n26), (.int .i64 n27), (.int .i64 n28), (.slice s29.1 s29.2.1 s29.2.2)]), h23, (nx + 23))) := by kernel_rfl

/-- (*quickset/tree.forest).add -/
theorem F23_eq (n : Nat) (Y : YldF) (x0 : Option (Nat × Nat)) (x1_0 : Option (Nat × Nat)) (x1_1 : Int) (h : AHeap) (nx : Nat) : callP Try.prog keepT (n + 1) Y 23 [(.ptr x0), (.agg [(.ptr x1_0), (.int .i64 x1_1)])] h nx =
    let h1 := AHeap.put h nx (some ⟨[(.ptr x1_0), (.int .i64 x1_1)], 2, true⟩)
    let h2 := AHeap.put h1 (nx + 1) (some ⟨[(.int .i64 0), (.int .i64 0), (.int .i64 0), (.slice none 0 false)], 4, true⟩)
    (x0).bind fun p3 =>
    (ldA h2 p3.1 p3.2).bind fun v4 =>
    (asSl v4).bind fun s5 =>
    (ldR h2 nx 0 2).bind fun l6 =>
    (asAgg 2 (AV.agg l6)).bind fun d7 =>
    (asP (d7.getD 0 .bad)).bind fun p8 =>
    (asI .i64 (d7.getD 1 .bad)).bind fun n9 =>
    let h10 := AHeap.put h2 (nx + 8) (some ⟨[(.ptr p8), (.int .i64 n9)], 2, true⟩)
    (srcS h10 (some ((nx + 8), 0)) 1 2).bind fun q11 =>
    (appD h10 s5.1 s5.2.1 s5.2.2 2 16 (nx + 9) q11).bind fun e12 =>
    let h13 := AHeap.puts h10 e12.sets
    (x0).bind fun p14 =>
    (stA h13 p14.1 p14.2 (.slice e12.a e12.n e12.c) 1).bind fun b15 =>
    let h16 := AHeap.put h13 p14.1 (some b15)
    ifApart [([(nx + 8)], [p3.1])]
    ((x0).bind fun p17 =>
    (ldA h16 p17.1 p17.2).bind fun v18 =>
    (asSl v18).bind fun s19 =>
    (ldA h16 nx 1).bind fun v20 =>
    (asI .i64 v20).bind fun n21 =>
    (stA h16 (nx + 1) 0 (.agg [(.int .i64 0), (.int .i64 (wrapA .i64 (((s19.2.1 : Nat) : Int) - 1))), (.int .i64 n21), (.slice none 0 false)]) 4).bind fun b22 =>
    let h23 := AHeap.put h16 (nx + 1) (some b22)
    (ldR h23 (nx + 1) 0 4).bind fun l24 =>
    (asAgg 4 (AV.agg l24)).bind fun d25 =>
    (asI .i64 (d25.getD 0 .bad)).bind fun n26 =>
    (asI .i64 (d25.getD 1 .bad)).bind fun n27 =>
    (asI .i64 (d25.getD 2 .bad)).bind fun n28 =>
    (asSl (d25.getD 3 .bad)).bind fun s29 =>
    some ((.agg [(.int .i64 n26), (.int .i64 n27), (.int .i64 n28), (.slice s29.1 s29.2.1 s29.2.2)]), h23, (nx + 23))) := F23_eq' go1 n Y x0 x1_0 x1_1 h nx

noncomputable def c24 : Code := (Try.f24.body).getD .skip

noncomputable def r24 : List ResultVar := Try.f24.results.toList

noncomputable def F24_J1' (W J : StepF (AV × AHeap × Nat) → StepF (AV × AHeap × Nat)) (call : YldF → CallF) (Y : YldF) (lf : Nat) (x0 : Option (Nat × Nat)) (x1 : Option (Nat × Nat)) (x2 : Int) (x3 : Int) (x4 : Int) (x5a : Option (Nat × Nat)) (x5n : Nat) (x5c : Bool) (h : AHeap) (nx : Nat) : Option (AV × AHeap × Nat) :=
  goK W J drawK (machOf Try.prog) call Y (keepT 24) lf c24 [1, 1] [] (retK (machOf Try.prog) ⟨c24, 108, r24, keepT 24⟩) ⟨108, mkL [(0, (.ptr x0)), (1, (.ptr x1)), (2, (.int .i64 x2)), (3, (.int .i64 x3)), (4, (.int .i64 x4)), (5, (.slice x5a x5n x5c))]⟩ h nx

noncomputable def F24_J1 (call : YldF → CallF) (Y : YldF) (lf : Nat) (x0 : Option (Nat × Nat)) (x1 : Option (Nat × Nat)) (x2 : Int) (x3 : Int) (x4 : Int) (x5a : Option (Nat × Nat)) (x5n : Nat) (x5c : Bool) (h : AHeap) (nx : Nat) : Option (AV × AHeap × Nat) := F24_J1' go1 go1 call Y lf x0 x1 x2 x3 x4 x5a x5n x5c h nx

noncomputable def F24_J2' (W J : StepF (AV × AHeap × Nat) → StepF (AV × AHeap × Nat)) (call : YldF → CallF) (Y : YldF) (lf : Nat) (x0 : Option (Nat × Nat)) (x1 : Option (Nat × Nat)) (x2 : Int) (x3 : Int) (x4 : Int) (x5a : Option (Nat × Nat)) (x5n : Nat) (x5c : Bool) (h : AHeap) (nx : Nat) : Option (AV × AHeap × Nat) :=
  goK W J drawK (machOf Try.prog) call Y (keepT 24) lf c24 [1, 1, 1] [] (retK (machOf Try.prog) ⟨c24, 108, r24, keepT 24⟩) ⟨108, mkL [(0, (.ptr x0)), (1, (.ptr x1)), (2, (.int .i64 x2)), (3, (.int .i64 x3)), (4, (.int .i64 x4)), (5, (.slice x5a x5n x5c))]⟩ h nx

noncomputable def F24_J2 (call : YldF → CallF) (Y : YldF) (lf : Nat) (x0 : Option (Nat × Nat)) (x1 : Option (Nat × Nat)) (x2 : Int) (x3 : Int) (x4 : Int) (x5a : Option (Nat × Nat)) (x5n : Nat) (x5c : Bool) (h : AHeap) (nx : Nat) : Option (AV × AHeap × Nat) := F24_J2' go1 go1 call Y lf x0 x1 x2 x3 x4 x5a x5n x5c h nx

noncomputable def F24_L3' (W J : StepF (AV × AHeap × Nat) → StepF (AV × AHeap × Nat)) (call : YldF → CallF) (Y : YldF) (lf : Nat) (n0 : Nat) (x1 : Option (Nat × Nat)) (x3 : Int) (x4 : Int) (x5a : Option (Nat × Nat)) (x5n : Nat) (x5c : Bool) (x52 : Int) (h : AHeap) (nx : Nat) : Option (AV × AHeap × Nat) :=
  goK W J drawK (machOf Try.prog) call Y (keepT 24) lf c24 [1, 1, 1, 0, 1, 0, 0, 1, 0, 9] [n0] (retK (machOf Try.prog) ⟨c24, 108, r24, keepT 24⟩) ⟨108, mkL [(1, (.ptr x1)), (3, (.int .i64 x3)), (4, (.int .i64 x4)), (5, (.slice x5a x5n x5c)), (52, (.int .i64 x52))]⟩ h nx

noncomputable def F24_L3 (call : YldF → CallF) (Y : YldF) (lf : Nat) (n0 : Nat) (x1 : Option (Nat × Nat)) (x3 : Int) (x4 : Int) (x5a : Option (Nat × Nat)) (x5n : Nat) (x5c : Bool) (x52 : Int) (h : AHeap) (nx : Nat) : Option (AV × AHeap × Nat) := F24_L3' go1 go1 call Y lf n0 x1 x3 x4 x5a x5n x5c x52 h nx

noncomputable def F24_L4' (W J : StepF (AV × AHeap × Nat) → StepF (AV × AHeap × Nat)) (call : YldF → CallF) (Y : YldF) (lf : Nat) (n0 : Nat) (x0 : Option (Nat × Nat)) (x1 : Option (Nat × Nat)) (x2 : Int) (x3 : Int) (x4 : Int) (x5a : Option (Nat × Nat)) (x5n : Nat) (x5c : Bool) (x82 : List AV) (x83 : Int) (h : AHeap) (nx : Nat) : Option (AV × AHeap × Nat) :=
  goK W J drawK (machOf Try.prog) call Y (keepT 24) lf c24 [1, 1, 1, 1, 0, 1, 0, 9] [n0] (retK (machOf Try.prog) ⟨c24, 108, r24, keepT 24⟩) ⟨108, mkL [(0, (.ptr x0)), (1, (.ptr x1)), (2, (.int .i64 x2)), (3, (.int .i64 x3)), (4, (.int .i64 x4)), (5, (.slice x5a x5n x5c)), (82, (.agg x82)), (83, (.int .i64 x83))]⟩ h nx

noncomputable def F24_L4 (call : YldF → CallF) (Y : YldF) (lf : Nat) (n0 : Nat) (x0 : Option (Nat × Nat)) (x1 : Option (Nat × Nat)) (x2 : Int) (x3 : Int) (x4 : Int) (x5a : Option (Nat × Nat)) (x5n : Nat) (x5c : Bool) (x82 : List AV) (x83 : Int) (h : AHeap) (nx : Nat) : Option (AV × AHeap × Nat) := F24_L4' go1 go1 call Y lf n0 x0 x1 x2 x3 x4 x5a x5n x5c x82 x83 h nx

theorem F24_J1_eq' (J : StepF (AV × AHeap × Nat) → StepF (AV × AHeap × Nat)) (call : YldF → CallF) (Y : YldF) (lf : Nat) (x0 : Option (Nat × Nat)) (x1 : Option (Nat × Nat)) (x2 : Int) (x3 : Int) (x4 : Int) (x5a : Option (Nat × Nat)) (x5n : Nat) (x5c : Bool) (h : AHeap) (nx : Nat) : F24_J1' go1 J call Y lf x0 x1 x2 x3 x4 x5a x5n x5c h nx =
    if (Option.isNone x1) = true then
    ((call Y 29 [(.ptr x0), (.ptr x1), (.int .i64 x2)] h (nx + 19)).bind fun r1 =>
    (asP r1.1).bind fun p2 =>
    F24_J2' J J call Y lf x0 p2 x2 x3 x4 x5a x5n x5c r1.2.1 r1.2.2)
    else
    ((x1).bind fun p3 =>
    (ldA h p3.1 (p3.2 + 1)).bind fun v4 =>
    (asI .i64 v4).bind fun n5 =>
    (x0).bind fun p6 =>
    (ldA h p6.1 p6.2).bind fun v7 =>
    (asSl v7).bind fun s8 =>
    if (decide ((n5 : Int) < ((s8.2.1 : Nat) : Int))) = true then
    ((call Y 29 [(.ptr x0), (.ptr x1), (.int .i64 x2)] h (nx + 19)).bind fun r9 =>
    (asP r9.1).bind fun p10 =>
    F24_J2' J J call Y lf x0 p10 x2 x3 x4 x5a x5n x5c r9.2.1 r9.2.2)
    else
    (F24_J2' J J call Y lf x0 x1 x2 x3 x4 x5a x5n x5c h (nx + 14))) := by kernel_rfl

theorem F24_J1_eq (call : YldF → CallF) (Y : YldF) (lf : Nat) (x0 : Option (Nat × Nat)) (x1 : Option (Nat × Nat)) (x2 : Int) (x3 : Int) (x4 : Int) (x5a : Option (Nat × Nat)) (x5n : Nat) (x5c : Bool) (h : AHeap) (nx : Nat) : F24_J1 call Y lf x0 x1 x2 x3 x4 x5a x5n x5c h nx =
    if (Option.isNone x1) = true then
    ((call Y 29 [(.ptr x0), (.ptr x1), (.int .i64 x2)] h (nx + 19)).bind fun r1 =>
    (asP r1.1).bind fun p2 =>
    F24_J2 call Y lf x0 p2 x2 x3 x4 x5a x5n x5c r1.2.1 r1.2.2)
    else
    ((x1).bind fun p3 =>
    (ldA h p3.1 (p3.2 + 1)).bind fun v4 =>
    (asI .i64 v4).bind fun n5 =>
    (x0).bind fun p6 =>
    (ldA h p6.1 p6.2).bind fun v7 =>
    (asSl v7).bind fun s8 =>
    if (decide ((n5 : Int) < ((s8.2.1 : Nat) : Int))) = true then
    ((call Y 29 [(.ptr x0), (.ptr x1), (.int .i64 x2)] h (nx + 19)).bind fun r9 =>
    (asP r9.1).bind fun p10 =>
    F24_J2 call Y lf x0 p10 x2 x3 x4 x5a x5n x5c r9.2.1 r9.2.2)
    else
    (F24_J2 call Y lf x0 x1 x2 x3 x4 x5a x5n x5c h (nx + 14))) := F24_J1_eq' go1 call Y lf x0 x1 x2 x3 x4 x5a x5n x5c h nx

theorem F24_J2_eq' (J : StepF (AV × AHeap × Nat) → StepF (AV × AHeap × Nat)) (call : YldF → CallF) (Y : YldF) (lf : Nat) (x0 : Option (Nat × Nat)) (x1 : Option (Nat × Nat)) (x2 : Int) (x3 : Int) (x4 : Int) (x5a : Option (Nat × Nat)) (x5n : Nat) (x5c : Bool) (h : AHeap) (nx : Nat) : F24_J2' go1 J call Y lf x0 x1 x2 x3 x4 x5a x5n x5c h nx =
    if ((x2 : Int) == 0) = true then
    (F24_L3' J J call Y lf lf x1 x3 x4 x5a x5n x5c 0 h (nx + 3))
    else
    ((x1).bind fun p1 =>
    (ldR h p1.1 (p1.2 + 3) 4).bind fun l2 =>
    F24_L4' J J call Y lf lf x0 x1 x2 x3 x4 x5a x5n x5c l2 0 h (nx + 7)) := by kernel_rfl

theorem F24_J2_eq (call : YldF → CallF) (Y : YldF) (lf : Nat) (x0 : Option (Nat × Nat)) (x1 : Option (Nat × Nat)) (x2 : Int) (x3 : Int) (x4 : Int) (x5a : Option (Nat × Nat)) (x5n : Nat) (x5c : Bool) (h : AHeap) (nx : Nat) : F24_J2 call Y lf x0 x1 x2 x3 x4 x5a x5n x5c h nx =
    if ((x2 : Int) == 0) = true then
    (F24_L3 call Y lf lf x1 x3 x4 x5a x5n x5c 0 h (nx + 3))
    else
    ((x1).bind fun p1 =>
    (ldR h p1.1 (p1.2 + 3) 4).bind fun l2 =>
    F24_L4 call Y lf lf x0 x1 x2 x3 x4 x5a x5n x5c l2 0 h (nx + 7)) := F24_J2_eq' go1 call Y lf x0 x1 x2 x3 x4 x5a x5n x5c h nx

theorem F24_L3_eq' (J : StepF (AV × AHeap × Nat) → StepF (AV × AHeap × Nat)) (call : YldF → CallF) (Y : YldF) (lf : Nat) (n0 : Nat) (x1 : Option (Nat × Nat)) (x3 : Int) (x4 : Int) (x5a : Option (Nat × Nat)) (x5n : Nat) (x5c : Bool) (x52 : Int) (h : AHeap) (nx : Nat) : F24_L3' go1 J call Y lf (n0 + 1) x1 x3 x4 x5a x5n x5c x52 h nx =
    if (decide ((x52 : Int) < 64)) = true then
    (if (decide (((wrapA .i64 ((wrapA .i64 (x3 + x52)) - x4)) : Int) ≥ 0)) = true then
    (if (decide (((wrapA .i64 ((wrapA .i64 (x3 + x52)) - x4)) : Int) < ((x5n : Nat) : Int))) = true then
    ((x5a).bind fun p1 =>
    if 0 ≤ ((wrapA .i64 ((wrapA .i64 (x3 + x52)) - x4)) : Int) ∧ (wrapA .i64 ((wrapA .i64 (x3 + x52)) - x4)) < ((x5n : Nat) : Int) then
    ((ldA h p1.1 (p1.2 + Int.toNat (wrapA .i64 ((wrapA .i64 (x3 + x52)) - x4)) * 1)).bind fun v2 =>
    (asI .u8 v2).bind fun n3 =>
    (x1).bind fun p4 =>
    if 0 ≤ (x52 : Int) ∧ x52 < ((64 : Nat) : Int) then
    ((stA h p4.1 ((p4.2 + 7) + Int.toNat x52 * 1) (.int .u8 n3) 1).bind fun b5 =>
    let h6 := AHeap.put h p4.1 (some b5)
    F24_L3' J J call Y lf n0 x1 x3 x4 x5a x5n x5c (wrapA .i64 (x52 + 1)) h6 (nx + 29))
    else none)
    else none)
    else
    (F24_L3' J J call Y lf n0 x1 x3 x4 x5a x5n x5c (wrapA .i64 (x52 + 1)) h (nx + 19)))
    else
    (F24_L3' J J call Y lf n0 x1 x3 x4 x5a x5n x5c (wrapA .i64 (x52 + 1)) h (nx + 19)))
    else
    (some ((.ptr x1), h, (nx + 3))) := by kernel_rfl

theorem F24_L3_eq (call : YldF → CallF) (Y : YldF) (lf : Nat) (n0 : Nat) (x1 : Option (Nat × Nat)) (x3 : Int) (x4 : Int) (x5a : Option (Nat × Nat)) (x5n : Nat) (x5c : Bool) (x52 : Int) (h : AHeap) (nx : Nat) : F24_L3 call Y lf (n0 + 1) x1 x3 x4 x5a x5n x5c x52 h nx =
    if (decide ((x52 : Int) < 64)) = true then
    (if (decide (((wrapA .i64 ((wrapA .i64 (x3 + x52)) - x4)) : Int) ≥ 0)) = true then
    (if (decide (((wrapA .i64 ((wrapA .i64 (x3 + x52)) - x4)) : Int) < ((x5n : Nat) : Int))) = true then
    ((x5a).bind fun p1 =>
    if 0 ≤ ((wrapA .i64 ((wrapA .i64 (x3 + x52)) - x4)) : Int) ∧ (wrapA .i64 ((wrapA .i64 (x3 + x52)) - x4)) < ((x5n : Nat) : Int) then
    ((ldA h p1.1 (p1.2 + Int.toNat (wrapA .i64 ((wrapA .i64 (x3 + x52)) - x4)) * 1)).bind fun v2 =>
    (asI .u8 v2).bind fun n3 =>
    (x1).bind fun p4 =>
    if 0 ≤ (x52 : Int) ∧ x52 < ((64 : Nat) : Int) then
    ((stA h p4.1 ((p4.2 + 7) + Int.toNat x52 * 1) (.int .u8 n3) 1).bind fun b5 =>
    let h6 := AHeap.put h p4.1 (some b5)
    F24_L3 call Y lf n0 x1 x3 x4 x5a x5n x5c (wrapA .i64 (x52 + 1)) h6 (nx + 29))
    else none)
    else none)
    else
    (F24_L3 call Y lf n0 x1 x3 x4 x5a x5n x5c (wrapA .i64 (x52 + 1)) h (nx + 19)))
    else
    (F24_L3 call Y lf n0 x1 x3 x4 x5a x5n x5c (wrapA .i64 (x52 + 1)) h (nx + 19)))
    else
    (some ((.ptr x1), h, (nx + 3))) := F24_L3_eq' go1 call Y lf n0 x1 x3 x4 x5a x5n x5c x52 h nx

theorem F24_L3_zero (call : YldF → CallF) (Y : YldF) (lf : Nat) (x1 : Option (Nat × Nat)) (x3 : Int) (x4 : Int) (x5a : Option (Nat × Nat)) (x5n : Nat) (x5c : Bool) (x52 : Int) (h : AHeap) (nx : Nat) : F24_L3 call Y lf 0 x1 x3 x4 x5a x5n x5c x52 h nx = none := by kernel_rfl

theorem F24_L4_eq' (J : StepF (AV × AHeap × Nat) → StepF (AV × AHeap × Nat)) (call : YldF → CallF) (Y : YldF) (lf : Nat) (n0 : Nat) (x0 : Option (Nat × Nat)) (x1 : Option (Nat × Nat)) (x2 : Int) (x3 : Int) (x4 : Int) (x5a : Option (Nat × Nat)) (x5n : Nat) (x5c : Bool) (x82 : List AV) (x83 : Int) (h : AHeap) (nx : Nat) : F24_L4' go1 J call Y lf (n0 + 1) x0 x1 x2 x3 x4 x5a x5n x5c x82 x83 h nx =
    if (decide ((x83 : Int) < 4)) = true then
    (if 0 ≤ (x83 : Int) ∧ x83 < ((4 : Nat) : Int) then
    ((x82[(Int.toNat x83 * 1)]?).bind fun c1 =>
    (asP c1).bind fun p2 =>
    (call Y 28 [(.int .i64 (wrapA .i64 (x2 - 1)))] h (nx + 25)).bind fun r3 =>
    (asI .i64 r3.1).bind fun n4 =>
    (call Y 24 [(.ptr x0), (.ptr p2), (.int .i64 (wrapA .i64 (x2 - 1))), (.int .i64 (wrapA .i64 (x3 + (wrapA .i64 (x83 * n4))))), (.int .i64 x4), (.slice x5a x5n x5c)] r3.2.1 r3.2.2).bind fun r5 =>
    (asP r5.1).bind fun p6 =>
    (x1).bind fun p7 =>
    if 0 ≤ (x83 : Int) ∧ x83 < ((4 : Nat) : Int) then
    ((stA r5.2.1 p7.1 ((p7.2 + 3) + Int.toNat x83 * 1) (.ptr p6) 1).bind fun b8 =>
    let h9 := AHeap.put r5.2.1 p7.1 (some b8)
    F24_L4' J J call Y lf n0 x0 x1 x2 x3 x4 x5a x5n x5c x82 (wrapA .i64 (x83 + 1)) h9 (r5.2.2 + 2))
    else none)
    else none)
    else
    (some ((.ptr x1), h, (nx + 3))) := by kernel_rfl

theorem F24_L4_eq (call : YldF → CallF) (Y : YldF) (lf : Nat) (n0 : Nat) (x0 : Option (Nat × Nat)) (x1 : Option (Nat × Nat)) (x2 : Int) (x3 : Int) (x4 : Int) (x5a : Option (Nat × Nat)) (x5n : Nat) (x5c : Bool) (x82 : List AV) (x83 : Int) (h : AHeap) (nx : Nat) : F24_L4 call Y lf (n0 + 1) x0 x1 x2 x3 x4 x5a x5n x5c x82 x83 h nx =
    if (decide ((x83 : Int) < 4)) = true then
    (if 0 ≤ (x83 : Int) ∧ x83 < ((4 : Nat) : Int) then
    ((x82[(Int.toNat x83 * 1)]?).bind fun c1 =>
    (asP c1).bind fun p2 =>
    (call Y 28 [(.int .i64 (wrapA .i64 (x2 - 1)))] h (nx + 25)).bind fun r3 =>
    (asI .i64 r3.1).bind fun n4 =>
    (call Y 24 [(.ptr x0), (.ptr p2), (.int .i64 (wrapA .i64 (x2 - 1))), (.int .i64 (wrapA .i64 (x3 + (wrapA .i64 (x83 * n4))))), (.int .i64 x4), (.slice x5a x5n x5c)] r3.2.1 r3.2.2).bind fun r5 =>
    (asP r5.1).bind fun p6 =>
    (x1).bind fun p7 =>
    if 0 ≤ (x83 : Int) ∧ x83 < ((4 : Nat) : Int) then
    ((stA r5.2.1 p7.1 ((p7.2 + 3) + Int.toNat x83 * 1) (.ptr p6) 1).bind fun b8 =>
    let h9 := AHeap.put r5.2.1 p7.1 (some b8)
    F24_L4 call Y lf n0 x0 x1 x2 x3 x4 x5a x5n x5c x82 (wrapA .i64 (x83 + 1)) h9 (r5.2.2 + 2))
    else none)
    else none)
    else
    (some ((.ptr x1), h, (nx + 3))) := F24_L4_eq' go1 call Y lf n0 x0 x1 x2 x3 x4 x5a x5n x5c x82 x83 h nx

theorem F24_L4_zero (call : YldF → CallF) (Y : YldF) (lf : Nat) (x0 : Option (Nat × Nat)) (x1 : Option (Nat × Nat)) (x2 : Int) (x3 : Int) (x4 : Int) (x5a : Option (Nat × Nat)) (x5n : Nat) (x5c : Bool) (x82 : List AV) (x83 : Int) (h : AHeap) (nx : Nat) : F24_L4 call Y lf 0 x0 x1 x2 x3 x4 x5a x5n x5c x82 x83 h nx = none := by kernel_rfl

theorem F24_eq' (J : StepF (AV × AHeap × Nat) → StepF (AV × AHeap × Nat)) (n : Nat) (Y : YldF) (x0 : Option (Nat × Nat)) (x1 : Option (Nat × Nat)) (x2 : Int) (x3 : Int) (x4 : Int) (x5a : Option (Nat × Nat)) (x5n : Nat) (x5c : Bool) (h : AHeap) (nx : Nat) : rootJ J Try.prog keepT (callP Try.prog keepT n) Y n 24 [(.ptr x0), (.ptr x1), (.int .i64 x2), (.int .i64 x3), (.int .i64 x4), (.slice x5a x5n x5c)] h nx =
    ((callP Try.prog keepT n) Y 28 [(.int .i64 x2)] h (nx + 15)).bind fun r1 =>
    (asI .i64 r1.1).bind fun n2 =>
    if (decide ((x4 : Int) ≥ (wrapA .i64 (x3 + n2)))) = true then
    (some ((.ptr x1), r1.2.1, (r1.2.2 + 2)))
    else
    (if (decide (((wrapA .i64 (x4 + ((x5n : Nat) : Int))) : Int) ≤ x3)) = true then
    (some ((.ptr x1), r1.2.1, (r1.2.2 + 2)))
    else
    (F24_J1' J J (callP Try.prog keepT n) Y n x0 x1 x2 x3 x4 x5a x5n x5c r1.2.1 r1.2.2)) := by kernel_rfl

/-- (*quickset/tree.forest).write -/
theorem F24_eq (n : Nat) (Y : YldF) (x0 : Option (Nat × Nat)) (x1 : Option (Nat × Nat)) (x2 : Int) (x3 : Int) (x4 : Int) (x5a : Option (Nat × Nat)) (x5n : Nat) (x5c : Bool) (h : AHeap) (nx : Nat) : callP Try.prog keepT (n + 1) Y 24 [(.ptr x0), (.ptr x1), (.int .i64 x2), (.int .i64 x3), (.int .i64 x4), (.slice x5a x5n x5c)] h nx =
    ((callP Try.prog keepT n) Y 28 [(.int .i64 x2)] h (nx + 15)).bind fun r1 =>
    (asI .i64 r1.1).bind fun n2 =>
    if (decide ((x4 : Int) ≥ (wrapA .i64 (x3 + n2)))) = true then
    (some ((.ptr x1), r1.2.1, (r1.2.2 + 2)))
    else
    (if (decide (((wrapA .i64 (x4 + ((x5n : Nat) : Int))) : Int) ≤ x3)) = true then
    (some ((.ptr x1), r1.2.1, (r1.2.2 + 2)))
    else
    (F24_J1 (callP Try.prog keepT n) Y n x0 x1 x2 x3 x4 x5a x5n x5c r1.2.1 r1.2.2)) := F24_eq' go1 n Y x0 x1 x2 x3 x4 x5a x5n x5c h nx

noncomputable def c25 : Code := (Try.f25.body).getD .skip

noncomputable def r25 : List ResultVar := Try.f25.results.toList

noncomputable def F25_L1' (W J : StepF (AV × AHeap × Nat) → StepF (AV × AHeap × Nat)) (call : YldF → CallF) (Y : YldF) (lf : Nat) (n0 : Nat) (x0 : Option (Nat × Nat)) (x2 : Int) (x7 : Option (Nat × Nat)) (h : AHeap) (nx : Nat) : Option (AV × AHeap × Nat) :=
  goK W J drawK (machOf Try.prog) call Y (keepT 25) lf c25 [1, 1, 1, 0, 0, 9] [n0] (retK (machOf Try.prog) ⟨c25, 33, r25, keepT 25⟩) ⟨33, mkL [(0, (.ptr x0)), (2, (.int .i64 x2)), (7, (.ptr x7))]⟩ h nx

noncomputable def F25_L1 (call : YldF → CallF) (Y : YldF) (lf : Nat) (n0 : Nat) (x0 : Option (Nat × Nat)) (x2 : Int) (x7 : Option (Nat × Nat)) (h : AHeap) (nx : Nat) : Option (AV × AHeap × Nat) := F25_L1' go1 go1 call Y lf n0 x0 x2 x7 h nx

theorem F25_L1_eq' (J : StepF (AV × AHeap × Nat) → StepF (AV × AHeap × Nat)) (call : YldF → CallF) (Y : YldF) (lf : Nat) (n0 : Nat) (x0 : Option (Nat × Nat)) (x2 : Int) (x7 : Option (Nat × Nat)) (h : AHeap) (nx : Nat) : F25_L1' go1 J call Y lf (n0 + 1) x0 x2 x7 h nx =
    (x7).bind fun p1 =>
    (ldA h p1.1 (p1.2 + 2)).bind fun v2 =>
    (asI .i64 v2).bind fun n3 =>
    if (decide ((n3 : Int) < x2)) = true then
    ((x7).bind fun p4 =>
    (ldA h p4.1 (p4.2 + 2)).bind fun v5 =>
    (asI .i64 v5).bind fun n6 =>
    (call Y 29 [(.ptr x0), (.ptr none), (.int .i64 (wrapA .i64 (n6 + 1)))] h (nx + 14)).bind fun r7 =>
    (asP r7.1).bind fun p8 =>
    (p8).bind fun p9 =>
    if 0 ≤ (0 : Int) ∧ 0 < ((4 : Nat) : Int) then
    ((stA r7.2.1 p9.1 ((p9.2 + 3) + Int.toNat 0 * 1) (.ptr x7) 1).bind fun b10 =>
    let h11 := AHeap.put r7.2.1 p9.1 (some b10)
    F25_L1' J J call Y lf n0 x0 x2 p8 h11 (r7.2.2 + 8))
    else none)
    else
    (some ((.ptr x7), h, (nx + 8))) := by kernel_rfl

theorem F25_L1_eq (call : YldF → CallF) (Y : YldF) (lf : Nat) (n0 : Nat) (x0 : Option (Nat × Nat)) (x2 : Int) (x7 : Option (Nat × Nat)) (h : AHeap) (nx : Nat) : F25_L1 call Y lf (n0 + 1) x0 x2 x7 h nx =
    (x7).bind fun p1 =>
    (ldA h p1.1 (p1.2 + 2)).bind fun v2 =>
    (asI .i64 v2).bind fun n3 =>
    if (decide ((n3 : Int) < x2)) = true then
    ((x7).bind fun p4 =>
    (ldA h p4.1 (p4.2 + 2)).bind fun v5 =>
    (asI .i64 v5).bind fun n6 =>
    (call Y 29 [(.ptr x0), (.ptr none), (.int .i64 (wrapA .i64 (n6 + 1)))] h (nx + 14)).bind fun r7 =>
    (asP r7.1).bind fun p8 =>
    (p8).bind fun p9 =>
    if 0 ≤ (0 : Int) ∧ 0 < ((4 : Nat) : Int) then
    ((stA r7.2.1 p9.1 ((p9.2 + 3) + Int.toNat 0 * 1) (.ptr x7) 1).bind fun b10 =>
    let h11 := AHeap.put r7.2.1 p9.1 (some b10)
    F25_L1 call Y lf n0 x0 x2 p8 h11 (r7.2.2 + 8))
    else none)
    else
    (some ((.ptr x7), h, (nx + 8))) := F25_L1_eq' go1 call Y lf n0 x0 x2 x7 h nx

theorem F25_L1_zero (call : YldF → CallF) (Y : YldF) (lf : Nat) (x0 : Option (Nat × Nat)) (x2 : Int) (x7 : Option (Nat × Nat)) (h : AHeap) (nx : Nat) : F25_L1 call Y lf 0 x0 x2 x7 h nx = none := by kernel_rfl

theorem F25_eq' (J : StepF (AV × AHeap × Nat) → StepF (AV × AHeap × Nat)) (n : Nat) (Y : YldF) (x0 : Option (Nat × Nat)) (x1_0 : Option (Nat × Nat)) (x1_1 : Int) (x2 : Int) (h : AHeap) (nx : Nat) : rootJ J Try.prog keepT (callP Try.prog keepT n) Y n 25 [(.ptr x0), (.agg [(.ptr x1_0), (.int .i64 x1_1)]), (.int .i64 x2)] h nx =
    let h1 := AHeap.put h nx (some ⟨[(.ptr x1_0), (.int .i64 x1_1)], 2, true⟩)
    (ldA h1 nx 0).bind fun v2 =>
    (asP v2).bind fun p3 =>
    if (Option.isNone p3) = true then
    (some ((.ptr none), h1, (nx + 8)))
    else
    (F25_L1' J J (callP Try.prog keepT n) Y n n x0 x2 p3 h1 (nx + 7)) := by kernel_rfl

/-- (*quickset/tree.forest).raised -/
theorem F25_eq (n : Nat) (Y : YldF) (x0 : Option (Nat × Nat)) (x1_0 : Option (Nat × Nat)) (x1_1 : Int) (x2 : Int) (h : AHeap) (nx : Nat) : callP Try.prog keepT (n + 1) Y 25 [(.ptr x0), (.agg [(.ptr x1_0), (.int .i64 x1_1)]), (.int .i64 x2)] h nx =
    let h1 := AHeap.put h nx (some ⟨[(.ptr x1_0), (.int .i64 x1_1)], 2, true⟩)
    (ldA h1 nx 0).bind fun v2 =>
    (asP v2).bind fun p3 =>
    if (Option.isNone p3) = true then
    (some ((.ptr none), h1, (nx + 8)))
    else
    (F25_L1 (callP Try.prog keepT n) Y n n x0 x2 p3 h1 (nx + 7)) := F25_eq' go1 n Y x0 x1_0 x1_1 x2 h nx

noncomputable def c26 : Code := (Try.f26.body).getD .skip

noncomputable def r26 : List ResultVar := Try.f26.results.toList

noncomputable def F26_L1' (W J : StepF (AV × AHeap × Nat) → StepF (AV × AHeap × Nat)) (call : YldF → CallF) (Y : YldF) (lf : Nat) (n0 : Nat) (x0 : Option (Nat × Nat)) (x2 : Int) (x6 : Option (Nat × Nat)) (x7 : Int) (x8 : Option (Nat × Nat)) (h : AHeap) (nx : Nat) : Option (AV × AHeap × Nat) :=
  goK W J drawK (machOf Try.prog) call Y (keepT 26) lf c26 [1, 1, 1, 0, 0, 9] [n0] (retK (machOf Try.prog) ⟨c26, 49, r26, keepT 26⟩) ⟨49, mkL [(0, (.ptr x0)), (2, (.int .i64 x2)), (6, (.ptr x6)), (7, (.int .i64 x7)), (8, (.ptr x8))]⟩ h nx

noncomputable def F26_L1 (call : YldF → CallF) (Y : YldF) (lf : Nat) (n0 : Nat) (x0 : Option (Nat × Nat)) (x2 : Int) (x6 : Option (Nat × Nat)) (x7 : Int) (x8 : Option (Nat × Nat)) (h : AHeap) (nx : Nat) : Option (AV × AHeap × Nat) := F26_L1' go1 go1 call Y lf n0 x0 x2 x6 x7 x8 h nx

noncomputable def F26_J2' (W J : StepF (AV × AHeap × Nat) → StepF (AV × AHeap × Nat)) (call : YldF → CallF) (Y : YldF) (lf : Nat) (n0 : Nat) (x0 : Option (Nat × Nat)) (x2 : Int) (x6 : Option (Nat × Nat)) (x7 : Int) (x8 : Option (Nat × Nat)) (h : AHeap) (nx : Nat) : Option (AV × AHeap × Nat) :=
  goK W J drawK (machOf Try.prog) call Y (keepT 26) lf c26 [1, 1, 1, 0, 0, 0, 1] [n0] (retK (machOf Try.prog) ⟨c26, 49, r26, keepT 26⟩) ⟨49, mkL [(0, (.ptr x0)), (2, (.int .i64 x2)), (6, (.ptr x6)), (7, (.int .i64 x7)), (8, (.ptr x8))]⟩ h nx

noncomputable def F26_J2 (call : YldF → CallF) (Y : YldF) (lf : Nat) (n0 : Nat) (x0 : Option (Nat × Nat)) (x2 : Int) (x6 : Option (Nat × Nat)) (x7 : Int) (x8 : Option (Nat × Nat)) (h : AHeap) (nx : Nat) : Option (AV × AHeap × Nat) := F26_J2' go1 go1 call Y lf n0 x0 x2 x6 x7 x8 h nx

noncomputable def F26_J3' (W J : StepF (AV × AHeap × Nat) → StepF (AV × AHeap × Nat)) (call : YldF → CallF) (Y : YldF) (lf : Nat) (x0 : Option (Nat × Nat)) (x2 : Int) (x6 : Option (Nat × Nat)) (x7 : Int) (x8 : Option (Nat × Nat)) (h : AHeap) (nx : Nat) : Option (AV × AHeap × Nat) :=
  goK W J drawK (machOf Try.prog) call Y (keepT 26) lf c26 [1, 1, 1, 1] [] (retK (machOf Try.prog) ⟨c26, 49, r26, keepT 26⟩) ⟨49, mkL [(0, (.ptr x0)), (2, (.int .i64 x2)), (6, (.ptr x6)), (7, (.int .i64 x7)), (8, (.ptr x8))]⟩ h nx

noncomputable def F26_J3 (call : YldF → CallF) (Y : YldF) (lf : Nat) (x0 : Option (Nat × Nat)) (x2 : Int) (x6 : Option (Nat × Nat)) (x7 : Int) (x8 : Option (Nat × Nat)) (h : AHeap) (nx : Nat) : Option (AV × AHeap × Nat) := F26_J3' go1 go1 call Y lf x0 x2 x6 x7 x8 h nx

noncomputable def F26_J4' (W J : StepF (AV × AHeap × Nat) → StepF (AV × AHeap × Nat)) (call : YldF → CallF) (Y : YldF) (lf : Nat) (x2 : Int) (x6 : Option (Nat × Nat)) (x8 : Option (Nat × Nat)) (h : AHeap) (nx : Nat) : Option (AV × AHeap × Nat) :=
  goK W J drawK (machOf Try.prog) call Y (keepT 26) lf c26 [1, 1, 1, 1, 1] [] (retK (machOf Try.prog) ⟨c26, 49, r26, keepT 26⟩) ⟨49, mkL [(2, (.int .i64 x2)), (6, (.ptr x6)), (8, (.ptr x8))]⟩ h nx

noncomputable def F26_J4 (call : YldF → CallF) (Y : YldF) (lf : Nat) (x2 : Int) (x6 : Option (Nat × Nat)) (x8 : Option (Nat × Nat)) (h : AHeap) (nx : Nat) : Option (AV × AHeap × Nat) := F26_J4' go1 go1 call Y lf x2 x6 x8 h nx

theorem F26_L1_eq' (J : StepF (AV × AHeap × Nat) → StepF (AV × AHeap × Nat)) (call : YldF → CallF) (Y : YldF) (lf : Nat) (n0 : Nat) (x0 : Option (Nat × Nat)) (x2 : Int) (x6 : Option (Nat × Nat)) (x7 : Int) (x8 : Option (Nat × Nat)) (h : AHeap) (nx : Nat) : F26_L1' go1 J call Y lf (n0 + 1) x0 x2 x6 x7 x8 h nx =
    if (!(Option.isNone x8)) = true then
    ((x8).bind fun p1 =>
    (ldA h p1.1 (p1.2 + 2)).bind fun v2 =>
    (asI .i64 v2).bind fun n3 =>
    if (decide ((n3 : Int) > x7)) = true then
    (F26_J2' J J call Y lf n0 x0 x2 x6 x7 x8 h (nx + 10))
    else
    (F26_J3' J J call Y lf x0 x2 x6 x7 x8 h (nx + 10)))
    else
    (F26_J3' J J call Y lf x0 x2 x6 x7 x8 h (nx + 10)) := by kernel_rfl

theorem F26_L1_eq (call : YldF → CallF) (Y : YldF) (lf : Nat) (n0 : Nat) (x0 : Option (Nat × Nat)) (x2 : Int) (x6 : Option (Nat × Nat)) (x7 : Int) (x8 : Option (Nat × Nat)) (h : AHeap) (nx : Nat) : F26_L1 call Y lf (n0 + 1) x0 x2 x6 x7 x8 h nx =
    if (!(Option.isNone x8)) = true then
    ((x8).bind fun p1 =>
    (ldA h p1.1 (p1.2 + 2)).bind fun v2 =>
    (asI .i64 v2).bind fun n3 =>
    if (decide ((n3 : Int) > x7)) = true then
    (F26_J2 call Y lf n0 x0 x2 x6 x7 x8 h (nx + 10))
    else
    (F26_J3 call Y lf x0 x2 x6 x7 x8 h (nx + 10)))
    else
    (F26_J3 call Y lf x0 x2 x6 x7 x8 h (nx + 10)) := F26_L1_eq' go1 call Y lf n0 x0 x2 x6 x7 x8 h nx

theorem F26_L1_zero (call : YldF → CallF) (Y : YldF) (lf : Nat) (x0 : Option (Nat × Nat)) (x2 : Int) (x6 : Option (Nat × Nat)) (x7 : Int) (x8 : Option (Nat × Nat)) (h : AHeap) (nx : Nat) : F26_L1 call Y lf 0 x0 x2 x6 x7 x8 h nx = none := by kernel_rfl

theorem F26_J2_eq' (J : StepF (AV × AHeap × Nat) → StepF (AV × AHeap × Nat)) (call : YldF → CallF) (Y : YldF) (lf : Nat) (n0 : Nat) (x0 : Option (Nat × Nat)) (x2 : Int) (x6 : Option (Nat × Nat)) (x7 : Int) (x8 : Option (Nat × Nat)) (h : AHeap) (nx : Nat) : F26_J2' go1 J call Y lf n0 x0 x2 x6 x7 x8 h nx =
    (x8).bind fun p1 =>
    if 0 ≤ (0 : Int) ∧ 0 < ((4 : Nat) : Int) then
    ((ldA h p1.1 ((p1.2 + 3) + Int.toNat 0 * 1)).bind fun v2 =>
    (asP v2).bind fun p3 =>
    F26_L1' J J call Y lf n0 x0 x2 x6 x7 p3 h (nx + 6))
    else none := by kernel_rfl

theorem F26_J2_eq (call : YldF → CallF) (Y : YldF) (lf : Nat) (n0 : Nat) (x0 : Option (Nat × Nat)) (x2 : Int) (x6 : Option (Nat × Nat)) (x7 : Int) (x8 : Option (Nat × Nat)) (h : AHeap) (nx : Nat) : F26_J2 call Y lf n0 x0 x2 x6 x7 x8 h nx =
    (x8).bind fun p1 =>
    if 0 ≤ (0 : Int) ∧ 0 < ((4 : Nat) : Int) then
    ((ldA h p1.1 ((p1.2 + 3) + Int.toNat 0 * 1)).bind fun v2 =>
    (asP v2).bind fun p3 =>
    F26_L1 call Y lf n0 x0 x2 x6 x7 p3 h (nx + 6))
    else none := F26_J2_eq' go1 call Y lf n0 x0 x2 x6 x7 x8 h nx

theorem F26_J3_eq' (J : StepF (AV × AHeap × Nat) → StepF (AV × AHeap × Nat)) (call : YldF → CallF) (Y : YldF) (lf : Nat) (x0 : Option (Nat × Nat)) (x2 : Int) (x6 : Option (Nat × Nat)) (x7 : Int) (x8 : Option (Nat × Nat)) (h : AHeap) (nx : Nat) : F26_J3' go1 J call Y lf x0 x2 x6 x7 x8 h nx =
    (call Y 25 [(.ptr x0), (.agg [(.ptr x8), (.int .i64 x2)]), (.int .i64 x7)] h (nx + 7)).bind fun r1 =>
    (asP r1.1).bind fun p2 =>
    if (Option.isNone p2) = true then
    (if (decide ((x2 : Int) > 0)) = true then
    ((call Y 29 [(.ptr x0), (.ptr none), (.int .i64 x7)] r1.2.1 (r1.2.2 + 10)).bind fun r3 =>
    (asP r3.1).bind fun p4 =>
    F26_J4' J J call Y lf x2 x6 p4 r3.2.1 r3.2.2)
    else
    (F26_J4' J J call Y lf x2 x6 p2 r1.2.1 (r1.2.2 + 6)))
    else
    (F26_J4' J J call Y lf x2 x6 p2 r1.2.1 (r1.2.2 + 6)) := by kernel_rfl

theorem F26_J3_eq (call : YldF → CallF) (Y : YldF) (lf : Nat) (x0 : Option (Nat × Nat)) (x2 : Int) (x6 : Option (Nat × Nat)) (x7 : Int) (x8 : Option (Nat × Nat)) (h : AHeap) (nx : Nat) : F26_J3 call Y lf x0 x2 x6 x7 x8 h nx =
    (call Y 25 [(.ptr x0), (.agg [(.ptr x8), (.int .i64 x2)]), (.int .i64 x7)] h (nx + 7)).bind fun r1 =>
    (asP r1.1).bind fun p2 =>
    if (Option.isNone p2) = true then
    (if (decide ((x2 : Int) > 0)) = true then
    ((call Y 29 [(.ptr x0), (.ptr none), (.int .i64 x7)] r1.2.1 (r1.2.2 + 10)).bind fun r3 =>
    (asP r3.1).bind fun p4 =>
    F26_J4 call Y lf x2 x6 p4 r3.2.1 r3.2.2)
    else
    (F26_J4 call Y lf x2 x6 p2 r1.2.1 (r1.2.2 + 6)))
    else
    (F26_J4 call Y lf x2 x6 p2 r1.2.1 (r1.2.2 + 6)) := F26_J3_eq' go1 call Y lf x0 x2 x6 x7 x8 h nx

theorem F26_J4_eq' (J : StepF (AV × AHeap × Nat) → StepF (AV × AHeap × Nat)) (call : YldF → CallF) (Y : YldF) (lf : Nat) (x2 : Int) (x6 : Option (Nat × Nat)) (x8 : Option (Nat × Nat)) (h : AHeap) (nx : Nat) : F26_J4' go1 J call Y lf x2 x6 x8 h nx =
    (x6).bind fun p1 =>
    (stA h p1.1 p1.2 (.agg [(.ptr x8), (.int .i64 x2)]) 2).bind fun b2 =>
    let h3 := AHeap.put h p1.1 (some b2)
    (x6).bind fun p4 =>
    (ldR h3 p4.1 p4.2 2).bind fun l5 =>
    (asAgg 2 (AV.agg l5)).bind fun d6 =>
    (asP (d6.getD 0 .bad)).bind fun p7 =>
    (asI .i64 (d6.getD 1 .bad)).bind fun n8 =>
    some ((.agg [(.ptr p7), (.int .i64 n8)]), h3, (nx + 4)) := by kernel_rfl

theorem F26_J4_eq (call : YldF → CallF) (Y : YldF) (lf : Nat) (x2 : Int) (x6 : Option (Nat × Nat)) (x8 : Option (Nat × Nat)) (h : AHeap) (nx : Nat) : F26_J4 call Y lf x2 x6 x8 h nx =
    (x6).bind fun p1 =>
    (stA h p1.1 p1.2 (.agg [(.ptr x8), (.int .i64 x2)]) 2).bind fun b2 =>
    let h3 := AHeap.put h p1.1 (some b2)
    (x6).bind fun p4 =>
    (ldR h3 p4.1 p4.2 2).bind fun l5 =>
    (asAgg 2 (AV.agg l5)).bind fun d6 =>
    (asP (d6.getD 0 .bad)).bind fun p7 =>
    (asI .i64 (d6.getD 1 .bad)).bind fun n8 =>
    some ((.agg [(.ptr p7), (.int .i64 n8)]), h3, (nx + 4)) := F26_J4_eq' go1 call Y lf x2 x6 x8 h nx

theorem F26_eq' (J : StepF (AV × AHeap × Nat) → StepF (AV × AHeap × Nat)) (n : Nat) (Y : YldF) (x0 : Option (Nat × Nat)) (x1_0 : Option (Nat × Nat)) (x1_1 : Int) (x2 : Int) (h : AHeap) (nx : Nat) : rootJ J Try.prog keepT (callP Try.prog keepT n) Y n 26 [(.ptr x0), (.agg [(.ptr x1_0), (.int .i64 x1_1)]), (.int .i64 x2)] h nx =
    let h1 := AHeap.put h nx (some ⟨[(.ptr x1_0), (.int .i64 x1_1)], 2, true⟩)
    let h2 := AHeap.put h1 (nx + 1) (some ⟨[(.ptr none), (.int .i64 0)], 2, true⟩)
    ((callP Try.prog keepT n) Y 22 [(.int .i64 x2)] h2 (nx + 5)).bind fun r3 =>
    (asI .i64 r3.1).bind fun n4 =>
    (ldA r3.2.1 nx 0).bind fun v5 =>
    (asP v5).bind fun p6 =>
    ((callP Try.prog keepT n) Y 30 [(.ptr x0), (.ptr p6), (.int .i64 0), (.int .i64 x2)] r3.2.1 (r3.2.2 + 6)).bind fun r7 =>
    (asP r7.1).bind fun p8 =>
    F26_L1' J J (callP Try.prog keepT n) Y n n x0 x2 (some ((nx + 1), 0)) n4 p8 r7.2.1 r7.2.2 := by kernel_rfl

/-- (*quickset/tree.forest).resized -/
theorem F26_eq (n : Nat) (Y : YldF) (x0 : Option (Nat × Nat)) (x1_0 : Option (Nat × Nat)) (x1_1 : Int) (x2 : Int) (h : AHeap) (nx : Nat) : callP Try.prog keepT (n + 1) Y 26 [(.ptr x0), (.agg [(.ptr x1_0), (.int .i64 x1_1)]), (.int .i64 x2)] h nx =
    let h1 := AHeap.put h nx (some ⟨[(.ptr x1_0), (.int .i64 x1_1)], 2, true⟩)
    let h2 := AHeap.put h1 (nx + 1) (some ⟨[(.ptr none), (.int .i64 0)], 2, true⟩)
    ((callP Try.prog keepT n) Y 22 [(.int .i64 x2)] h2 (nx + 5)).bind fun r3 =>
    (asI .i64 r3.1).bind fun n4 =>
    (ldA r3.2.1 nx 0).bind fun v5 =>
    (asP v5).bind fun p6 =>
    ((callP Try.prog keepT n) Y 30 [(.ptr x0), (.ptr p6), (.int .i64 0), (.int .i64 x2)] r3.2.1 (r3.2.2 + 6)).bind fun r7 =>
    (asP r7.1).bind fun p8 =>
    F26_L1 (callP Try.prog keepT n) Y n n x0 x2 (some ((nx + 1), 0)) n4 p8 r7.2.1 r7.2.2 := F26_eq' go1 n Y x0 x1_0 x1_1 x2 h nx

noncomputable def c27 : Code := (Try.f27.body).getD .skip

noncomputable def r27 : List ResultVar := Try.f27.results.toList

theorem F27_eq' (J : StepF (AV × AHeap × Nat) → StepF (AV × AHeap × Nat)) (n : Nat) (Y : YldF) (x0_0 : Option (Nat × Nat)) (x0_1 : Int) (x1 : Int) (x2 : Int) (h : AHeap) (nx : Nat) : rootJ J Try.prog keepT (callP Try.prog keepT n) Y n 27 [(.agg [(.ptr x0_0), (.int .i64 x0_1)]), (.int .i64 x1), (.int .i64 x2)] h nx =
    let h1 := AHeap.put h nx (some ⟨[(.ptr x0_0), (.int .i64 x0_1)], 2, true⟩)
    (ldA h1 nx 1).bind fun v2 =>
    (asI .i64 v2).bind fun n3 =>
    if (decide ((x1 : Int) ≥ n3)) = true then
    (some ((.slice none 0 false), h1, (nx + 7)))
    else
    ((ldA h1 nx 1).bind fun v4 =>
    (asI .i64 v4).bind fun n5 =>
    if (decide (0 ≤ ((if (wrapA .i64 (n5 - x1)) < x2 then (wrapA .i64 (n5 - x1)) else x2) : Int)) && decide (((if (wrapA .i64 (n5 - x1)) < x2 then (wrapA .i64 (n5 - x1)) else x2) : Int) ≤ (if (wrapA .i64 (n5 - x1)) < x2 then (wrapA .i64 (n5 - x1)) else x2)) && decide (((1 : Nat) : Int) * (if (wrapA .i64 (n5 - x1)) < x2 then (wrapA .i64 (n5 - x1)) else x2) ≤ 281474976710656) && decide (((if (wrapA .i64 (n5 - x1)) < x2 then (wrapA .i64 (n5 - x1)) else x2) : Int) ≤ 9223372036854775807) && 1 != 0) = true then
    (let h6 := AHeap.put h1 (nx + 12) (some ⟨(madeA [(.int .u8 0)] (Int.toNat (if (wrapA .i64 (n5 - x1)) < x2 then (wrapA .i64 (n5 - x1)) else x2) * 1)), 1, true⟩)
    (ldA h6 nx 0).bind fun v7 =>
    (asP v7).bind fun p8 =>
    ((callP Try.prog keepT n) Y 31 [(.ptr p8), (.int .i64 0), (.int .i64 x1), (.slice (some ((nx + 12), 0)) (Int.toNat (if (wrapA .i64 (n5 - x1)) < x2 then (wrapA .i64 (n5 - x1)) else x2)) ((if (wrapA .i64 (n5 - x1)) < x2 then (wrapA .i64 (n5 - x1)) else x2) == (if (wrapA .i64 (n5 - x1)) < x2 then (wrapA .i64 (n5 - x1)) else x2)))] h6 (nx + 19)).bind fun r9 =>
    (asTup 0 r9.1).bind fun d10 =>
    some ((.slice (some ((nx + 12), 0)) (Int.toNat (if (wrapA .i64 (n5 - x1)) < x2 then (wrapA .i64 (n5 - x1)) else x2)) ((if (wrapA .i64 (n5 - x1)) < x2 then (wrapA .i64 (n5 - x1)) else x2) == (if (wrapA .i64 (n5 - x1)) < x2 then (wrapA .i64 (n5 - x1)) else x2))), r9.2.1, (r9.2.2 + 2)))
    else none) := by kernel_rfl

/-- (quickset/tree.version).read -/
theorem F27_eq (n : Nat) (Y : YldF) (x0_0 : Option (Nat × Nat)) (x0_1 : Int) (x1 : Int) (x2 : Int) (h : AHeap) (nx : Nat) : callP Try.prog keepT (n + 1) Y 27 [(.agg [(.ptr x0_0), (.int .i64 x0_1)]), (.int .i64 x1), (.int .i64 x2)] h nx =
    let h1 := AHeap.put h nx (some ⟨[(.ptr x0_0), (.int .i64 x0_1)], 2, true⟩)
    (ldA h1 nx 1).bind fun v2 =>
    (asI .i64 v2).bind fun n3 =>
    if (decide ((x1 : Int) ≥ n3)) = true then
    (some ((.slice none 0 false), h1, (nx + 7)))
    else
    ((ldA h1 nx 1).bind fun v4 =>
    (asI .i64 v4).bind fun n5 =>
    if (decide (0 ≤ ((if (wrapA .i64 (n5 - x1)) < x2 then (wrapA .i64 (n5 - x1)) else x2) : Int)) && decide (((if (wrapA .i64 (n5 - x1)) < x2 then (wrapA .i64 (n5 - x1)) else x2) : Int) ≤ (if (wrapA .i64 (n5 - x1)) < x2 then (wrapA .i64 (n5 - x1)) else x2)) && decide (((1 : Nat) : Int) * (if (wrapA .i64 (n5 - x1)) < x2 then (wrapA .i64 (n5 - x1)) else x2) ≤ 281474976710656) && decide (((if (wrapA .i64 (n5 - x1)) < x2 then (wrapA .i64 (n5 - x1)) else x2) : Int) ≤ 9223372036854775807) && 1 != 0) = true then
    (let h6 := AHeap.put h1 (nx + 12) (some ⟨(madeA [(.int .u8 0)] (Int.toNat (if (wrapA .i64 (n5 - x1)) < x2 then (wrapA .i64 (n5 - x1)) else x2) * 1)), 1, true⟩)
    (ldA h6 nx 0).bind fun v7 =>
    (asP v7).bind fun p8 =>
    ((callP Try.prog keepT n) Y 31 [(.ptr p8), (.int .i64 0), (.int .i64 x1), (.slice (some ((nx + 12), 0)) (Int.toNat (if (wrapA .i64 (n5 - x1)) < x2 then (wrapA .i64 (n5 - x1)) else x2)) ((if (wrapA .i64 (n5 - x1)) < x2 then (wrapA .i64 (n5 - x1)) else x2) == (if (wrapA .i64 (n5 - x1)) < x2 then (wrapA .i64 (n5 - x1)) else x2)))] h6 (nx + 19)).bind fun r9 =>
    (asTup 0 r9.1).bind fun d10 =>
    some ((.slice (some ((nx + 12), 0)) (Int.toNat (if (wrapA .i64 (n5 - x1)) < x2 then (wrapA .i64 (n5 - x1)) else x2)) ((if (wrapA .i64 (n5 - x1)) < x2 then (wrapA .i64 (n5 - x1)) else x2) == (if (wrapA .i64 (n5 - x1)) < x2 then (wrapA .i64 (n5 - x1)) else x2))), r9.2.1, (r9.2.2 + 2)))
    else none) := F27_eq' go1 n Y x0_0 x0_1 x1 x2 h nx

noncomputable def c28 : Code := (Try.f28.body).getD .skip

noncomputable def r28 : List ResultVar := Try.f28.results.toList

theorem F28_eq' (J : StepF (AV × AHeap × Nat) → StepF (AV × AHeap × Nat)) (n : Nat) (Y : YldF) (x0 : Int) (h : AHeap) (nx : Nat) : rootJ J Try.prog keepT (callP Try.prog keepT n) Y n 28 [(.int .i64 x0)] h nx =
    if ((wrapA .i64 (2 * x0)) : Int) < 0 then none else
    (some ((.int .i64 (wrapA .i64 (64 * (2:Int) ^ min (Int.toNat (wrapA .i64 (2 * x0))) (IntKind.bits .i64)))), h, (nx + 5))) := by kernel_rfl

/-- quickset/tree.room -/
theorem F28_eq (n : Nat) (Y : YldF) (x0 : Int) (h : AHeap) (nx : Nat) : callP Try.prog keepT (n + 1) Y 28 [(.int .i64 x0)] h nx =
    if ((wrapA .i64 (2 * x0)) : Int) < 0 then none else
    (some ((.int .i64 (wrapA .i64 (64 * (2:Int) ^ min (Int.toNat (wrapA .i64 (2 * x0))) (IntKind.bits .i64)))), h, (nx + 5))) := F28_eq' go1 n Y x0 h nx

noncomputable def c29 : Code := (Try.f29.body).getD .skip

noncomputable def r29 : List ResultVar := Try.f29.results.toList

noncomputable def F29_J1' (W J : StepF (AV × AHeap × Nat) → StepF (AV × AHeap × Nat)) (call : YldF → CallF) (Y : YldF) (lf : Nat) (x0 : Option (Nat × Nat)) (x7 : Option (Nat × Nat)) (h : AHeap) (nx : Nat) : Option (AV × AHeap × Nat) :=
  goK W J drawK (machOf Try.prog) call Y (keepT 29) lf c29 [1, 1, 1] [] (retK (machOf Try.prog) ⟨c29, 41, r29, keepT 29⟩) ⟨41, mkL [(0, (.ptr x0)), (7, (.ptr x7))]⟩ h nx

noncomputable def F29_J1 (call : YldF → CallF) (Y : YldF) (lf : Nat) (x0 : Option (Nat × Nat)) (x7 : Option (Nat × Nat)) (h : AHeap) (nx : Nat) : Option (AV × AHeap × Nat) := F29_J1' go1 go1 call Y lf x0 x7 h nx

theorem F29_J1_eq' (J : StepF (AV × AHeap × Nat) → StepF (AV × AHeap × Nat)) (call : YldF → CallF) (Y : YldF) (lf : Nat) (x0 : Option (Nat × Nat)) (x7 : Option (Nat × Nat)) (h : AHeap) (nx : Nat) : F29_J1' go1 J call Y lf x0 x7 h nx =
    (x0).bind fun p1 =>
    (ldA h p1.1 (p1.2 + 1)).bind fun v2 =>
    (asI .i64 v2).bind fun n3 =>
    (x0).bind fun p4 =>
    (stA h p4.1 (p4.2 + 1) (.int .i64 (wrapA .i64 (n3 + 1))) 1).bind fun b5 =>
    let h6 := AHeap.put h p4.1 (some b5)
    (x0).bind fun p7 =>
    (ldA h6 p7.1 (p7.2 + 1)).bind fun v8 =>
    (asI .i64 v8).bind fun n9 =>
    (x0).bind fun p10 =>
    (ldA h6 p10.1 p10.2).bind fun v11 =>
    (asSl v11).bind fun s12 =>
    (x7).bind fun p13 =>
    (stA h6 p13.1 p13.2 (.int .i64 n9) 1).bind fun b14 =>
    let h15 := AHeap.put h6 p13.1 (some b14)
    (x7).bind fun p16 =>
    (stA h15 p16.1 (p16.2 + 1) (.int .i64 ((s12.2.1 : Nat) : Int)) 1).bind fun b17 =>
    let h18 := AHeap.put h15 p16.1 (some b17)
    some ((.ptr x7), h18, (nx + 27)) := by kernel_rfl

theorem F29_J1_eq (call : YldF → CallF) (Y : YldF) (lf : Nat) (x0 : Option (Nat × Nat)) (x7 : Option (Nat × Nat)) (h : AHeap) (nx : Nat) : F29_J1 call Y lf x0 x7 h nx =
    (x0).bind fun p1 =>
    (ldA h p1.1 (p1.2 + 1)).bind fun v2 =>
    (asI .i64 v2).bind fun n3 =>
    (x0).bind fun p4 =>
    (stA h p4.1 (p4.2 + 1) (.int .i64 (wrapA .i64 (n3 + 1))) 1).bind fun b5 =>
    let h6 := AHeap.put h p4.1 (some b5)
    (x0).bind fun p7 =>
    (ldA h6 p7.1 (p7.2 + 1)).bind fun v8 =>
    (asI .i64 v8).bind fun n9 =>
    (x0).bind fun p10 =>
    (ldA h6 p10.1 p10.2).bind fun v11 =>
    (asSl v11).bind fun s12 =>
    (x7).bind fun p13 =>
    (stA h6 p13.1 p13.2 (.int .i64 n9) 1).bind fun b14 =>
    let h15 := AHeap.put h6 p13.1 (some b14)
    (x7).bind fun p16 =>
    (stA h15 p16.1 (p16.2 + 1) (.int .i64 ((s12.2.1 : Nat) : Int)) 1).bind fun b17 =>
    let h18 := AHeap.put h15 p16.1 (some b17)
    some ((.ptr x7), h18, (nx + 27)) := F29_J1_eq' go1 call Y lf x0 x7 h nx

theorem F29_eq' (J : StepF (AV × AHeap × Nat) → StepF (AV × AHeap × Nat)) (n : Nat) (Y : YldF) (x0 : Option (Nat × Nat)) (x1 : Option (Nat × Nat)) (x2 : Int) (h : AHeap) (nx : Nat) : rootJ J Try.prog keepT (callP Try.prog keepT n) Y n 29 [(.ptr x0), (.ptr x1), (.int .i64 x2)] h nx =
    let h1 := AHeap.put h (nx + 3) (some ⟨[(.int .i64 0), (.int .i64 0), (.int .i64 x2), (.ptr none), (.ptr none), (.ptr none), (.ptr none), (.int .u8 0), (.int .u8 0), (.int .u8 0), (.int .u8 0), (.int .u8 0), (.int .u8 0), (.int .u8 0), (.int .u8 0), (.int .u8 0), (.int .u8 0), (.int .u8 0), (.int .u8 0), (.int .u8 0), (.int .u8 0), (.int .u8 0), (.int .u8 0), (.int .u8 0), (.int .u8 0), (.int .u8 0), (.int .u8 0), (.int .u8 0), (.int .u8 0), (.int .u8 0), (.int .u8 0), (.int .u8 0), (.int .u8 0), (.int .u8 0), (.int .u8 0), (.int .u8 0), (.int .u8 0), (.int .u8 0), (.int .u8 0), (.int .u8 0), (.int .u8 0), (.int .u8 0), (.int .u8 0), (.int .u8 0), (.int .u8 0), (.int .u8 0), (.int .u8 0), (.int .u8 0), (.int .u8 0), (.int .u8 0), (.int .u8 0), (.int .u8 0), (.int .u8 0), (.int .u8 0), (.int .u8 0), (.int .u8 0), (.int .u8 0), (.int .u8 0), (.int .u8 0), (.int .u8 0), (.int .u8 0), (.int .u8 0), (.int .u8 0), (.int .u8 0), (.int .u8 0), (.int .u8 0), (.int .u8 0), (.int .u8 0), (.int .u8 0), (.int .u8 0), (.int .u8 0)], 1, true⟩)
    if (!(Option.isNone x1)) = true then
    ((x1).bind fun p2 =>
    (ldR h1 p2.1 p2.2 71).bind fun l3 =>
    (stA h1 (nx + 3) 0 (.agg l3) 71).bind fun b4 =>
    let h5 := AHeap.put h1 (nx + 3) (some b4)
    F29_J1' J J (callP Try.prog keepT n) Y n x0 (some ((nx + 3), 0)) h5 (nx + 13))
    else
    (F29_J1' J J (callP Try.prog keepT n) Y n x0 (some ((nx + 3), 0)) h1 (nx + 7)) := by kernel_rfl

/-- (*quickset/tree.forest).fresh -/
theorem F29_eq (n : Nat) (Y : YldF) (x0 : Option (Nat × Nat)) (x1 : Option (Nat × Nat)) (x2 : Int) (h : AHeap) (nx : Nat) : callP Try.prog keepT (n + 1) Y 29 [(.ptr x0), (.ptr x1), (.int .i64 x2)] h nx =
    let h1 := AHeap.put h (nx + 3) (some ⟨[(.int .i64 0), (.int .i64 0), (.int .i64 x2), (.ptr none), (.ptr none), (.ptr none), (.ptr none), (.int .u8 0), (.int .u8 0), (.int .u8 0), (.int .u8 0), (.int .u8 0), (.int .u8 0), (.int .u8 0), (.int .u8 0), (.int .u8 0), (.int .u8 0), (.int .u8 0), (.int .u8 0), (.int .u8 0), (.int .u8 0), (.int .u8 0), (.int .u8 0), (.int .u8 0), (.int .u8 0), (.int .u8 0), (.int .u8 0), (.int .u8 0), (.int .u8 0), (.int .u8 0), (.int .u8 0), (.int .u8 0), (.int .u8 0), (.int .u8 0), (.int .u8 0), (.int .u8 0), (.int .u8 0), (.int .u8 0), (.int .u8 0), (.int .u8 0), (.int .u8 0), (.int .u8 0), (.int .u8 0), (.int .u8 0), (.int .u8 0), (.int .u8 0), (.int .u8 0), (.int .u8 0), (.int .u8 0), (.int .u8 0), (.int .u8 0), (.int .u8 0), (.int .u8 0), (.int .u8 0), (.int .u8 0), (.int .u8 0), (.int .u8 0), (.int .u8 0), (.int .u8 0), (.int .u8 0), (.int .u8 0), (.int .u8 0), (.int .u8 0), (.int .u8 0), (.int .u8 0), (.int .u8 0), (.int .u8 0), (.int .u8 0), (.int .u8 0), (.int .u8 0), (.int .u8 0)], 1, true⟩)
    if (!(Option.isNone x1)) = true then
    ((x1).bind fun p2 =>
    (ldR h1 p2.1 p2.2 71).bind fun l3 =>
    (stA h1 (nx + 3) 0 (.agg l3) 71).bind fun b4 =>
    let h5 := AHeap.put h1 (nx + 3) (some b4)
    F29_J1 (callP Try.prog keepT n) Y n x0 (some ((nx + 3), 0)) h5 (nx + 13))
    else
    (F29_J1 (callP Try.prog keepT n) Y n x0 (some ((nx + 3), 0)) h1 (nx + 7)) := F29_eq' go1 n Y x0 x1 x2 h nx

noncomputable def c30 : Code := (Try.f30.body).getD .skip

noncomputable def r30 : List ResultVar := Try.f30.results.toList

noncomputable def F30_J1' (W J : StepF (AV × AHeap × Nat) → StepF (AV × AHeap × Nat)) (call : YldF → CallF) (Y : YldF) (lf : Nat) (x0 : Option (Nat × Nat)) (x1 : Option (Nat × Nat)) (x2 : Int) (x3 : Int) (h : AHeap) (nx : Nat) : Option (AV × AHeap × Nat) :=
  goK W J drawK (machOf Try.prog) call Y (keepT 30) lf c30 [1, 1] [] (retK (machOf Try.prog) ⟨c30, 79, r30, keepT 30⟩) ⟨79, mkL [(0, (.ptr x0)), (1, (.ptr x1)), (2, (.int .i64 x2)), (3, (.int .i64 x3))]⟩ h nx

noncomputable def F30_J1 (call : YldF → CallF) (Y : YldF) (lf : Nat) (x0 : Option (Nat × Nat)) (x1 : Option (Nat × Nat)) (x2 : Int) (x3 : Int) (h : AHeap) (nx : Nat) : Option (AV × AHeap × Nat) := F30_J1' go1 go1 call Y lf x0 x1 x2 x3 h nx

noncomputable def F30_L2' (W J : StepF (AV × AHeap × Nat) → StepF (AV × AHeap × Nat)) (call : YldF → CallF) (Y : YldF) (lf : Nat) (n0 : Nat) (x0 : Option (Nat × Nat)) (x1 : Option (Nat × Nat)) (x2 : Int) (x3 : Int) (x53 : List AV) (x54 : Int) (h : AHeap) (nx : Nat) : Option (AV × AHeap × Nat) :=
  goK W J drawK (machOf Try.prog) call Y (keepT 30) lf c30 [1, 1, 1, 1, 0, 1, 0, 9] [n0] (retK (machOf Try.prog) ⟨c30, 79, r30, keepT 30⟩) ⟨79, mkL [(0, (.ptr x0)), (1, (.ptr x1)), (2, (.int .i64 x2)), (3, (.int .i64 x3)), (53, (.agg x53)), (54, (.int .i64 x54))]⟩ h nx

noncomputable def F30_L2 (call : YldF → CallF) (Y : YldF) (lf : Nat) (n0 : Nat) (x0 : Option (Nat × Nat)) (x1 : Option (Nat × Nat)) (x2 : Int) (x3 : Int) (x53 : List AV) (x54 : Int) (h : AHeap) (nx : Nat) : Option (AV × AHeap × Nat) := F30_L2' go1 go1 call Y lf n0 x0 x1 x2 x3 x53 x54 h nx

theorem F30_J1_eq' (J : StepF (AV × AHeap × Nat) → StepF (AV × AHeap × Nat)) (call : YldF → CallF) (Y : YldF) (lf : Nat) (x0 : Option (Nat × Nat)) (x1 : Option (Nat × Nat)) (x2 : Int) (x3 : Int) (h : AHeap) (nx : Nat) : F30_J1' go1 J call Y lf x0 x1 x2 x3 h nx =
    (x1).bind fun p1 =>
    (ldA h p1.1 (p1.2 + 2)).bind fun v2 =>
    (asI .i64 v2).bind fun n3 =>
    (call Y 29 [(.ptr x0), (.ptr x1), (.int .i64 n3)] h (nx + 8)).bind fun r4 =>
    (asP r4.1).bind fun p5 =>
    (p5).bind fun p6 =>
    (ldA r4.2.1 p6.1 (p6.2 + 2)).bind fun v7 =>
    (asI .i64 v7).bind fun n8 =>
    if ((n8 : Int) == 0) = true then
    ((p5).bind fun p9 =>
    (cutR r4.2.1 (some (p9.1, (p9.2 + 7))) 64 1 (some (.int .i64 (wrapA .i64 (x3 - x2)))) none none).bind fun s10 =>
    (cleD r4.2.1 s10.1 s10.2.1 1 [(.int .u8 0)]).bind fun q11 =>
    let h12 := AHeap.puts r4.2.1 q11.1
    some ((.ptr p5), h12, (r4.2.2 + 15)))
    else
    ((p5).bind fun p13 =>
    (ldR r4.2.1 p13.1 (p13.2 + 3) 4).bind fun l14 =>
    F30_L2' J J call Y lf lf x0 p5 x2 x3 l14 0 r4.2.1 (r4.2.2 + 10)) := by kernel_rfl

theorem F30_J1_eq (call : YldF → CallF) (Y : YldF) (lf : Nat) (x0 : Option (Nat × Nat)) (x1 : Option (Nat × Nat)) (x2 : Int) (x3 : Int) (h : AHeap) (nx : Nat) : F30_J1 call Y lf x0 x1 x2 x3 h nx =
    (x1).bind fun p1 =>
    (ldA h p1.1 (p1.2 + 2)).bind fun v2 =>
    (asI .i64 v2).bind fun n3 =>
    (call Y 29 [(.ptr x0), (.ptr x1), (.int .i64 n3)] h (nx + 8)).bind fun r4 =>
    (asP r4.1).bind fun p5 =>
    (p5).bind fun p6 =>
    (ldA r4.2.1 p6.1 (p6.2 + 2)).bind fun v7 =>
    (asI .i64 v7).bind fun n8 =>
    if ((n8 : Int) == 0) = true then
    ((p5).bind fun p9 =>
    (cutR r4.2.1 (some (p9.1, (p9.2 + 7))) 64 1 (some (.int .i64 (wrapA .i64 (x3 - x2)))) none none).bind fun s10 =>
    (cleD r4.2.1 s10.1 s10.2.1 1 [(.int .u8 0)]).bind fun q11 =>
    let h12 := AHeap.puts r4.2.1 q11.1
    some ((.ptr p5), h12, (r4.2.2 + 15)))
    else
    ((p5).bind fun p13 =>
    (ldR r4.2.1 p13.1 (p13.2 + 3) 4).bind fun l14 =>
    F30_L2 call Y lf lf x0 p5 x2 x3 l14 0 r4.2.1 (r4.2.2 + 10)) := F30_J1_eq' go1 call Y lf x0 x1 x2 x3 h nx

theorem F30_L2_eq' (J : StepF (AV × AHeap × Nat) → StepF (AV × AHeap × Nat)) (call : YldF → CallF) (Y : YldF) (lf : Nat) (n0 : Nat) (x0 : Option (Nat × Nat)) (x1 : Option (Nat × Nat)) (x2 : Int) (x3 : Int) (x53 : List AV) (x54 : Int) (h : AHeap) (nx : Nat) : F30_L2' go1 J call Y lf (n0 + 1) x0 x1 x2 x3 x53 x54 h nx =
    if (decide ((x54 : Int) < 4)) = true then
    (if 0 ≤ (x54 : Int) ∧ x54 < ((4 : Nat) : Int) then
    ((x53[(Int.toNat x54 * 1)]?).bind fun c1 =>
    (asP c1).bind fun p2 =>
    (x1).bind fun p3 =>
    (ldA h p3.1 (p3.2 + 2)).bind fun v4 =>
    (asI .i64 v4).bind fun n5 =>
    (call Y 28 [(.int .i64 (wrapA .i64 (n5 - 1)))] h (nx + 25)).bind fun r6 =>
    (asI .i64 r6.1).bind fun n7 =>
    (call Y 30 [(.ptr x0), (.ptr p2), (.int .i64 (wrapA .i64 (x2 + (wrapA .i64 (x54 * n7))))), (.int .i64 x3)] r6.2.1 r6.2.2).bind fun r8 =>
    (asP r8.1).bind fun p9 =>
    (x1).bind fun p10 =>
    if 0 ≤ (x54 : Int) ∧ x54 < ((4 : Nat) : Int) then
    ((stA r8.2.1 p10.1 ((p10.2 + 3) + Int.toNat x54 * 1) (.ptr p9) 1).bind fun b11 =>
    let h12 := AHeap.put r8.2.1 p10.1 (some b11)
    F30_L2' J J call Y lf n0 x0 x1 x2 x3 x53 (wrapA .i64 (x54 + 1)) h12 (r8.2.2 + 2))
    else none)
    else none)
    else
    (some ((.ptr x1), h, (nx + 3))) := by kernel_rfl

theorem F30_L2_eq (call : YldF → CallF) (Y : YldF) (lf : Nat) (n0 : Nat) (x0 : Option (Nat × Nat)) (x1 : Option (Nat × Nat)) (x2 : Int) (x3 : Int) (x53 : List AV) (x54 : Int) (h : AHeap) (nx : Nat) : F30_L2 call Y lf (n0 + 1) x0 x1 x2 x3 x53 x54 h nx =
    if (decide ((x54 : Int) < 4)) = true then
    (if 0 ≤ (x54 : Int) ∧ x54 < ((4 : Nat) : Int) then
    ((x53[(Int.toNat x54 * 1)]?).bind fun c1 =>
    (asP c1).bind fun p2 =>
    (x1).bind fun p3 =>
    (ldA h p3.1 (p3.2 + 2)).bind fun v4 =>
    (asI .i64 v4).bind fun n5 =>
    (call Y 28 [(.int .i64 (wrapA .i64 (n5 - 1)))] h (nx + 25)).bind fun r6 =>
    (asI .i64 r6.1).bind fun n7 =>
    (call Y 30 [(.ptr x0), (.ptr p2), (.int .i64 (wrapA .i64 (x2 + (wrapA .i64 (x54 * n7))))), (.int .i64 x3)] r6.2.1 r6.2.2).bind fun r8 =>
    (asP r8.1).bind fun p9 =>
    (x1).bind fun p10 =>
    if 0 ≤ (x54 : Int) ∧ x54 < ((4 : Nat) : Int) then
    ((stA r8.2.1 p10.1 ((p10.2 + 3) + Int.toNat x54 * 1) (.ptr p9) 1).bind fun b11 =>
    let h12 := AHeap.put r8.2.1 p10.1 (some b11)
    F30_L2 call Y lf n0 x0 x1 x2 x3 x53 (wrapA .i64 (x54 + 1)) h12 (r8.2.2 + 2))
    else none)
    else none)
    else
    (some ((.ptr x1), h, (nx + 3))) := F30_L2_eq' go1 call Y lf n0 x0 x1 x2 x3 x53 x54 h nx

theorem F30_L2_zero (call : YldF → CallF) (Y : YldF) (lf : Nat) (x0 : Option (Nat × Nat)) (x1 : Option (Nat × Nat)) (x2 : Int) (x3 : Int) (x53 : List AV) (x54 : Int) (h : AHeap) (nx : Nat) : F30_L2 call Y lf 0 x0 x1 x2 x3 x53 x54 h nx = none := by kernel_rfl

theorem F30_eq' (J : StepF (AV × AHeap × Nat) → StepF (AV × AHeap × Nat)) (n : Nat) (Y : YldF) (x0 : Option (Nat × Nat)) (x1 : Option (Nat × Nat)) (x2 : Int) (x3 : Int) (h : AHeap) (nx : Nat) : rootJ J Try.prog keepT (callP Try.prog keepT n) Y n 30 [(.ptr x0), (.ptr x1), (.int .i64 x2), (.int .i64 x3)] h nx =
    if (Option.isNone x1) = true then
    (some ((.ptr none), h, (nx + 10)))
    else
    (if (decide ((x3 : Int) ≤ x2)) = true then
    (some ((.ptr none), h, (nx + 10)))
    else
    ((x1).bind fun p1 =>
    (ldA h p1.1 (p1.2 + 2)).bind fun v2 =>
    (asI .i64 v2).bind fun n3 =>
    ((callP Try.prog keepT n) Y 28 [(.int .i64 n3)] h (nx + 19)).bind fun r4 =>
    (asI .i64 r4.1).bind fun n5 =>
    if (decide ((x3 : Int) ≥ (wrapA .i64 (x2 + n5)))) = true then
    (some ((.ptr x1), r4.2.1, (r4.2.2 + 2)))
    else
    (F30_J1' J J (callP Try.prog keepT n) Y n x0 x1 x2 x3 r4.2.1 r4.2.2))) := by kernel_rfl

/-- (*quickset/tree.forest).cut -/
theorem F30_eq (n : Nat) (Y : YldF) (x0 : Option (Nat × Nat)) (x1 : Option (Nat × Nat)) (x2 : Int) (x3 : Int) (h : AHeap) (nx : Nat) : callP Try.prog keepT (n + 1) Y 30 [(.ptr x0), (.ptr x1), (.int .i64 x2), (.int .i64 x3)] h nx =
    if (Option.isNone x1) = true then
    (some ((.ptr none), h, (nx + 10)))
    else
    (if (decide ((x3 : Int) ≤ x2)) = true then
    (some ((.ptr none), h, (nx + 10)))
    else
    ((x1).bind fun p1 =>
    (ldA h p1.1 (p1.2 + 2)).bind fun v2 =>
    (asI .i64 v2).bind fun n3 =>
    ((callP Try.prog keepT n) Y 28 [(.int .i64 n3)] h (nx + 19)).bind fun r4 =>
    (asI .i64 r4.1).bind fun n5 =>
    if (decide ((x3 : Int) ≥ (wrapA .i64 (x2 + n5)))) = true then
    (some ((.ptr x1), r4.2.1, (r4.2.2 + 2)))
    else
    (F30_J1 (callP Try.prog keepT n) Y n x0 x1 x2 x3 r4.2.1 r4.2.2))) := F30_eq' go1 n Y x0 x1 x2 x3 h nx

noncomputable def c31 : Code := (Try.f31.body).getD .skip

noncomputable def r31 : List ResultVar := Try.f31.results.toList

noncomputable def F31_J1' (W J : StepF (AV × AHeap × Nat) → StepF (AV × AHeap × Nat)) (call : YldF → CallF) (Y : YldF) (lf : Nat) (x0 : Option (Nat × Nat)) (x1 : Int) (x2 : Int) (x3a : Option (Nat × Nat)) (x3n : Nat) (x3c : Bool) (h : AHeap) (nx : Nat) : Option (AV × AHeap × Nat) :=
  goK W J drawK (machOf Try.prog) call Y (keepT 31) lf c31 [1] [] (retK (machOf Try.prog) ⟨c31, 88, r31, keepT 31⟩) ⟨88, mkL [(0, (.ptr x0)), (1, (.int .i64 x1)), (2, (.int .i64 x2)), (3, (.slice x3a x3n x3c))]⟩ h nx

noncomputable def F31_J1 (call : YldF → CallF) (Y : YldF) (lf : Nat) (x0 : Option (Nat × Nat)) (x1 : Int) (x2 : Int) (x3a : Option (Nat × Nat)) (x3n : Nat) (x3c : Bool) (h : AHeap) (nx : Nat) : Option (AV × AHeap × Nat) := F31_J1' go1 go1 call Y lf x0 x1 x2 x3a x3n x3c h nx

noncomputable def F31_L2' (W J : StepF (AV × AHeap × Nat) → StepF (AV × AHeap × Nat)) (call : YldF → CallF) (Y : YldF) (lf : Nat) (n0 : Nat) (x1 : Int) (x2 : Int) (x3a : Option (Nat × Nat)) (x3n : Nat) (x3c : Bool) (x42 : List AV) (x43 : Int) (h : AHeap) (nx : Nat) : Option (AV × AHeap × Nat) :=
  goK W J drawK (machOf Try.prog) call Y (keepT 31) lf c31 [1, 0, 1, 0, 0, 1, 0, 9] [n0] (retK (machOf Try.prog) ⟨c31, 88, r31, keepT 31⟩) ⟨88, mkL [(1, (.int .i64 x1)), (2, (.int .i64 x2)), (3, (.slice x3a x3n x3c)), (42, (.agg x42)), (43, (.int .i64 x43))]⟩ h nx

noncomputable def F31_L2 (call : YldF → CallF) (Y : YldF) (lf : Nat) (n0 : Nat) (x1 : Int) (x2 : Int) (x3a : Option (Nat × Nat)) (x3n : Nat) (x3c : Bool) (x42 : List AV) (x43 : Int) (h : AHeap) (nx : Nat) : Option (AV × AHeap × Nat) := F31_L2' go1 go1 call Y lf n0 x1 x2 x3a x3n x3c x42 x43 h nx

noncomputable def F31_L3' (W J : StepF (AV × AHeap × Nat) → StepF (AV × AHeap × Nat)) (call : YldF → CallF) (Y : YldF) (lf : Nat) (n0 : Nat) (x0 : Option (Nat × Nat)) (x1 : Int) (x2 : Int) (x3a : Option (Nat × Nat)) (x3n : Nat) (x3c : Bool) (x68 : List AV) (x69 : Int) (h : AHeap) (nx : Nat) : Option (AV × AHeap × Nat) :=
  goK W J drawK (machOf Try.prog) call Y (keepT 31) lf c31 [1, 1, 1, 0, 9] [n0] (retK (machOf Try.prog) ⟨c31, 88, r31, keepT 31⟩) ⟨88, mkL [(0, (.ptr x0)), (1, (.int .i64 x1)), (2, (.int .i64 x2)), (3, (.slice x3a x3n x3c)), (68, (.agg x68)), (69, (.int .i64 x69))]⟩ h nx

noncomputable def F31_L3 (call : YldF → CallF) (Y : YldF) (lf : Nat) (n0 : Nat) (x0 : Option (Nat × Nat)) (x1 : Int) (x2 : Int) (x3a : Option (Nat × Nat)) (x3n : Nat) (x3c : Bool) (x68 : List AV) (x69 : Int) (h : AHeap) (nx : Nat) : Option (AV × AHeap × Nat) := F31_L3' go1 go1 call Y lf n0 x0 x1 x2 x3a x3n x3c x68 x69 h nx

theorem F31_J1_eq' (J : StepF (AV × AHeap × Nat) → StepF (AV × AHeap × Nat)) (call : YldF → CallF) (Y : YldF) (lf : Nat) (x0 : Option (Nat × Nat)) (x1 : Int) (x2 : Int) (x3a : Option (Nat × Nat)) (x3n : Nat) (x3c : Bool) (h : AHeap) (nx : Nat) : F31_J1' go1 J call Y lf x0 x1 x2 x3a x3n x3c h nx =
    (x0).bind fun p1 =>
    (ldA h p1.1 (p1.2 + 2)).bind fun v2 =>
    (asI .i64 v2).bind fun n3 =>
    if ((n3 : Int) == 0) = true then
    ((x0).bind fun p4 =>
    (ldR h p4.1 (p4.2 + 7) 64).bind fun l5 =>
    F31_L2' J J call Y lf lf x1 x2 x3a x3n x3c l5 0 h (nx + 10))
    else
    ((x0).bind fun p6 =>
    (ldR h p6.1 (p6.2 + 3) 4).bind fun l7 =>
    F31_L3' J J call Y lf lf x0 x1 x2 x3a x3n x3c l7 0 h (nx + 10)) := by kernel_rfl

theorem F31_J1_eq (call : YldF → CallF) (Y : YldF) (lf : Nat) (x0 : Option (Nat × Nat)) (x1 : Int) (x2 : Int) (x3a : Option (Nat × Nat)) (x3n : Nat) (x3c : Bool) (h : AHeap) (nx : Nat) : F31_J1 call Y lf x0 x1 x2 x3a x3n x3c h nx =
    (x0).bind fun p1 =>
    (ldA h p1.1 (p1.2 + 2)).bind fun v2 =>
    (asI .i64 v2).bind fun n3 =>
    if ((n3 : Int) == 0) = true then
    ((x0).bind fun p4 =>
    (ldR h p4.1 (p4.2 + 7) 64).bind fun l5 =>
    F31_L2 call Y lf lf x1 x2 x3a x3n x3c l5 0 h (nx + 10))
    else
    ((x0).bind fun p6 =>
    (ldR h p6.1 (p6.2 + 3) 4).bind fun l7 =>
    F31_L3 call Y lf lf x0 x1 x2 x3a x3n x3c l7 0 h (nx + 10)) := F31_J1_eq' go1 call Y lf x0 x1 x2 x3a x3n x3c h nx

theorem F31_L2_eq' (J : StepF (AV × AHeap × Nat) → StepF (AV × AHeap × Nat)) (call : YldF → CallF) (Y : YldF) (lf : Nat) (n0 : Nat) (x1 : Int) (x2 : Int) (x3a : Option (Nat × Nat)) (x3n : Nat) (x3c : Bool) (x42 : List AV) (x43 : Int) (h : AHeap) (nx : Nat) : F31_L2' go1 J call Y lf (n0 + 1) x1 x2 x3a x3n x3c x42 x43 h nx =
    if (decide ((x43 : Int) < 64)) = true then
    (if 0 ≤ (x43 : Int) ∧ x43 < ((64 : Nat) : Int) then
    ((x42[(Int.toNat x43 * 1)]?).bind fun c1 =>
    (asI .u8 c1).bind fun n2 =>
    if (decide (((wrapA .i64 ((wrapA .i64 (x1 + x43)) - x2)) : Int) ≥ 0)) = true then
    (if (decide (((wrapA .i64 ((wrapA .i64 (x1 + x43)) - x2)) : Int) < ((x3n : Nat) : Int))) = true then
    ((x3a).bind fun p3 =>
    if 0 ≤ ((wrapA .i64 ((wrapA .i64 (x1 + x43)) - x2)) : Int) ∧ (wrapA .i64 ((wrapA .i64 (x1 + x43)) - x2)) < ((x3n : Nat) : Int) then
    ((stA h p3.1 (p3.2 + Int.toNat (wrapA .i64 ((wrapA .i64 (x1 + x43)) - x2)) * 1) (.int .u8 n2) 1).bind fun b4 =>
    let h5 := AHeap.put h p3.1 (some b4)
    F31_L2' J J call Y lf n0 x1 x2 x3a x3n x3c x42 (wrapA .i64 (x43 + 1)) h5 (nx + 26))
    else none)
    else
    (F31_L2' J J call Y lf n0 x1 x2 x3a x3n x3c x42 (wrapA .i64 (x43 + 1)) h (nx + 21)))
    else
    (F31_L2' J J call Y lf n0 x1 x2 x3a x3n x3c x42 (wrapA .i64 (x43 + 1)) h (nx + 21)))
    else none)
    else
    (some ((.tuple []), h, (nx + 1))) := by kernel_rfl

theorem F31_L2_eq (call : YldF → CallF) (Y : YldF) (lf : Nat) (n0 : Nat) (x1 : Int) (x2 : Int) (x3a : Option (Nat × Nat)) (x3n : Nat) (x3c : Bool) (x42 : List AV) (x43 : Int) (h : AHeap) (nx : Nat) : F31_L2 call Y lf (n0 + 1) x1 x2 x3a x3n x3c x42 x43 h nx =
    if (decide ((x43 : Int) < 64)) = true then
    (if 0 ≤ (x43 : Int) ∧ x43 < ((64 : Nat) : Int) then
    ((x42[(Int.toNat x43 * 1)]?).bind fun c1 =>
    (asI .u8 c1).bind fun n2 =>
    if (decide (((wrapA .i64 ((wrapA .i64 (x1 + x43)) - x2)) : Int) ≥ 0)) = true then
    (if (decide (((wrapA .i64 ((wrapA .i64 (x1 + x43)) - x2)) : Int) < ((x3n : Nat) : Int))) = true then
    ((x3a).bind fun p3 =>
    if 0 ≤ ((wrapA .i64 ((wrapA .i64 (x1 + x43)) - x2)) : Int) ∧ (wrapA .i64 ((wrapA .i64 (x1 + x43)) - x2)) < ((x3n : Nat) : Int) then
    ((stA h p3.1 (p3.2 + Int.toNat (wrapA .i64 ((wrapA .i64 (x1 + x43)) - x2)) * 1) (.int .u8 n2) 1).bind fun b4 =>
    let h5 := AHeap.put h p3.1 (some b4)
    F31_L2 call Y lf n0 x1 x2 x3a x3n x3c x42 (wrapA .i64 (x43 + 1)) h5 (nx + 26))
    else none)
    else
    (F31_L2 call Y lf n0 x1 x2 x3a x3n x3c x42 (wrapA .i64 (x43 + 1)) h (nx + 21)))
    else
    (F31_L2 call Y lf n0 x1 x2 x3a x3n x3c x42 (wrapA .i64 (x43 + 1)) h (nx + 21)))
    else none)
    else
    (some ((.tuple []), h, (nx + 1))) := F31_L2_eq' go1 call Y lf n0 x1 x2 x3a x3n x3c x42 x43 h nx

theorem F31_L2_zero (call : YldF → CallF) (Y : YldF) (lf : Nat) (x1 : Int) (x2 : Int) (x3a : Option (Nat × Nat)) (x3n : Nat) (x3c : Bool) (x42 : List AV) (x43 : Int) (h : AHeap) (nx : Nat) : F31_L2 call Y lf 0 x1 x2 x3a x3n x3c x42 x43 h nx = none := by kernel_rfl

theorem F31_L3_eq' (J : StepF (AV × AHeap × Nat) → StepF (AV × AHeap × Nat)) (call : YldF → CallF) (Y : YldF) (lf : Nat) (n0 : Nat) (x0 : Option (Nat × Nat)) (x1 : Int) (x2 : Int) (x3a : Option (Nat × Nat)) (x3n : Nat) (x3c : Bool) (x68 : List AV) (x69 : Int) (h : AHeap) (nx : Nat) : F31_L3' go1 J call Y lf (n0 + 1) x0 x1 x2 x3a x3n x3c x68 x69 h nx =
    if (decide ((x69 : Int) < 4)) = true then
    (if 0 ≤ (x69 : Int) ∧ x69 < ((4 : Nat) : Int) then
    ((x68[(Int.toNat x69 * 1)]?).bind fun c1 =>
    (asP c1).bind fun p2 =>
    (x0).bind fun p3 =>
    (ldA h p3.1 (p3.2 + 2)).bind fun v4 =>
    (asI .i64 v4).bind fun n5 =>
    (call Y 28 [(.int .i64 (wrapA .i64 (n5 - 1)))] h (nx + 19)).bind fun r6 =>
    (asI .i64 r6.1).bind fun n7 =>
    (call Y 31 [(.ptr p2), (.int .i64 (wrapA .i64 (x1 + (wrapA .i64 (x69 * n7))))), (.int .i64 x2), (.slice x3a x3n x3c)] r6.2.1 r6.2.2).bind fun r8 =>
    (asTup 0 r8.1).bind fun d9 =>
    F31_L3' J J call Y lf n0 x0 x1 x2 x3a x3n x3c x68 (wrapA .i64 (x69 + 1)) r8.2.1 (r8.2.2 + 2))
    else none)
    else
    (some ((.tuple []), h, (nx + 1))) := by kernel_rfl

theorem F31_L3_eq (call : YldF → CallF) (Y : YldF) (lf : Nat) (n0 : Nat) (x0 : Option (Nat × Nat)) (x1 : Int) (x2 : Int) (x3a : Option (Nat × Nat)) (x3n : Nat) (x3c : Bool) (x68 : List AV) (x69 : Int) (h : AHeap) (nx : Nat) : F31_L3 call Y lf (n0 + 1) x0 x1 x2 x3a x3n x3c x68 x69 h nx =
    if (decide ((x69 : Int) < 4)) = true then
    (if 0 ≤ (x69 : Int) ∧ x69 < ((4 : Nat) : Int) then
    ((x68[(Int.toNat x69 * 1)]?).bind fun c1 =>
    (asP c1).bind fun p2 =>
    (x0).bind fun p3 =>
    (ldA h p3.1 (p3.2 + 2)).bind fun v4 =>
    (asI .i64 v4).bind fun n5 =>
    (call Y 28 [(.int .i64 (wrapA .i64 (n5 - 1)))] h (nx + 19)).bind fun r6 =>
    (asI .i64 r6.1).bind fun n7 =>
    (call Y 31 [(.ptr p2), (.int .i64 (wrapA .i64 (x1 + (wrapA .i64 (x69 * n7))))), (.int .i64 x2), (.slice x3a x3n x3c)] r6.2.1 r6.2.2).bind fun r8 =>
    (asTup 0 r8.1).bind fun d9 =>
    F31_L3 call Y lf n0 x0 x1 x2 x3a x3n x3c x68 (wrapA .i64 (x69 + 1)) r8.2.1 (r8.2.2 + 2))
    else none)
    else
    (some ((.tuple []), h, (nx + 1))) := F31_L3_eq' go1 call Y lf n0 x0 x1 x2 x3a x3n x3c x68 x69 h nx

theorem F31_L3_zero (call : YldF → CallF) (Y : YldF) (lf : Nat) (x0 : Option (Nat × Nat)) (x1 : Int) (x2 : Int) (x3a : Option (Nat × Nat)) (x3n : Nat) (x3c : Bool) (x68 : List AV) (x69 : Int) (h : AHeap) (nx : Nat) : F31_L3 call Y lf 0 x0 x1 x2 x3a x3n x3c x68 x69 h nx = none := by kernel_rfl

theorem F31_eq' (J : StepF (AV × AHeap × Nat) → StepF (AV × AHeap × Nat)) (n : Nat) (Y : YldF) (x0 : Option (Nat × Nat)) (x1 : Int) (x2 : Int) (x3a : Option (Nat × Nat)) (x3n : Nat) (x3c : Bool) (h : AHeap) (nx : Nat) : rootJ J Try.prog keepT (callP Try.prog keepT n) Y n 31 [(.ptr x0), (.int .i64 x1), (.int .i64 x2), (.slice x3a x3n x3c)] h nx =
    if (Option.isNone x0) = true then
    (some ((.tuple []), h, (nx + 21)))
    else
    ((x0).bind fun p1 =>
    (ldA h p1.1 (p1.2 + 2)).bind fun v2 =>
    (asI .i64 v2).bind fun n3 =>
    ((callP Try.prog keepT n) Y 28 [(.int .i64 n3)] h (nx + 21)).bind fun r4 =>
    (asI .i64 r4.1).bind fun n5 =>
    if (decide ((x2 : Int) ≥ (wrapA .i64 (x1 + n5)))) = true then
    (some ((.tuple []), r4.2.1, r4.2.2))
    else
    (if (decide (((wrapA .i64 (x2 + ((x3n : Nat) : Int))) : Int) ≤ x1)) = true then
    (some ((.tuple []), r4.2.1, r4.2.2))
    else
    (F31_J1' J J (callP Try.prog keepT n) Y n x0 x1 x2 x3a x3n x3c r4.2.1 r4.2.2))) := by kernel_rfl

/-- (*quickset/tree.node).read -/
theorem F31_eq (n : Nat) (Y : YldF) (x0 : Option (Nat × Nat)) (x1 : Int) (x2 : Int) (x3a : Option (Nat × Nat)) (x3n : Nat) (x3c : Bool) (h : AHeap) (nx : Nat) : callP Try.prog keepT (n + 1) Y 31 [(.ptr x0), (.int .i64 x1), (.int .i64 x2), (.slice x3a x3n x3c)] h nx =
    if (Option.isNone x0) = true then
    (some ((.tuple []), h, (nx + 21)))
    else
    ((x0).bind fun p1 =>
    (ldA h p1.1 (p1.2 + 2)).bind fun v2 =>
    (asI .i64 v2).bind fun n3 =>
    ((callP Try.prog keepT n) Y 28 [(.int .i64 n3)] h (nx + 21)).bind fun r4 =>
    (asI .i64 r4.1).bind fun n5 =>
    if (decide ((x2 : Int) ≥ (wrapA .i64 (x1 + n5)))) = true then
    (some ((.tuple []), r4.2.1, r4.2.2))
    else
    (if (decide (((wrapA .i64 (x2 + ((x3n : Nat) : Int))) : Int) ≤ x1)) = true then
    (some ((.tuple []), r4.2.1, r4.2.2))
    else
    (F31_J1 (callP Try.prog keepT n) Y n x0 x1 x2 x3a x3n x3c r4.2.1 r4.2.2))) := F31_eq' go1 n Y x0 x1 x2 x3a x3n x3c h nx

end Go.Proofs.Ytogmdfbamgjjfaa.T
