/- Printed by mp.py: functions of the program as plain Lean, each by the kernel. -/
import Derived.Test.YtalfcokiooaliaaPg1
set_option linter.unusedVariables false
set_option linter.unusedSimpArgs false
namespace Go.Proofs.Ytalfcokiooaliaa.T
open Go Go.RowKit Go.Proofs
set_option maxRecDepth 100000

noncomputable def c58 : Code := (Try.f58.body).getD .skip

noncomputable def r58 : List ResultVar := Try.f58.results.toList

noncomputable def F58_L1' (W J : StepF (AV × AHeap × Nat) → StepF (AV × AHeap × Nat)) (call : YldF → CallF) (Y : YldF) (lf : Nat) (n0 : Nat) (x0a : Option (Nat × Nat)) (x0n : Nat) (x0c : Bool) (x1 : Int) (x5 : Int) (x6 : Option (Nat × Nat)) (h : AHeap) (nx : Nat) : Option (AV × AHeap × Nat) :=
  goK W J drawK (machOf Try.prog) call Y (keepT 58) lf c58 [1, 1, 0, 1, 0, 9] [n0] (retK (machOf Try.prog) ⟨c58, 123, r58, keepT 58⟩) ⟨123, mkL [(0, (.slice x0a x0n x0c)), (1, (.int .i64 x1)), (5, (.int .i64 x5)), (6, (.ptr x6))]⟩ h nx

noncomputable def F58_L1 (call : YldF → CallF) (Y : YldF) (lf : Nat) (n0 : Nat) (x0a : Option (Nat × Nat)) (x0n : Nat) (x0c : Bool) (x1 : Int) (x5 : Int) (x6 : Option (Nat × Nat)) (h : AHeap) (nx : Nat) : Option (AV × AHeap × Nat) := F58_L1' go1 go1 call Y lf n0 x0a x0n x0c x1 x5 x6 h nx

noncomputable def F58_J2' (W J : StepF (AV × AHeap × Nat) → StepF (AV × AHeap × Nat)) (call : YldF → CallF) (Y : YldF) (lf : Nat) (n0 : Nat) (x0a : Option (Nat × Nat)) (x0n : Nat) (x0c : Bool) (x1 : Int) (x5 : Int) (x6 : Option (Nat × Nat)) (h : AHeap) (nx : Nat) : Option (AV × AHeap × Nat) :=
  goK W J drawK (machOf Try.prog) call Y (keepT 58) lf c58 [1, 1, 0, 1, 0, 0, 1] [n0] (retK (machOf Try.prog) ⟨c58, 123, r58, keepT 58⟩) ⟨123, mkL [(0, (.slice x0a x0n x0c)), (1, (.int .i64 x1)), (5, (.int .i64 x5)), (6, (.ptr x6))]⟩ h nx

noncomputable def F58_J2 (call : YldF → CallF) (Y : YldF) (lf : Nat) (n0 : Nat) (x0a : Option (Nat × Nat)) (x0n : Nat) (x0c : Bool) (x1 : Int) (x5 : Int) (x6 : Option (Nat × Nat)) (h : AHeap) (nx : Nat) : Option (AV × AHeap × Nat) := F58_J2' go1 go1 call Y lf n0 x0a x0n x0c x1 x5 x6 h nx

noncomputable def F58_J3' (W J : StepF (AV × AHeap × Nat) → StepF (AV × AHeap × Nat)) (call : YldF → CallF) (Y : YldF) (lf : Nat) (n0 : Nat) (x0a : Option (Nat × Nat)) (x0n : Nat) (x0c : Bool) (x1 : Int) (x5 : Int) (x6 : Option (Nat × Nat)) (h : AHeap) (nx : Nat) : Option (AV × AHeap × Nat) :=
  goK W J drawK (machOf Try.prog) call Y (keepT 58) lf c58 [1, 1, 0, 1, 0, 0, 1, 1] [n0] (retK (machOf Try.prog) ⟨c58, 123, r58, keepT 58⟩) ⟨123, mkL [(0, (.slice x0a x0n x0c)), (1, (.int .i64 x1)), (5, (.int .i64 x5)), (6, (.ptr x6))]⟩ h nx

noncomputable def F58_J3 (call : YldF → CallF) (Y : YldF) (lf : Nat) (n0 : Nat) (x0a : Option (Nat × Nat)) (x0n : Nat) (x0c : Bool) (x1 : Int) (x5 : Int) (x6 : Option (Nat × Nat)) (h : AHeap) (nx : Nat) : Option (AV × AHeap × Nat) := F58_J3' go1 go1 call Y lf n0 x0a x0n x0c x1 x5 x6 h nx

noncomputable def F58_L4' (W J : StepF (AV × AHeap × Nat) → StepF (AV × AHeap × Nat)) (call : YldF → CallF) (Y : YldF) (lf : Nat) (n0 : Nat) (n1 : Nat) (x0a : Option (Nat × Nat)) (x0n : Nat) (x0c : Bool) (x1 : Int) (x5 : Int) (x6 : Option (Nat × Nat)) (x8a : Option (Nat × Nat)) (x8n : Nat) (x8c : Bool) (x9 : Int) (x65 : Int) (x66 : Int) (h : AHeap) (nx : Nat) : Option (AV × AHeap × Nat) :=
  goK W J drawK (machOf Try.prog) call Y (keepT 58) lf c58 [1, 1, 0, 1, 0, 0, 1, 0, 0, 1, 1, 1, 1, 1, 0, 1, 0, 9] [n0, n1] (retK (machOf Try.prog) ⟨c58, 123, r58, keepT 58⟩) ⟨123, mkL [(0, (.slice x0a x0n x0c)), (1, (.int .i64 x1)), (5, (.int .i64 x5)), (6, (.ptr x6)), (8, (.slice x8a x8n x8c)), (9, (.int .i64 x9)), (65, (.int .i64 x65)), (66, (.int .i64 x66))]⟩ h nx

noncomputable def F58_L4 (call : YldF → CallF) (Y : YldF) (lf : Nat) (n0 : Nat) (n1 : Nat) (x0a : Option (Nat × Nat)) (x0n : Nat) (x0c : Bool) (x1 : Int) (x5 : Int) (x6 : Option (Nat × Nat)) (x8a : Option (Nat × Nat)) (x8n : Nat) (x8c : Bool) (x9 : Int) (x65 : Int) (x66 : Int) (h : AHeap) (nx : Nat) : Option (AV × AHeap × Nat) := F58_L4' go1 go1 call Y lf n0 n1 x0a x0n x0c x1 x5 x6 x8a x8n x8c x9 x65 x66 h nx

noncomputable def F58_L5' (W J : StepF (AV × AHeap × Nat) → StepF (AV × AHeap × Nat)) (call : YldF → CallF) (Y : YldF) (lf : Nat) (n0 : Nat) (n1 : Nat) (x0a : Option (Nat × Nat)) (x0n : Nat) (x0c : Bool) (x1 : Int) (x5 : Int) (x6 : Option (Nat × Nat)) (x8a : Option (Nat × Nat)) (x8n : Nat) (x8c : Bool) (x79a : Option (Nat × Nat)) (x79n : Nat) (x79c : Bool) (x80 : Int) (x81 : Int) (h : AHeap) (nx : Nat) : Option (AV × AHeap × Nat) :=
  goK W J drawK (machOf Try.prog) call Y (keepT 58) lf c58 [1, 1, 0, 1, 0, 0, 1, 0, 0, 1, 1, 1, 1, 1, 1, 0, 1, 0, 9] [n0, n1] (retK (machOf Try.prog) ⟨c58, 123, r58, keepT 58⟩) ⟨123, mkL [(0, (.slice x0a x0n x0c)), (1, (.int .i64 x1)), (5, (.int .i64 x5)), (6, (.ptr x6)), (8, (.slice x8a x8n x8c)), (79, (.slice x79a x79n x79c)), (80, (.int .i64 x80)), (81, (.int .i64 x81))]⟩ h nx

noncomputable def F58_L5 (call : YldF → CallF) (Y : YldF) (lf : Nat) (n0 : Nat) (n1 : Nat) (x0a : Option (Nat × Nat)) (x0n : Nat) (x0c : Bool) (x1 : Int) (x5 : Int) (x6 : Option (Nat × Nat)) (x8a : Option (Nat × Nat)) (x8n : Nat) (x8c : Bool) (x79a : Option (Nat × Nat)) (x79n : Nat) (x79c : Bool) (x80 : Int) (x81 : Int) (h : AHeap) (nx : Nat) : Option (AV × AHeap × Nat) := F58_L5' go1 go1 call Y lf n0 n1 x0a x0n x0c x1 x5 x6 x8a x8n x8c x79a x79n x79c x80 x81 h nx

noncomputable def F58_J6' (W J : StepF (AV × AHeap × Nat) → StepF (AV × AHeap × Nat)) (call : YldF → CallF) (Y : YldF) (lf : Nat) (n0 : Nat) (n1 : Nat) (x0a : Option (Nat × Nat)) (x0n : Nat) (x0c : Bool) (x1 : Int) (x5 : Int) (x6 : Option (Nat × Nat)) (x8a : Option (Nat × Nat)) (x8n : Nat) (x8c : Bool) (x13a : Option (Nat × Nat)) (x13n : Nat) (x13c : Bool) (x79a : Option (Nat × Nat)) (x79n : Nat) (x79c : Bool) (x80 : Int) (x81 : Int) (h : AHeap) (nx : Nat) : Option (AV × AHeap × Nat) :=
  goK W J drawK (machOf Try.prog) call Y (keepT 58) lf c58 [1, 1, 0, 1, 0, 0, 1, 0, 0, 1, 1, 1, 1, 1, 1, 0, 1, 0, 0, 1, 1, 0, 0, 1, 1] [n0, n1] (retK (machOf Try.prog) ⟨c58, 123, r58, keepT 58⟩) ⟨123, mkL [(0, (.slice x0a x0n x0c)), (1, (.int .i64 x1)), (5, (.int .i64 x5)), (6, (.ptr x6)), (8, (.slice x8a x8n x8c)), (13, (.slice x13a x13n x13c)), (79, (.slice x79a x79n x79c)), (80, (.int .i64 x80)), (81, (.int .i64 x81))]⟩ h nx

noncomputable def F58_J6 (call : YldF → CallF) (Y : YldF) (lf : Nat) (n0 : Nat) (n1 : Nat) (x0a : Option (Nat × Nat)) (x0n : Nat) (x0c : Bool) (x1 : Int) (x5 : Int) (x6 : Option (Nat × Nat)) (x8a : Option (Nat × Nat)) (x8n : Nat) (x8c : Bool) (x13a : Option (Nat × Nat)) (x13n : Nat) (x13c : Bool) (x79a : Option (Nat × Nat)) (x79n : Nat) (x79c : Bool) (x80 : Int) (x81 : Int) (h : AHeap) (nx : Nat) : Option (AV × AHeap × Nat) := F58_J6' go1 go1 call Y lf n0 n1 x0a x0n x0c x1 x5 x6 x8a x8n x8c x13a x13n x13c x79a x79n x79c x80 x81 h nx

noncomputable def F58_L7' (W J : StepF (AV × AHeap × Nat) → StepF (AV × AHeap × Nat)) (call : YldF → CallF) (Y : YldF) (lf : Nat) (n0 : Nat) (n1 : Nat) (n2 : Nat) (x0a : Option (Nat × Nat)) (x0n : Nat) (x0c : Bool) (x1 : Int) (x5 : Int) (x6 : Option (Nat × Nat)) (x8a : Option (Nat × Nat)) (x8n : Nat) (x8c : Bool) (x13a : Option (Nat × Nat)) (x13n : Nat) (x13c : Bool) (x14 : Int) (x79a : Option (Nat × Nat)) (x79n : Nat) (x79c : Bool) (x80 : Int) (x81 : Int) (x101 : Int) (x102 : Int) (h : AHeap) (nx : Nat) : Option (AV × AHeap × Nat) :=
  goK W J drawK (machOf Try.prog) call Y (keepT 58) lf c58 [1, 1, 0, 1, 0, 0, 1, 0, 0, 1, 1, 1, 1, 1, 1, 0, 1, 0, 0, 1, 1, 0, 0, 1, 1, 1, 1, 0, 9] [n0, n1, n2] (retK (machOf Try.prog) ⟨c58, 123, r58, keepT 58⟩) ⟨123, mkL [(0, (.slice x0a x0n x0c)), (1, (.int .i64 x1)), (5, (.int .i64 x5)), (6, (.ptr x6)), (8, (.slice x8a x8n x8c)), (13, (.slice x13a x13n x13c)), (14, (.int .i64 x14)), (79, (.slice x79a x79n x79c)), (80, (.int .i64 x80)), (81, (.int .i64 x81)), (101, (.int .i64 x101)), (102, (.int .i64 x102))]⟩ h nx

noncomputable def F58_L7 (call : YldF → CallF) (Y : YldF) (lf : Nat) (n0 : Nat) (n1 : Nat) (n2 : Nat) (x0a : Option (Nat × Nat)) (x0n : Nat) (x0c : Bool) (x1 : Int) (x5 : Int) (x6 : Option (Nat × Nat)) (x8a : Option (Nat × Nat)) (x8n : Nat) (x8c : Bool) (x13a : Option (Nat × Nat)) (x13n : Nat) (x13c : Bool) (x14 : Int) (x79a : Option (Nat × Nat)) (x79n : Nat) (x79c : Bool) (x80 : Int) (x81 : Int) (x101 : Int) (x102 : Int) (h : AHeap) (nx : Nat) : Option (AV × AHeap × Nat) := F58_L7' go1 go1 call Y lf n0 n1 n2 x0a x0n x0c x1 x5 x6 x8a x8n x8c x13a x13n x13c x14 x79a x79n x79c x80 x81 x101 x102 h nx

theorem F58_L1_eq' (J : StepF (AV × AHeap × Nat) → StepF (AV × AHeap × Nat)) (call : YldF → CallF) (Y : YldF) (lf : Nat) (n0 : Nat) (x0a : Option (Nat × Nat)) (x0n : Nat) (x0c : Bool) (x1 : Int) (x5 : Int) (x6 : Option (Nat × Nat)) (h : AHeap) (nx : Nat) : F58_L1' go1 J call Y lf (n0 + 1) x0a x0n x0c x1 x5 x6 h nx =
    (x6).bind fun p1 =>
    (ldA h p1.1 p1.2).bind fun v2 =>
    (asI .i64 v2).bind fun n3 =>
    if (decide ((n3 : Int) < x1)) = true then
    (if (decide ((x5 : Int) < ((x0n : Nat) : Int))) = true then
    (F58_J2' J J call Y lf n0 x0a x0n x0c x1 x5 x6 h (nx + 9))
    else
    (some ((.int .i64 x5), h, (nx + 11))))
    else
    (some ((.int .i64 x5), h, (nx + 11))) := by kernel_rfl

theorem F58_L1_eq (call : YldF → CallF) (Y : YldF) (lf : Nat) (n0 : Nat) (x0a : Option (Nat × Nat)) (x0n : Nat) (x0c : Bool) (x1 : Int) (x5 : Int) (x6 : Option (Nat × Nat)) (h : AHeap) (nx : Nat) : F58_L1 call Y lf (n0 + 1) x0a x0n x0c x1 x5 x6 h nx =
    (x6).bind fun p1 =>
    (ldA h p1.1 p1.2).bind fun v2 =>
    (asI .i64 v2).bind fun n3 =>
    if (decide ((n3 : Int) < x1)) = true then
    (if (decide ((x5 : Int) < ((x0n : Nat) : Int))) = true then
    (F58_J2 call Y lf n0 x0a x0n x0c x1 x5 x6 h (nx + 9))
    else
    (some ((.int .i64 x5), h, (nx + 11))))
    else
    (some ((.int .i64 x5), h, (nx + 11))) := F58_L1_eq' go1 call Y lf n0 x0a x0n x0c x1 x5 x6 h nx

theorem F58_L1_zero (call : YldF → CallF) (Y : YldF) (lf : Nat) (x0a : Option (Nat × Nat)) (x0n : Nat) (x0c : Bool) (x1 : Int) (x5 : Int) (x6 : Option (Nat × Nat)) (h : AHeap) (nx : Nat) : F58_L1 call Y lf 0 x0a x0n x0c x1 x5 x6 h nx = none := by kernel_rfl

theorem F58_J2_eq' (J : StepF (AV × AHeap × Nat) → StepF (AV × AHeap × Nat)) (call : YldF → CallF) (Y : YldF) (lf : Nat) (n0 : Nat) (x0a : Option (Nat × Nat)) (x0n : Nat) (x0c : Bool) (x1 : Int) (x5 : Int) (x6 : Option (Nat × Nat)) (h : AHeap) (nx : Nat) : F58_J2' go1 J call Y lf n0 x0a x0n x0c x1 x5 x6 h nx =
    (cutA h x0a x0n x0c 1 (some (.int .i64 x5)) none none).bind fun s1 =>
    (call Y 63 [(.slice s1.1 s1.2.1 s1.2.2), (.fn 64 [] [(.ptr x6)])] h (nx + 6)).bind fun r2 =>
    (asI .i64 r2.1).bind fun n3 =>
    if (decide ((n3 : Int) < 0)) = true then
    (F58_J3' J J call Y lf n0 x0a x0n x0c x1 x5 x6 r2.2.1 (r2.2.2 + 2))
    else
    ((x0a).bind fun p4 =>
    if 0 ≤ ((wrapA .i64 (x5 + n3)) : Int) ∧ (wrapA .i64 (x5 + n3)) < ((x0n : Nat) : Int) then
    ((ldA r2.2.1 p4.1 (p4.2 + Int.toNat (wrapA .i64 (x5 + n3)) * 1)).bind fun v5 =>
    (asSl v5).bind fun s6 =>
    (x0a).bind fun p7 =>
    if 0 ≤ (x5 : Int) ∧ x5 < ((x0n : Nat) : Int) then
    ((ldA r2.2.1 p7.1 (p7.2 + Int.toNat x5 * 1)).bind fun v8 =>
    (asSl v8).bind fun s9 =>
    (x0a).bind fun p10 =>
    if 0 ≤ (x5 : Int) ∧ x5 < ((x0n : Nat) : Int) then
    ((stA r2.2.1 p10.1 (p10.2 + Int.toNat x5 * 1) (.slice s6.1 s6.2.1 s6.2.2) 1).bind fun b11 =>
    let h12 := AHeap.put r2.2.1 p10.1 (some b11)
    (x0a).bind fun p13 =>
    if 0 ≤ ((wrapA .i64 (x5 + n3)) : Int) ∧ (wrapA .i64 (x5 + n3)) < ((x0n : Nat) : Int) then
    ((stA h12 p13.1 (p13.2 + Int.toNat (wrapA .i64 (x5 + n3)) * 1) (.slice s9.1 s9.2.1 s9.2.2) 1).bind fun b14 =>
    let h15 := AHeap.put h12 p13.1 (some b14)
    (x0a).bind fun p16 =>
    if 0 ≤ (x5 : Int) ∧ x5 < ((x0n : Nat) : Int) then
    ((ldA h15 p16.1 (p16.2 + Int.toNat x5 * 1)).bind fun v17 =>
    (asSl v17).bind fun s18 =>
    (x6).bind fun p19 =>
    (ldA h15 p19.1 p19.2).bind fun v20 =>
    (asI .i64 v20).bind fun n21 =>
    (s18.1).bind fun p22 =>
    if 0 ≤ (n21 : Int) ∧ n21 < ((s18.2.1 : Nat) : Int) then
    ((ldA h15 p22.1 (p22.2 + Int.toNat n21 * 1)).bind fun v23 =>
    (asI .i64 v23).bind fun n24 =>
    (call Y 65 [(.int .i64 n24)] h15 (r2.2.2 + 37)).bind fun r25 =>
    (asTup 2 r25.1).bind fun d26 =>
    (asI .i64 (d26.getD 0 .bad)).bind fun n27 =>
    (asI .i64 (d26.getD 1 .bad)).bind fun n28 =>
    F58_L4' J J call Y lf n0 lf x0a x0n x0c x1 x5 x6 s18.1 s18.2.1 s18.2.2 n27 ((s18.2.1 : Nat) : Int) 0 r25.2.1 (r25.2.2 + 3))
    else none)
    else none)
    else none)
    else none)
    else none)
    else none) := by kernel_rfl

theorem F58_J2_eq (call : YldF → CallF) (Y : YldF) (lf : Nat) (n0 : Nat) (x0a : Option (Nat × Nat)) (x0n : Nat) (x0c : Bool) (x1 : Int) (x5 : Int) (x6 : Option (Nat × Nat)) (h : AHeap) (nx : Nat) : F58_J2 call Y lf n0 x0a x0n x0c x1 x5 x6 h nx =
    (cutA h x0a x0n x0c 1 (some (.int .i64 x5)) none none).bind fun s1 =>
    (call Y 63 [(.slice s1.1 s1.2.1 s1.2.2), (.fn 64 [] [(.ptr x6)])] h (nx + 6)).bind fun r2 =>
    (asI .i64 r2.1).bind fun n3 =>
    if (decide ((n3 : Int) < 0)) = true then
    (F58_J3 call Y lf n0 x0a x0n x0c x1 x5 x6 r2.2.1 (r2.2.2 + 2))
    else
    ((x0a).bind fun p4 =>
    if 0 ≤ ((wrapA .i64 (x5 + n3)) : Int) ∧ (wrapA .i64 (x5 + n3)) < ((x0n : Nat) : Int) then
    ((ldA r2.2.1 p4.1 (p4.2 + Int.toNat (wrapA .i64 (x5 + n3)) * 1)).bind fun v5 =>
    (asSl v5).bind fun s6 =>
    (x0a).bind fun p7 =>
    if 0 ≤ (x5 : Int) ∧ x5 < ((x0n : Nat) : Int) then
    ((ldA r2.2.1 p7.1 (p7.2 + Int.toNat x5 * 1)).bind fun v8 =>
    (asSl v8).bind fun s9 =>
    (x0a).bind fun p10 =>
    if 0 ≤ (x5 : Int) ∧ x5 < ((x0n : Nat) : Int) then
    ((stA r2.2.1 p10.1 (p10.2 + Int.toNat x5 * 1) (.slice s6.1 s6.2.1 s6.2.2) 1).bind fun b11 =>
    let h12 := AHeap.put r2.2.1 p10.1 (some b11)
    (x0a).bind fun p13 =>
    if 0 ≤ ((wrapA .i64 (x5 + n3)) : Int) ∧ (wrapA .i64 (x5 + n3)) < ((x0n : Nat) : Int) then
    ((stA h12 p13.1 (p13.2 + Int.toNat (wrapA .i64 (x5 + n3)) * 1) (.slice s9.1 s9.2.1 s9.2.2) 1).bind fun b14 =>
    let h15 := AHeap.put h12 p13.1 (some b14)
    (x0a).bind fun p16 =>
    if 0 ≤ (x5 : Int) ∧ x5 < ((x0n : Nat) : Int) then
    ((ldA h15 p16.1 (p16.2 + Int.toNat x5 * 1)).bind fun v17 =>
    (asSl v17).bind fun s18 =>
    (x6).bind fun p19 =>
    (ldA h15 p19.1 p19.2).bind fun v20 =>
    (asI .i64 v20).bind fun n21 =>
    (s18.1).bind fun p22 =>
    if 0 ≤ (n21 : Int) ∧ n21 < ((s18.2.1 : Nat) : Int) then
    ((ldA h15 p22.1 (p22.2 + Int.toNat n21 * 1)).bind fun v23 =>
    (asI .i64 v23).bind fun n24 =>
    (call Y 65 [(.int .i64 n24)] h15 (r2.2.2 + 37)).bind fun r25 =>
    (asTup 2 r25.1).bind fun d26 =>
    (asI .i64 (d26.getD 0 .bad)).bind fun n27 =>
    (asI .i64 (d26.getD 1 .bad)).bind fun n28 =>
    F58_L4 call Y lf n0 lf x0a x0n x0c x1 x5 x6 s18.1 s18.2.1 s18.2.2 n27 ((s18.2.1 : Nat) : Int) 0 r25.2.1 (r25.2.2 + 3))
    else none)
    else none)
    else none)
    else none)
    else none)
    else none) := F58_J2_eq' go1 call Y lf n0 x0a x0n x0c x1 x5 x6 h nx

theorem F58_J3_eq' (J : StepF (AV × AHeap × Nat) → StepF (AV × AHeap × Nat)) (call : YldF → CallF) (Y : YldF) (lf : Nat) (n0 : Nat) (x0a : Option (Nat × Nat)) (x0n : Nat) (x0c : Bool) (x1 : Int) (x5 : Int) (x6 : Option (Nat × Nat)) (h : AHeap) (nx : Nat) : F58_J3' go1 J call Y lf n0 x0a x0n x0c x1 x5 x6 h nx =
    (x6).bind fun p1 =>
    (ldA h p1.1 p1.2).bind fun v2 =>
    (asI .i64 v2).bind fun n3 =>
    let h4 := AHeap.put h (nx + 1) (some ⟨[(.int .i64 0)], 1, true⟩)
    (stA h4 (nx + 1) 0 (.int .i64 n3) 1).bind fun b5 =>
    let h6 := AHeap.put h4 (nx + 1) (some b5)
    (ldA h6 (nx + 1) 0).bind fun v7 =>
    (asI .i64 v7).bind fun n8 =>
    (stA h6 (nx + 1) 0 (.int .i64 (wrapA .i64 (n8 + 1))) 1).bind fun b9 =>
    let h10 := AHeap.put h6 (nx + 1) (some b9)
    F58_L1' J J call Y lf n0 x0a x0n x0c x1 x5 (some ((nx + 1), 0)) h10 (nx + 6) := by kernel_rfl

theorem F58_J3_eq (call : YldF → CallF) (Y : YldF) (lf : Nat) (n0 : Nat) (x0a : Option (Nat × Nat)) (x0n : Nat) (x0c : Bool) (x1 : Int) (x5 : Int) (x6 : Option (Nat × Nat)) (h : AHeap) (nx : Nat) : F58_J3 call Y lf n0 x0a x0n x0c x1 x5 x6 h nx =
    (x6).bind fun p1 =>
    (ldA h p1.1 p1.2).bind fun v2 =>
    (asI .i64 v2).bind fun n3 =>
    let h4 := AHeap.put h (nx + 1) (some ⟨[(.int .i64 0)], 1, true⟩)
    (stA h4 (nx + 1) 0 (.int .i64 n3) 1).bind fun b5 =>
    let h6 := AHeap.put h4 (nx + 1) (some b5)
    (ldA h6 (nx + 1) 0).bind fun v7 =>
    (asI .i64 v7).bind fun n8 =>
    (stA h6 (nx + 1) 0 (.int .i64 (wrapA .i64 (n8 + 1))) 1).bind fun b9 =>
    let h10 := AHeap.put h6 (nx + 1) (some b9)
    F58_L1 call Y lf n0 x0a x0n x0c x1 x5 (some ((nx + 1), 0)) h10 (nx + 6) := F58_J3_eq' go1 call Y lf n0 x0a x0n x0c x1 x5 x6 h nx

theorem F58_L4_eq' (J : StepF (AV × AHeap × Nat) → StepF (AV × AHeap × Nat)) (call : YldF → CallF) (Y : YldF) (lf : Nat) (n0 : Nat) (n1 : Nat) (x0a : Option (Nat × Nat)) (x0n : Nat) (x0c : Bool) (x1 : Int) (x5 : Int) (x6 : Option (Nat × Nat)) (x8a : Option (Nat × Nat)) (x8n : Nat) (x8c : Bool) (x9 : Int) (x65 : Int) (x66 : Int) (h : AHeap) (nx : Nat) : F58_L4' go1 J call Y lf n0 (n1 + 1) x0a x0n x0c x1 x5 x6 x8a x8n x8c x9 x65 x66 h nx =
    if (decide ((x66 : Int) < x65)) = true then
    ((x8a).bind fun p1 =>
    if 0 ≤ (x66 : Int) ∧ x66 < ((x8n : Nat) : Int) then
    ((ldA h p1.1 (p1.2 + Int.toNat x66 * 1)).bind fun v2 =>
    (asI .i64 v2).bind fun n3 =>
    (call Y 66 [(.int .i64 n3), (.int .i64 x9)] h (nx + 13)).bind fun r4 =>
    (asI .i64 r4.1).bind fun n5 =>
    (x8a).bind fun p6 =>
    if 0 ≤ (x66 : Int) ∧ x66 < ((x8n : Nat) : Int) then
    ((stA r4.2.1 p6.1 (p6.2 + Int.toNat x66 * 1) (.int .i64 n5) 1).bind fun b7 =>
    let h8 := AHeap.put r4.2.1 p6.1 (some b7)
    F58_L4' J J call Y lf n0 n1 x0a x0n x0c x1 x5 x6 x8a x8n x8c x9 x65 (wrapA .i64 (x66 + 1)) h8 (r4.2.2 + 2))
    else none)
    else none)
    else
    (F58_L5' J J call Y lf n0 lf x0a x0n x0c x1 x5 x6 x8a x8n x8c x0a x0n x0c ((x0n : Nat) : Int) 0 h (nx + 4)) := by kernel_rfl

theorem F58_L4_eq (call : YldF → CallF) (Y : YldF) (lf : Nat) (n0 : Nat) (n1 : Nat) (x0a : Option (Nat × Nat)) (x0n : Nat) (x0c : Bool) (x1 : Int) (x5 : Int) (x6 : Option (Nat × Nat)) (x8a : Option (Nat × Nat)) (x8n : Nat) (x8c : Bool) (x9 : Int) (x65 : Int) (x66 : Int) (h : AHeap) (nx : Nat) : F58_L4 call Y lf n0 (n1 + 1) x0a x0n x0c x1 x5 x6 x8a x8n x8c x9 x65 x66 h nx =
    if (decide ((x66 : Int) < x65)) = true then
    ((x8a).bind fun p1 =>
    if 0 ≤ (x66 : Int) ∧ x66 < ((x8n : Nat) : Int) then
    ((ldA h p1.1 (p1.2 + Int.toNat x66 * 1)).bind fun v2 =>
    (asI .i64 v2).bind fun n3 =>
    (call Y 66 [(.int .i64 n3), (.int .i64 x9)] h (nx + 13)).bind fun r4 =>
    (asI .i64 r4.1).bind fun n5 =>
    (x8a).bind fun p6 =>
    if 0 ≤ (x66 : Int) ∧ x66 < ((x8n : Nat) : Int) then
    ((stA r4.2.1 p6.1 (p6.2 + Int.toNat x66 * 1) (.int .i64 n5) 1).bind fun b7 =>
    let h8 := AHeap.put r4.2.1 p6.1 (some b7)
    F58_L4 call Y lf n0 n1 x0a x0n x0c x1 x5 x6 x8a x8n x8c x9 x65 (wrapA .i64 (x66 + 1)) h8 (r4.2.2 + 2))
    else none)
    else none)
    else
    (F58_L5 call Y lf n0 lf x0a x0n x0c x1 x5 x6 x8a x8n x8c x0a x0n x0c ((x0n : Nat) : Int) 0 h (nx + 4)) := F58_L4_eq' go1 call Y lf n0 n1 x0a x0n x0c x1 x5 x6 x8a x8n x8c x9 x65 x66 h nx

theorem F58_L4_zero (call : YldF → CallF) (Y : YldF) (lf : Nat) (n0 : Nat) (x0a : Option (Nat × Nat)) (x0n : Nat) (x0c : Bool) (x1 : Int) (x5 : Int) (x6 : Option (Nat × Nat)) (x8a : Option (Nat × Nat)) (x8n : Nat) (x8c : Bool) (x9 : Int) (x65 : Int) (x66 : Int) (h : AHeap) (nx : Nat) : F58_L4 call Y lf n0 0 x0a x0n x0c x1 x5 x6 x8a x8n x8c x9 x65 x66 h nx = none := by kernel_rfl

theorem F58_L5_eq' (J : StepF (AV × AHeap × Nat) → StepF (AV × AHeap × Nat)) (call : YldF → CallF) (Y : YldF) (lf : Nat) (n0 : Nat) (n1 : Nat) (x0a : Option (Nat × Nat)) (x0n : Nat) (x0c : Bool) (x1 : Int) (x5 : Int) (x6 : Option (Nat × Nat)) (x8a : Option (Nat × Nat)) (x8n : Nat) (x8c : Bool) (x79a : Option (Nat × Nat)) (x79n : Nat) (x79c : Bool) (x80 : Int) (x81 : Int) (h : AHeap) (nx : Nat) : F58_L5' go1 J call Y lf n0 (n1 + 1) x0a x0n x0c x1 x5 x6 x8a x8n x8c x79a x79n x79c x80 x81 h nx =
    if (decide ((x81 : Int) < x80)) = true then
    ((x79a).bind fun p1 =>
    if 0 ≤ (x81 : Int) ∧ x81 < ((x79n : Nat) : Int) then
    ((ldA h p1.1 (p1.2 + Int.toNat x81 * 1)).bind fun v2 =>
    (asSl v2).bind fun s3 =>
    if ((x81 : Int) == x5) = true then
    (F58_L5' J J call Y lf n0 n1 x0a x0n x0c x1 x5 x6 x8a x8n x8c x79a x79n x79c x80 (wrapA .i64 (x81 + 1)) h (nx + 18))
    else
    ((x6).bind fun p4 =>
    (ldA h p4.1 p4.2).bind fun v5 =>
    (asI .i64 v5).bind fun n6 =>
    (s3.1).bind fun p7 =>
    if 0 ≤ (n6 : Int) ∧ n6 < ((s3.2.1 : Nat) : Int) then
    ((ldA h p7.1 (p7.2 + Int.toNat n6 * 1)).bind fun v8 =>
    (asI .i64 v8).bind fun n9 =>
    if ((n9 : Int) == 0) = true then
    (F58_L5' J J call Y lf n0 n1 x0a x0n x0c x1 x5 x6 x8a x8n x8c x79a x79n x79c x80 (wrapA .i64 (x81 + 1)) h (nx + 18))
    else
    (F58_J6' J J call Y lf n0 n1 x0a x0n x0c x1 x5 x6 x8a x8n x8c s3.1 s3.2.1 s3.2.2 x79a x79n x79c x80 x81 h (nx + 16)))
    else none))
    else none)
    else
    (F58_J3' J J call Y lf n0 x0a x0n x0c x1 (wrapA .i64 (x5 + 1)) x6 h (nx + 4)) := by kernel_rfl

theorem F58_L5_eq (call : YldF → CallF) (Y : YldF) (lf : Nat) (n0 : Nat) (n1 : Nat) (x0a : Option (Nat × Nat)) (x0n : Nat) (x0c : Bool) (x1 : Int) (x5 : Int) (x6 : Option (Nat × Nat)) (x8a : Option (Nat × Nat)) (x8n : Nat) (x8c : Bool) (x79a : Option (Nat × Nat)) (x79n : Nat) (x79c : Bool) (x80 : Int) (x81 : Int) (h : AHeap) (nx : Nat) : F58_L5 call Y lf n0 (n1 + 1) x0a x0n x0c x1 x5 x6 x8a x8n x8c x79a x79n x79c x80 x81 h nx =
    if (decide ((x81 : Int) < x80)) = true then
    ((x79a).bind fun p1 =>
    if 0 ≤ (x81 : Int) ∧ x81 < ((x79n : Nat) : Int) then
    ((ldA h p1.1 (p1.2 + Int.toNat x81 * 1)).bind fun v2 =>
    (asSl v2).bind fun s3 =>
    if ((x81 : Int) == x5) = true then
    (F58_L5 call Y lf n0 n1 x0a x0n x0c x1 x5 x6 x8a x8n x8c x79a x79n x79c x80 (wrapA .i64 (x81 + 1)) h (nx + 18))
    else
    ((x6).bind fun p4 =>
    (ldA h p4.1 p4.2).bind fun v5 =>
    (asI .i64 v5).bind fun n6 =>
    (s3.1).bind fun p7 =>
    if 0 ≤ (n6 : Int) ∧ n6 < ((s3.2.1 : Nat) : Int) then
    ((ldA h p7.1 (p7.2 + Int.toNat n6 * 1)).bind fun v8 =>
    (asI .i64 v8).bind fun n9 =>
    if ((n9 : Int) == 0) = true then
    (F58_L5 call Y lf n0 n1 x0a x0n x0c x1 x5 x6 x8a x8n x8c x79a x79n x79c x80 (wrapA .i64 (x81 + 1)) h (nx + 18))
    else
    (F58_J6 call Y lf n0 n1 x0a x0n x0c x1 x5 x6 x8a x8n x8c s3.1 s3.2.1 s3.2.2 x79a x79n x79c x80 x81 h (nx + 16)))
    else none))
    else none)
    else
    (F58_J3 call Y lf n0 x0a x0n x0c x1 (wrapA .i64 (x5 + 1)) x6 h (nx + 4)) := F58_L5_eq' go1 call Y lf n0 n1 x0a x0n x0c x1 x5 x6 x8a x8n x8c x79a x79n x79c x80 x81 h nx

theorem F58_L5_zero (call : YldF → CallF) (Y : YldF) (lf : Nat) (n0 : Nat) (x0a : Option (Nat × Nat)) (x0n : Nat) (x0c : Bool) (x1 : Int) (x5 : Int) (x6 : Option (Nat × Nat)) (x8a : Option (Nat × Nat)) (x8n : Nat) (x8c : Bool) (x79a : Option (Nat × Nat)) (x79n : Nat) (x79c : Bool) (x80 : Int) (x81 : Int) (h : AHeap) (nx : Nat) : F58_L5 call Y lf n0 0 x0a x0n x0c x1 x5 x6 x8a x8n x8c x79a x79n x79c x80 x81 h nx = none := by kernel_rfl

theorem F58_J6_eq' (J : StepF (AV × AHeap × Nat) → StepF (AV × AHeap × Nat)) (call : YldF → CallF) (Y : YldF) (lf : Nat) (n0 : Nat) (n1 : Nat) (x0a : Option (Nat × Nat)) (x0n : Nat) (x0c : Bool) (x1 : Int) (x5 : Int) (x6 : Option (Nat × Nat)) (x8a : Option (Nat × Nat)) (x8n : Nat) (x8c : Bool) (x13a : Option (Nat × Nat)) (x13n : Nat) (x13c : Bool) (x79a : Option (Nat × Nat)) (x79n : Nat) (x79c : Bool) (x80 : Int) (x81 : Int) (h : AHeap) (nx : Nat) : F58_J6' go1 J call Y lf n0 n1 x0a x0n x0c x1 x5 x6 x8a x8n x8c x13a x13n x13c x79a x79n x79c x80 x81 h nx =
    (x6).bind fun p1 =>
    (ldA h p1.1 p1.2).bind fun v2 =>
    (asI .i64 v2).bind fun n3 =>
    (x13a).bind fun p4 =>
    if 0 ≤ (n3 : Int) ∧ n3 < ((x13n : Nat) : Int) then
    ((ldA h p4.1 (p4.2 + Int.toNat n3 * 1)).bind fun v5 =>
    (asI .i64 v5).bind fun n6 =>
    F58_L7' J J call Y lf n0 n1 lf x0a x0n x0c x1 x5 x6 x8a x8n x8c x13a x13n x13c n6 x79a x79n x79c x80 x81 ((x13n : Nat) : Int) 0 h (nx + 8))
    else none := by kernel_rfl

theorem F58_J6_eq (call : YldF → CallF) (Y : YldF) (lf : Nat) (n0 : Nat) (n1 : Nat) (x0a : Option (Nat × Nat)) (x0n : Nat) (x0c : Bool) (x1 : Int) (x5 : Int) (x6 : Option (Nat × Nat)) (x8a : Option (Nat × Nat)) (x8n : Nat) (x8c : Bool) (x13a : Option (Nat × Nat)) (x13n : Nat) (x13c : Bool) (x79a : Option (Nat × Nat)) (x79n : Nat) (x79c : Bool) (x80 : Int) (x81 : Int) (h : AHeap) (nx : Nat) : F58_J6 call Y lf n0 n1 x0a x0n x0c x1 x5 x6 x8a x8n x8c x13a x13n x13c x79a x79n x79c x80 x81 h nx =
    (x6).bind fun p1 =>
    (ldA h p1.1 p1.2).bind fun v2 =>
    (asI .i64 v2).bind fun n3 =>
    (x13a).bind fun p4 =>
    if 0 ≤ (n3 : Int) ∧ n3 < ((x13n : Nat) : Int) then
    ((ldA h p4.1 (p4.2 + Int.toNat n3 * 1)).bind fun v5 =>
    (asI .i64 v5).bind fun n6 =>
    F58_L7 call Y lf n0 n1 lf x0a x0n x0c x1 x5 x6 x8a x8n x8c x13a x13n x13c n6 x79a x79n x79c x80 x81 ((x13n : Nat) : Int) 0 h (nx + 8))
    else none := F58_J6_eq' go1 call Y lf n0 n1 x0a x0n x0c x1 x5 x6 x8a x8n x8c x13a x13n x13c x79a x79n x79c x80 x81 h nx

theorem F58_L7_eq' (J : StepF (AV × AHeap × Nat) → StepF (AV × AHeap × Nat)) (call : YldF → CallF) (Y : YldF) (lf : Nat) (n0 : Nat) (n1 : Nat) (n2 : Nat) (x0a : Option (Nat × Nat)) (x0n : Nat) (x0c : Bool) (x1 : Int) (x5 : Int) (x6 : Option (Nat × Nat)) (x8a : Option (Nat × Nat)) (x8n : Nat) (x8c : Bool) (x13a : Option (Nat × Nat)) (x13n : Nat) (x13c : Bool) (x14 : Int) (x79a : Option (Nat × Nat)) (x79n : Nat) (x79c : Bool) (x80 : Int) (x81 : Int) (x101 : Int) (x102 : Int) (h : AHeap) (nx : Nat) : F58_L7' go1 J call Y lf n0 n1 (n2 + 1) x0a x0n x0c x1 x5 x6 x8a x8n x8c x13a x13n x13c x14 x79a x79n x79c x80 x81 x101 x102 h nx =
    if (decide ((x102 : Int) < x101)) = true then
    ((x13a).bind fun p1 =>
    if 0 ≤ (x102 : Int) ∧ x102 < ((x13n : Nat) : Int) then
    ((ldA h p1.1 (p1.2 + Int.toNat x102 * 1)).bind fun v2 =>
    (asI .i64 v2).bind fun n3 =>
    (x8a).bind fun p4 =>
    if 0 ≤ (x102 : Int) ∧ x102 < ((x8n : Nat) : Int) then
    ((ldA h p4.1 (p4.2 + Int.toNat x102 * 1)).bind fun v5 =>
    (asI .i64 v5).bind fun n6 =>
    (call Y 66 [(.int .i64 x14), (.int .i64 n6)] h (nx + 16)).bind fun r7 =>
    (asI .i64 r7.1).bind fun n8 =>
    (x13a).bind fun p9 =>
    if 0 ≤ (x102 : Int) ∧ x102 < ((x13n : Nat) : Int) then
    ((stA r7.2.1 p9.1 (p9.2 + Int.toNat x102 * 1) (.int .i64 (bits .xor .i64 n3 n8)) 1).bind fun b10 =>
    let h11 := AHeap.put r7.2.1 p9.1 (some b10)
    ifKept [(h, r7.2.1, [p1.1])]
    (F58_L7' J J call Y lf n0 n1 n2 x0a x0n x0c x1 x5 x6 x8a x8n x8c x13a x13n x13c x14 x79a x79n x79c x80 x81 x101 (wrapA .i64 (x102 + 1)) h11 (r7.2.2 + 2)))
    else none)
    else none)
    else none)
    else
    (F58_L5' J J call Y lf n0 n1 x0a x0n x0c x1 x5 x6 x8a x8n x8c x79a x79n x79c x80 (wrapA .i64 (x81 + 1)) h (nx + 3)) := by kernel_rfl

theorem F58_L7_eq (call : YldF → CallF) (Y : YldF) (lf : Nat) (n0 : Nat) (n1 : Nat) (n2 : Nat) (x0a : Option (Nat × Nat)) (x0n : Nat) (x0c : Bool) (x1 : Int) (x5 : Int) (x6 : Option (Nat × Nat)) (x8a : Option (Nat × Nat)) (x8n : Nat) (x8c : Bool) (x13a : Option (Nat × Nat)) (x13n : Nat) (x13c : Bool) (x14 : Int) (x79a : Option (Nat × Nat)) (x79n : Nat) (x79c : Bool) (x80 : Int) (x81 : Int) (x101 : Int) (x102 : Int) (h : AHeap) (nx : Nat) : F58_L7 call Y lf n0 n1 (n2 + 1) x0a x0n x0c x1 x5 x6 x8a x8n x8c x13a x13n x13c x14 x79a x79n x79c x80 x81 x101 x102 h nx =
    if (decide ((x102 : Int) < x101)) = true then
    ((x13a).bind fun p1 =>
    if 0 ≤ (x102 : Int) ∧ x102 < ((x13n : Nat) : Int) then
    ((ldA h p1.1 (p1.2 + Int.toNat x102 * 1)).bind fun v2 =>
    (asI .i64 v2).bind fun n3 =>
    (x8a).bind fun p4 =>
    if 0 ≤ (x102 : Int) ∧ x102 < ((x8n : Nat) : Int) then
    ((ldA h p4.1 (p4.2 + Int.toNat x102 * 1)).bind fun v5 =>
    (asI .i64 v5).bind fun n6 =>
    (call Y 66 [(.int .i64 x14), (.int .i64 n6)] h (nx + 16)).bind fun r7 =>
    (asI .i64 r7.1).bind fun n8 =>
    (x13a).bind fun p9 =>
    if 0 ≤ (x102 : Int) ∧ x102 < ((x13n : Nat) : Int) then
    ((stA r7.2.1 p9.1 (p9.2 + Int.toNat x102 * 1) (.int .i64 (bits .xor .i64 n3 n8)) 1).bind fun b10 =>
    let h11 := AHeap.put r7.2.1 p9.1 (some b10)
    ifKept [(h, r7.2.1, [p1.1])]
    (F58_L7 call Y lf n0 n1 n2 x0a x0n x0c x1 x5 x6 x8a x8n x8c x13a x13n x13c x14 x79a x79n x79c x80 x81 x101 (wrapA .i64 (x102 + 1)) h11 (r7.2.2 + 2)))
    else none)
    else none)
    else none)
    else
    (F58_L5 call Y lf n0 n1 x0a x0n x0c x1 x5 x6 x8a x8n x8c x79a x79n x79c x80 (wrapA .i64 (x81 + 1)) h (nx + 3)) := F58_L7_eq' go1 call Y lf n0 n1 n2 x0a x0n x0c x1 x5 x6 x8a x8n x8c x13a x13n x13c x14 x79a x79n x79c x80 x81 x101 x102 h nx

theorem F58_L7_zero (call : YldF → CallF) (Y : YldF) (lf : Nat) (n0 : Nat) (n1 : Nat) (x0a : Option (Nat × Nat)) (x0n : Nat) (x0c : Bool) (x1 : Int) (x5 : Int) (x6 : Option (Nat × Nat)) (x8a : Option (Nat × Nat)) (x8n : Nat) (x8c : Bool) (x13a : Option (Nat × Nat)) (x13n : Nat) (x13c : Bool) (x14 : Int) (x79a : Option (Nat × Nat)) (x79n : Nat) (x79c : Bool) (x80 : Int) (x81 : Int) (x101 : Int) (x102 : Int) (h : AHeap) (nx : Nat) : F58_L7 call Y lf n0 n1 0 x0a x0n x0c x1 x5 x6 x8a x8n x8c x13a x13n x13c x14 x79a x79n x79c x80 x81 x101 x102 h nx = none := by kernel_rfl

theorem F58_eq' (J : StepF (AV × AHeap × Nat) → StepF (AV × AHeap × Nat)) (n : Nat) (Y : YldF) (x0a : Option (Nat × Nat)) (x0n : Nat) (x0c : Bool) (x1 : Int) (h : AHeap) (nx : Nat) : rootJ J Try.prog keepT (callP Try.prog keepT n) Y n 58 [(.slice x0a x0n x0c), (.int .i64 x1)] h nx =
    let h1 := AHeap.put h (nx + 2) (some ⟨[(.int .i64 0)], 1, true⟩)
    (stA h1 (nx + 2) 0 (.int .i64 0) 1).bind fun b2 =>
    let h3 := AHeap.put h1 (nx + 2) (some b2)
    F58_L1' J J (callP Try.prog keepT n) Y n n x0a x0n x0c x1 0 (some ((nx + 2), 0)) h3 (nx + 4) := by kernel_rfl

/-- (quickset/mat.matrix).reduce -/
theorem F58_eq (n : Nat) (Y : YldF) (x0a : Option (Nat × Nat)) (x0n : Nat) (x0c : Bool) (x1 : Int) (h : AHeap) (nx : Nat) : callP Try.prog keepT (n + 1) Y 58 [(.slice x0a x0n x0c), (.int .i64 x1)] h nx =
    let h1 := AHeap.put h (nx + 2) (some ⟨[(.int .i64 0)], 1, true⟩)
    (stA h1 (nx + 2) 0 (.int .i64 0) 1).bind fun b2 =>
    let h3 := AHeap.put h1 (nx + 2) (some b2)
    F58_L1 (callP Try.prog keepT n) Y n n x0a x0n x0c x1 0 (some ((nx + 2), 0)) h3 (nx + 4) := F58_eq' go1 n Y x0a x0n x0c x1 h nx

noncomputable def c59 : Code := (Try.f59.body).getD .skip

noncomputable def r59 : List ResultVar := Try.f59.results.toList

noncomputable def F59_L1' (W J : StepF (AV × AHeap × Nat) → StepF (AV × AHeap × Nat)) (call : YldF → CallF) (Y : YldF) (lf : Nat) (n0 : Nat) (x5a : Option (Nat × Nat)) (x5n : Nat) (x5c : Bool) (x6 : Int) (x7 : Int) (h : AHeap) (nx : Nat) : Option (AV × AHeap × Nat) :=
  goK W J drawK (machOf Try.prog) call Y (keepT 59) lf c59 [1, 0, 1, 0, 9] [n0] (retK (machOf Try.prog) ⟨c59, 15, r59, keepT 59⟩) ⟨15, mkL [(5, (.slice x5a x5n x5c)), (6, (.int .i64 x6)), (7, (.int .i64 x7))]⟩ h nx

noncomputable def F59_L1 (call : YldF → CallF) (Y : YldF) (lf : Nat) (n0 : Nat) (x5a : Option (Nat × Nat)) (x5n : Nat) (x5c : Bool) (x6 : Int) (x7 : Int) (h : AHeap) (nx : Nat) : Option (AV × AHeap × Nat) := F59_L1' go1 go1 call Y lf n0 x5a x5n x5c x6 x7 h nx

theorem F59_L1_eq' (J : StepF (AV × AHeap × Nat) → StepF (AV × AHeap × Nat)) (call : YldF → CallF) (Y : YldF) (lf : Nat) (n0 : Nat) (x5a : Option (Nat × Nat)) (x5n : Nat) (x5c : Bool) (x6 : Int) (x7 : Int) (h : AHeap) (nx : Nat) : F59_L1' go1 J call Y lf (n0 + 1) x5a x5n x5c x6 x7 h nx =
    if (decide ((x7 : Int) < x6)) = true then
    ((x5a).bind fun p1 =>
    if 0 ≤ (x7 : Int) ∧ x7 < ((x5n : Nat) : Int) then
    ((ldA h p1.1 (p1.2 + Int.toNat x7 * 1)).bind fun v2 =>
    (asI .i64 v2).bind fun n3 =>
    if (((bits .andNot .i64 n3 255) : Int) != 0) = true then
    (some ((.bool true), h, (nx + 8)))
    else
    (F59_L1' J J call Y lf n0 x5a x5n x5c x6 (wrapA .i64 (x7 + 1)) h (nx + 9)))
    else none)
    else
    (some ((.bool false), h, (nx + 2))) := by kernel_rfl

theorem F59_L1_eq (call : YldF → CallF) (Y : YldF) (lf : Nat) (n0 : Nat) (x5a : Option (Nat × Nat)) (x5n : Nat) (x5c : Bool) (x6 : Int) (x7 : Int) (h : AHeap) (nx : Nat) : F59_L1 call Y lf (n0 + 1) x5a x5n x5c x6 x7 h nx =
    if (decide ((x7 : Int) < x6)) = true then
    ((x5a).bind fun p1 =>
    if 0 ≤ (x7 : Int) ∧ x7 < ((x5n : Nat) : Int) then
    ((ldA h p1.1 (p1.2 + Int.toNat x7 * 1)).bind fun v2 =>
    (asI .i64 v2).bind fun n3 =>
    if (((bits .andNot .i64 n3 255) : Int) != 0) = true then
    (some ((.bool true), h, (nx + 8)))
    else
    (F59_L1 call Y lf n0 x5a x5n x5c x6 (wrapA .i64 (x7 + 1)) h (nx + 9)))
    else none)
    else
    (some ((.bool false), h, (nx + 2))) := F59_L1_eq' go1 call Y lf n0 x5a x5n x5c x6 x7 h nx

theorem F59_L1_zero (call : YldF → CallF) (Y : YldF) (lf : Nat) (x5a : Option (Nat × Nat)) (x5n : Nat) (x5c : Bool) (x6 : Int) (x7 : Int) (h : AHeap) (nx : Nat) : F59_L1 call Y lf 0 x5a x5n x5c x6 x7 h nx = none := by kernel_rfl

theorem F59_eq' (J : StepF (AV × AHeap × Nat) → StepF (AV × AHeap × Nat)) (n : Nat) (Y : YldF) (x0a : Option (Nat × Nat)) (x0n : Nat) (x0c : Bool) (h : AHeap) (nx : Nat) : rootJ J Try.prog keepT (callP Try.prog keepT n) Y n 59 [(.slice x0a x0n x0c)] h nx =
    F59_L1' J J (callP Try.prog keepT n) Y n n x0a x0n x0c ((x0n : Nat) : Int) 0 h (nx + 4) := by kernel_rfl

/-- quickset/gf.bad -/
theorem F59_eq (n : Nat) (Y : YldF) (x0a : Option (Nat × Nat)) (x0n : Nat) (x0c : Bool) (h : AHeap) (nx : Nat) : callP Try.prog keepT (n + 1) Y 59 [(.slice x0a x0n x0c)] h nx =
    F59_L1 (callP Try.prog keepT n) Y n n x0a x0n x0c ((x0n : Nat) : Int) 0 h (nx + 4) := F59_eq' go1 n Y x0a x0n x0c h nx

noncomputable def c60 : Code := (Try.f60.body).getD .skip

noncomputable def r60 : List ResultVar := Try.f60.results.toList

noncomputable def F60_L1' (W J : StepF (AV × AHeap × Nat) → StepF (AV × AHeap × Nat)) (call : YldF → CallF) (Y : YldF) (lf : Nat) (n0 : Nat) (x0 : Int) (x1 : Int) (x5 : Int) (h : AHeap) (nx : Nat) : Option (AV × AHeap × Nat) :=
  goK W J drawK (machOf Try.prog) call Y (keepT 60) lf c60 [1, 1, 0, 0, 9] [n0] (retK (machOf Try.prog) ⟨c60, 23, r60, keepT 60⟩) ⟨23, mkL [(0, (.int .i64 x0)), (1, (.int .i64 x1)), (5, (.int .i64 x5))]⟩ h nx

noncomputable def F60_L1 (call : YldF → CallF) (Y : YldF) (lf : Nat) (n0 : Nat) (x0 : Int) (x1 : Int) (x5 : Int) (h : AHeap) (nx : Nat) : Option (AV × AHeap × Nat) := F60_L1' go1 go1 call Y lf n0 x0 x1 x5 h nx

noncomputable def F60_J2' (W J : StepF (AV × AHeap × Nat) → StepF (AV × AHeap × Nat)) (call : YldF → CallF) (Y : YldF) (lf : Nat) (n0 : Nat) (x0 : Int) (x1 : Int) (x5 : Int) (h : AHeap) (nx : Nat) : Option (AV × AHeap × Nat) :=
  goK W J drawK (machOf Try.prog) call Y (keepT 60) lf c60 [1, 1, 0, 0, 0, 1, 0, 0, 1] [n0] (retK (machOf Try.prog) ⟨c60, 23, r60, keepT 60⟩) ⟨23, mkL [(0, (.int .i64 x0)), (1, (.int .i64 x1)), (5, (.int .i64 x5))]⟩ h nx

noncomputable def F60_J2 (call : YldF → CallF) (Y : YldF) (lf : Nat) (n0 : Nat) (x0 : Int) (x1 : Int) (x5 : Int) (h : AHeap) (nx : Nat) : Option (AV × AHeap × Nat) := F60_J2' go1 go1 call Y lf n0 x0 x1 x5 h nx

theorem F60_L1_eq' (J : StepF (AV × AHeap × Nat) → StepF (AV × AHeap × Nat)) (call : YldF → CallF) (Y : YldF) (lf : Nat) (n0 : Nat) (x0 : Int) (x1 : Int) (x5 : Int) (h : AHeap) (nx : Nat) : F60_L1' go1 J call Y lf (n0 + 1) x0 x1 x5 h nx =
    if (decide ((x1 : Int) > 0)) = true then
    (if (((bits .and .i64 x1 1) : Int) == 1) = true then
    (F60_J2' J J call Y lf n0 x0 x1 (bits .xor .i64 x5 x0) h (nx + 9))
    else
    (F60_J2' J J call Y lf n0 x0 x1 x5 h (nx + 5)))
    else
    (some ((.int .i64 x5), h, (nx + 4))) := by kernel_rfl

theorem F60_L1_eq (call : YldF → CallF) (Y : YldF) (lf : Nat) (n0 : Nat) (x0 : Int) (x1 : Int) (x5 : Int) (h : AHeap) (nx : Nat) : F60_L1 call Y lf (n0 + 1) x0 x1 x5 h nx =
    if (decide ((x1 : Int) > 0)) = true then
    (if (((bits .and .i64 x1 1) : Int) == 1) = true then
    (F60_J2 call Y lf n0 x0 x1 (bits .xor .i64 x5 x0) h (nx + 9))
    else
    (F60_J2 call Y lf n0 x0 x1 x5 h (nx + 5)))
    else
    (some ((.int .i64 x5), h, (nx + 4))) := F60_L1_eq' go1 call Y lf n0 x0 x1 x5 h nx

theorem F60_L1_zero (call : YldF → CallF) (Y : YldF) (lf : Nat) (x0 : Int) (x1 : Int) (x5 : Int) (h : AHeap) (nx : Nat) : F60_L1 call Y lf 0 x0 x1 x5 h nx = none := by kernel_rfl

theorem F60_J2_eq' (J : StepF (AV × AHeap × Nat) → StepF (AV × AHeap × Nat)) (call : YldF → CallF) (Y : YldF) (lf : Nat) (n0 : Nat) (x0 : Int) (x1 : Int) (x5 : Int) (h : AHeap) (nx : Nat) : F60_J2' go1 J call Y lf n0 x0 x1 x5 h nx =
    if (decide (((wrapA .i64 (x0 * (2:Int) ^ min (Int.toNat 1) (IntKind.bits .i64))) : Int) > 255)) = true then
    (F60_L1' J J call Y lf n0 (bits .xor .i64 (wrapA .i64 (x0 * (2:Int) ^ min (Int.toNat 1) (IntKind.bits .i64))) 285) (Int.fdiv x1 ((2:Int) ^ min (Int.toNat 1) (IntKind.bits .i64))) x5 h (nx + 11))
    else
    (F60_L1' J J call Y lf n0 (wrapA .i64 (x0 * (2:Int) ^ min (Int.toNat 1) (IntKind.bits .i64))) (Int.fdiv x1 ((2:Int) ^ min (Int.toNat 1) (IntKind.bits .i64))) x5 h (nx + 8)) := by kernel_rfl

theorem F60_J2_eq (call : YldF → CallF) (Y : YldF) (lf : Nat) (n0 : Nat) (x0 : Int) (x1 : Int) (x5 : Int) (h : AHeap) (nx : Nat) : F60_J2 call Y lf n0 x0 x1 x5 h nx =
    if (decide (((wrapA .i64 (x0 * (2:Int) ^ min (Int.toNat 1) (IntKind.bits .i64))) : Int) > 255)) = true then
    (F60_L1 call Y lf n0 (bits .xor .i64 (wrapA .i64 (x0 * (2:Int) ^ min (Int.toNat 1) (IntKind.bits .i64))) 285) (Int.fdiv x1 ((2:Int) ^ min (Int.toNat 1) (IntKind.bits .i64))) x5 h (nx + 11))
    else
    (F60_L1 call Y lf n0 (wrapA .i64 (x0 * (2:Int) ^ min (Int.toNat 1) (IntKind.bits .i64))) (Int.fdiv x1 ((2:Int) ^ min (Int.toNat 1) (IntKind.bits .i64))) x5 h (nx + 8)) := F60_J2_eq' go1 call Y lf n0 x0 x1 x5 h nx

theorem F60_eq' (J : StepF (AV × AHeap × Nat) → StepF (AV × AHeap × Nat)) (n : Nat) (Y : YldF) (x0 : Int) (x1 : Int) (h : AHeap) (nx : Nat) : rootJ J Try.prog keepT (callP Try.prog keepT n) Y n 60 [(.int .i64 x0), (.int .i64 x1)] h nx =
    F60_L1' J J (callP Try.prog keepT n) Y n n x0 x1 0 h (nx + 2) := by kernel_rfl

/-- quickset/gf.times -/
theorem F60_eq (n : Nat) (Y : YldF) (x0 : Int) (x1 : Int) (h : AHeap) (nx : Nat) : callP Try.prog keepT (n + 1) Y 60 [(.int .i64 x0), (.int .i64 x1)] h nx =
    F60_L1 (callP Try.prog keepT n) Y n n x0 x1 0 h (nx + 2) := F60_eq' go1 n Y x0 x1 h nx

noncomputable def c61 : Code := (Try.f61.body).getD .skip

noncomputable def r61 : List ResultVar := Try.f61.results.toList

noncomputable def F61_L1' (W J : StepF (AV × AHeap × Nat) → StepF (AV × AHeap × Nat)) (call : YldF → CallF) (Y : YldF) (lf : Nat) (n0 : Nat) (x0 : Int) (x1 : Int) (x5 : Int) (h : AHeap) (nx : Nat) : Option (AV × AHeap × Nat) :=
  goK W J drawK (machOf Try.prog) call Y (keepT 61) lf c61 [1, 1, 0, 0, 9] [n0] (retK (machOf Try.prog) ⟨c61, 20, r61, keepT 61⟩) ⟨20, mkL [(0, (.int .i64 x0)), (1, (.int .i64 x1)), (5, (.int .i64 x5))]⟩ h nx

noncomputable def F61_L1 (call : YldF → CallF) (Y : YldF) (lf : Nat) (n0 : Nat) (x0 : Int) (x1 : Int) (x5 : Int) (h : AHeap) (nx : Nat) : Option (AV × AHeap × Nat) := F61_L1' go1 go1 call Y lf n0 x0 x1 x5 h nx

noncomputable def F61_J2' (W J : StepF (AV × AHeap × Nat) → StepF (AV × AHeap × Nat)) (call : YldF → CallF) (Y : YldF) (lf : Nat) (n0 : Nat) (x0 : Int) (x1 : Int) (x5 : Int) (h : AHeap) (nx : Nat) : Option (AV × AHeap × Nat) :=
  goK W J drawK (machOf Try.prog) call Y (keepT 61) lf c61 [1, 1, 0, 0, 0, 1, 0, 0, 1] [n0] (retK (machOf Try.prog) ⟨c61, 20, r61, keepT 61⟩) ⟨20, mkL [(0, (.int .i64 x0)), (1, (.int .i64 x1)), (5, (.int .i64 x5))]⟩ h nx

noncomputable def F61_J2 (call : YldF → CallF) (Y : YldF) (lf : Nat) (n0 : Nat) (x0 : Int) (x1 : Int) (x5 : Int) (h : AHeap) (nx : Nat) : Option (AV × AHeap × Nat) := F61_J2' go1 go1 call Y lf n0 x0 x1 x5 h nx

theorem F61_L1_eq' (J : StepF (AV × AHeap × Nat) → StepF (AV × AHeap × Nat)) (call : YldF → CallF) (Y : YldF) (lf : Nat) (n0 : Nat) (x0 : Int) (x1 : Int) (x5 : Int) (h : AHeap) (nx : Nat) : F61_L1' go1 J call Y lf (n0 + 1) x0 x1 x5 h nx =
    if (decide ((x1 : Int) > 0)) = true then
    (if (((bits .and .i64 x1 1) : Int) == 1) = true then
    ((call Y 60 [(.int .i64 x5), (.int .i64 x0)] h (nx + 9)).bind fun r1 =>
    (asI .i64 r1.1).bind fun n2 =>
    F61_J2' J J call Y lf n0 x0 x1 n2 r1.2.1 r1.2.2)
    else
    (F61_J2' J J call Y lf n0 x0 x1 x5 h (nx + 5)))
    else
    (some ((.int .i64 x5), h, (nx + 4))) := by kernel_rfl

theorem F61_L1_eq (call : YldF → CallF) (Y : YldF) (lf : Nat) (n0 : Nat) (x0 : Int) (x1 : Int) (x5 : Int) (h : AHeap) (nx : Nat) : F61_L1 call Y lf (n0 + 1) x0 x1 x5 h nx =
    if (decide ((x1 : Int) > 0)) = true then
    (if (((bits .and .i64 x1 1) : Int) == 1) = true then
    ((call Y 60 [(.int .i64 x5), (.int .i64 x0)] h (nx + 9)).bind fun r1 =>
    (asI .i64 r1.1).bind fun n2 =>
    F61_J2 call Y lf n0 x0 x1 n2 r1.2.1 r1.2.2)
    else
    (F61_J2 call Y lf n0 x0 x1 x5 h (nx + 5)))
    else
    (some ((.int .i64 x5), h, (nx + 4))) := F61_L1_eq' go1 call Y lf n0 x0 x1 x5 h nx

theorem F61_L1_zero (call : YldF → CallF) (Y : YldF) (lf : Nat) (x0 : Int) (x1 : Int) (x5 : Int) (h : AHeap) (nx : Nat) : F61_L1 call Y lf 0 x0 x1 x5 h nx = none := by kernel_rfl

theorem F61_J2_eq' (J : StepF (AV × AHeap × Nat) → StepF (AV × AHeap × Nat)) (call : YldF → CallF) (Y : YldF) (lf : Nat) (n0 : Nat) (x0 : Int) (x1 : Int) (x5 : Int) (h : AHeap) (nx : Nat) : F61_J2' go1 J call Y lf n0 x0 x1 x5 h nx =
    (call Y 60 [(.int .i64 x0), (.int .i64 x0)] h (nx + 4)).bind fun r1 =>
    (asI .i64 r1.1).bind fun n2 =>
    F61_L1' J J call Y lf n0 n2 (Int.fdiv x1 ((2:Int) ^ min (Int.toNat 1) (IntKind.bits .i64))) x5 r1.2.1 (r1.2.2 + 3) := by kernel_rfl

theorem F61_J2_eq (call : YldF → CallF) (Y : YldF) (lf : Nat) (n0 : Nat) (x0 : Int) (x1 : Int) (x5 : Int) (h : AHeap) (nx : Nat) : F61_J2 call Y lf n0 x0 x1 x5 h nx =
    (call Y 60 [(.int .i64 x0), (.int .i64 x0)] h (nx + 4)).bind fun r1 =>
    (asI .i64 r1.1).bind fun n2 =>
    F61_L1 call Y lf n0 n2 (Int.fdiv x1 ((2:Int) ^ min (Int.toNat 1) (IntKind.bits .i64))) x5 r1.2.1 (r1.2.2 + 3) := F61_J2_eq' go1 call Y lf n0 x0 x1 x5 h nx

theorem F61_eq' (J : StepF (AV × AHeap × Nat) → StepF (AV × AHeap × Nat)) (n : Nat) (Y : YldF) (x0 : Int) (x1 : Int) (h : AHeap) (nx : Nat) : rootJ J Try.prog keepT (callP Try.prog keepT n) Y n 61 [(.int .i64 x0), (.int .i64 x1)] h nx =
    F61_L1' J J (callP Try.prog keepT n) Y n n x0 x1 1 h (nx + 2) := by kernel_rfl

/-- quickset/gf.power -/
theorem F61_eq (n : Nat) (Y : YldF) (x0 : Int) (x1 : Int) (h : AHeap) (nx : Nat) : callP Try.prog keepT (n + 1) Y 61 [(.int .i64 x0), (.int .i64 x1)] h nx =
    F61_L1 (callP Try.prog keepT n) Y n n x0 x1 1 h (nx + 2) := F61_eq' go1 n Y x0 x1 h nx

noncomputable def c62 : Code := (Try.f62.body).getD .skip

noncomputable def r62 : List ResultVar := Try.f62.results.toList

theorem F62_eq' (J : StepF (AV × AHeap × Nat) → StepF (AV × AHeap × Nat)) (n : Nat) (Y : YldF) (x0a : Option (Nat × Nat)) (x0n : Nat) (x0c : Bool) (h : AHeap) (nx : Nat) : rootJ J Try.prog keepT (callP Try.prog keepT n) Y n 62 [(.slice x0a x0n x0c)] h nx =
    ((callP Try.prog keepT n) Y 67 [(.slice x0a x0n x0c), (.fn 68 [] [])] h (nx + 5)).bind fun r1 =>
    (asB r1.1).bind fun t2 =>
    some ((.bool (!t2)), r1.2.1, r1.2.2) := by kernel_rfl

/-- quickset/mat.all -/
theorem F62_eq (n : Nat) (Y : YldF) (x0a : Option (Nat × Nat)) (x0n : Nat) (x0c : Bool) (h : AHeap) (nx : Nat) : callP Try.prog keepT (n + 1) Y 62 [(.slice x0a x0n x0c)] h nx =
    ((callP Try.prog keepT n) Y 67 [(.slice x0a x0n x0c), (.fn 68 [] [])] h (nx + 5)).bind fun r1 =>
    (asB r1.1).bind fun t2 =>
    some ((.bool (!t2)), r1.2.1, r1.2.2) := F62_eq' go1 n Y x0a x0n x0c h nx

noncomputable def c63 : Code := (Try.f63.body).getD .skip

noncomputable def r63 : List ResultVar := Try.f63.results.toList

noncomputable def F63_L1' (W J : StepF (AV × AHeap × Nat) → StepF (AV × AHeap × Nat)) (call : YldF → CallF) (Y : YldF) (lf : Nat) (n0 : Nat) (x0a : Option (Nat × Nat)) (x0n : Nat) (x0c : Bool) (x1 : AV) (x7 : Int) (x8 : Int) (h : AHeap) (nx : Nat) : Option (AV × AHeap × Nat) :=
  goK W J drawK (machOf Try.prog) call Y (keepT 63) lf c63 [1, 0, 1, 0, 9] [n0] (retK (machOf Try.prog) ⟨c63, 19, r63, keepT 63⟩) ⟨19, mkL [(0, (.slice x0a x0n x0c)), (1, x1), (7, (.int .i64 x7)), (8, (.int .i64 x8))]⟩ h nx

noncomputable def F63_L1 (call : YldF → CallF) (Y : YldF) (lf : Nat) (n0 : Nat) (x0a : Option (Nat × Nat)) (x0n : Nat) (x0c : Bool) (x1 : AV) (x7 : Int) (x8 : Int) (h : AHeap) (nx : Nat) : Option (AV × AHeap × Nat) := F63_L1' go1 go1 call Y lf n0 x0a x0n x0c x1 x7 x8 h nx

theorem F63_L1_eq' (J : StepF (AV × AHeap × Nat) → StepF (AV × AHeap × Nat)) (call : YldF → CallF) (Y : YldF) (lf : Nat) (n0 : Nat) (x0a : Option (Nat × Nat)) (x0n : Nat) (x0c : Bool) (x1 : AV) (x7 : Int) (x8 : Int) (h : AHeap) (nx : Nat) : F63_L1' go1 J call Y lf (n0 + 1) x0a x0n x0c x1 x7 x8 h nx =
    if (decide ((x8 : Int) < x7)) = true then
    ((x0a).bind fun p1 =>
    if 0 ≤ (x8 : Int) ∧ x8 < ((x0n : Nat) : Int) then
    ((ldA h p1.1 (p1.2 + Int.toNat x8 * 1)).bind fun v2 =>
    (asSl v2).bind fun s3 =>
    (asCal x1).bind fun q5 =>
    (callC (call Y) Y q5.1 (q5.2.1 ++ [(.slice s3.1 s3.2.1 s3.2.2)] ++ q5.2.2) h (nx + 9)).bind fun r4 =>
    (asB r4.1).bind fun t6 =>
    if t6 = true then
    (some ((.int .i64 x8), r4.2.1, (r4.2.2 + 2)))
    else
    (F63_L1' J J call Y lf n0 x0a x0n x0c (x1) x7 (wrapA .i64 (x8 + 1)) r4.2.1 (r4.2.2 + 2)))
    else none)
    else
    (some ((.int .i64 (-1)), h, (nx + 2))) := by kernel_rfl

theorem F63_L1_eq (call : YldF → CallF) (Y : YldF) (lf : Nat) (n0 : Nat) (x0a : Option (Nat × Nat)) (x0n : Nat) (x0c : Bool) (x1 : AV) (x7 : Int) (x8 : Int) (h : AHeap) (nx : Nat) : F63_L1 call Y lf (n0 + 1) x0a x0n x0c x1 x7 x8 h nx =
    if (decide ((x8 : Int) < x7)) = true then
    ((x0a).bind fun p1 =>
    if 0 ≤ (x8 : Int) ∧ x8 < ((x0n : Nat) : Int) then
    ((ldA h p1.1 (p1.2 + Int.toNat x8 * 1)).bind fun v2 =>
    (asSl v2).bind fun s3 =>
    (asCal x1).bind fun q5 =>
    (callC (call Y) Y q5.1 (q5.2.1 ++ [(.slice s3.1 s3.2.1 s3.2.2)] ++ q5.2.2) h (nx + 9)).bind fun r4 =>
    (asB r4.1).bind fun t6 =>
    if t6 = true then
    (some ((.int .i64 x8), r4.2.1, (r4.2.2 + 2)))
    else
    (F63_L1 call Y lf n0 x0a x0n x0c (x1) x7 (wrapA .i64 (x8 + 1)) r4.2.1 (r4.2.2 + 2)))
    else none)
    else
    (some ((.int .i64 (-1)), h, (nx + 2))) := F63_L1_eq' go1 call Y lf n0 x0a x0n x0c x1 x7 x8 h nx

theorem F63_L1_zero (call : YldF → CallF) (Y : YldF) (lf : Nat) (x0a : Option (Nat × Nat)) (x0n : Nat) (x0c : Bool) (x1 : AV) (x7 : Int) (x8 : Int) (h : AHeap) (nx : Nat) : F63_L1 call Y lf 0 x0a x0n x0c x1 x7 x8 h nx = none := by kernel_rfl

theorem F63_eq' (J : StepF (AV × AHeap × Nat) → StepF (AV × AHeap × Nat)) (n : Nat) (Y : YldF) (x0a : Option (Nat × Nat)) (x0n : Nat) (x0c : Bool) (x1 : AV) (h : AHeap) (nx : Nat) : rootJ J Try.prog keepT (callP Try.prog keepT n) Y n 63 [(.slice x0a x0n x0c), x1] h nx =
    F63_L1' J J (callP Try.prog keepT n) Y n n x0a x0n x0c (x1) ((x0n : Nat) : Int) 0 h (nx + 4) := by kernel_rfl

/-- slices.IndexFunc[quickset/mat.matrix,[]int] -/
theorem F63_eq (n : Nat) (Y : YldF) (x0a : Option (Nat × Nat)) (x0n : Nat) (x0c : Bool) (x1 : AV) (h : AHeap) (nx : Nat) : callP Try.prog keepT (n + 1) Y 63 [(.slice x0a x0n x0c), x1] h nx =
    F63_L1 (callP Try.prog keepT n) Y n n x0a x0n x0c (x1) ((x0n : Nat) : Int) 0 h (nx + 4) := F63_eq' go1 n Y x0a x0n x0c x1 h nx

noncomputable def c64 : Code := (Try.f64.body).getD .skip

noncomputable def r64 : List ResultVar := Try.f64.results.toList

theorem F64_eq' (J : StepF (AV × AHeap × Nat) → StepF (AV × AHeap × Nat)) (n : Nat) (Y : YldF) (x0a : Option (Nat × Nat)) (x0n : Nat) (x0c : Bool) (x1 : Option (Nat × Nat)) (h : AHeap) (nx : Nat) : rootJ J Try.prog keepT (callP Try.prog keepT n) Y n 64 [(.slice x0a x0n x0c), (.ptr x1)] h nx =
    (x1).bind fun p1 =>
    (ldA h p1.1 p1.2).bind fun v2 =>
    (asI .i64 v2).bind fun n3 =>
    (x0a).bind fun p4 =>
    if 0 ≤ (n3 : Int) ∧ n3 < ((x0n : Nat) : Int) then
    ((ldA h p4.1 (p4.2 + Int.toNat n3 * 1)).bind fun v5 =>
    (asI .i64 v5).bind fun n6 =>
    some ((.bool ((n6 : Int) != 0)), h, (nx + 7)))
    else none := by kernel_rfl

/-- (quickset/mat.matrix).reduce$1 -/
theorem F64_eq (n : Nat) (Y : YldF) (x0a : Option (Nat × Nat)) (x0n : Nat) (x0c : Bool) (x1 : Option (Nat × Nat)) (h : AHeap) (nx : Nat) : callP Try.prog keepT (n + 1) Y 64 [(.slice x0a x0n x0c), (.ptr x1)] h nx =
    (x1).bind fun p1 =>
    (ldA h p1.1 p1.2).bind fun v2 =>
    (asI .i64 v2).bind fun n3 =>
    (x0a).bind fun p4 =>
    if 0 ≤ (n3 : Int) ∧ n3 < ((x0n : Nat) : Int) then
    ((ldA h p4.1 (p4.2 + Int.toNat n3 * 1)).bind fun v5 =>
    (asI .i64 v5).bind fun n6 =>
    some ((.bool ((n6 : Int) != 0)), h, (nx + 7)))
    else none := F64_eq' go1 n Y x0a x0n x0c x1 h nx

noncomputable def c65 : Code := (Try.f65.body).getD .skip

noncomputable def r65 : List ResultVar := Try.f65.results.toList

theorem F65_eq' (J : StepF (AV × AHeap × Nat) → StepF (AV × AHeap × Nat)) (n : Nat) (Y : YldF) (x0 : Int) (h : AHeap) (nx : Nat) : rootJ J Try.prog keepT (callP Try.prog keepT n) Y n 65 [(.int .i64 x0)] h nx =
    ((callP Try.prog keepT n) Y 70 [(.int .i64 1), (.int .i64 x0)] h (nx + 8)).bind fun r1 =>
    (asTup 2 r1.1).bind fun d2 =>
    (asI .i64 (d2.getD 0 .bad)).bind fun n3 =>
    (asI .i64 (d2.getD 1 .bad)).bind fun n4 =>
    some ((.tuple [(.int .i64 n3), (.int .i64 n4)]), r1.2.1, r1.2.2) := by kernel_rfl

/-- quickset/gf.Inv -/
theorem F65_eq (n : Nat) (Y : YldF) (x0 : Int) (h : AHeap) (nx : Nat) : callP Try.prog keepT (n + 1) Y 65 [(.int .i64 x0)] h nx =
    ((callP Try.prog keepT n) Y 70 [(.int .i64 1), (.int .i64 x0)] h (nx + 8)).bind fun r1 =>
    (asTup 2 r1.1).bind fun d2 =>
    (asI .i64 (d2.getD 0 .bad)).bind fun n3 =>
    (asI .i64 (d2.getD 1 .bad)).bind fun n4 =>
    some ((.tuple [(.int .i64 n3), (.int .i64 n4)]), r1.2.1, r1.2.2) := F65_eq' go1 n Y x0 h nx

noncomputable def c66 : Code := (Try.f66.body).getD .skip

noncomputable def r66 : List ResultVar := Try.f66.results.toList

theorem F66_eq' (J : StepF (AV × AHeap × Nat) → StepF (AV × AHeap × Nat)) (n : Nat) (Y : YldF) (x0 : Int) (x1 : Int) (h : AHeap) (nx : Nat) : rootJ J Try.prog keepT (callP Try.prog keepT n) Y n 66 [(.int .i64 x0), (.int .i64 x1)] h nx =
    ((callP Try.prog keepT n) Y 54 [(.int .i64 x0), (.int .i64 x1)] h (nx + 9)).bind fun r1 =>
    (asTup 2 r1.1).bind fun d2 =>
    (asI .i64 (d2.getD 0 .bad)).bind fun n3 =>
    (asI .i64 (d2.getD 1 .bad)).bind fun n4 =>
    some ((.int .i64 n3), r1.2.1, (r1.2.2 + 2)) := by kernel_rfl

/-- quickset/mat.times -/
theorem F66_eq (n : Nat) (Y : YldF) (x0 : Int) (x1 : Int) (h : AHeap) (nx : Nat) : callP Try.prog keepT (n + 1) Y 66 [(.int .i64 x0), (.int .i64 x1)] h nx =
    ((callP Try.prog keepT n) Y 54 [(.int .i64 x0), (.int .i64 x1)] h (nx + 9)).bind fun r1 =>
    (asTup 2 r1.1).bind fun d2 =>
    (asI .i64 (d2.getD 0 .bad)).bind fun n3 =>
    (asI .i64 (d2.getD 1 .bad)).bind fun n4 =>
    some ((.int .i64 n3), r1.2.1, (r1.2.2 + 2)) := F66_eq' go1 n Y x0 x1 h nx

noncomputable def c67 : Code := (Try.f67.body).getD .skip

noncomputable def r67 : List ResultVar := Try.f67.results.toList

theorem F67_eq' (J : StepF (AV × AHeap × Nat) → StepF (AV × AHeap × Nat)) (n : Nat) (Y : YldF) (x0a : Option (Nat × Nat)) (x0n : Nat) (x0c : Bool) (x1 : AV) (h : AHeap) (nx : Nat) : rootJ J Try.prog keepT (callP Try.prog keepT n) Y n 67 [(.slice x0a x0n x0c), x1] h nx =
    ((callP Try.prog keepT n) Y 71 [(.slice x0a x0n x0c), x1] h (nx + 6)).bind fun r1 =>
    (asI .i64 r1.1).bind fun n2 =>
    some ((.bool (decide ((n2 : Int) ≥ 0))), r1.2.1, r1.2.2) := by kernel_rfl

/-- slices.ContainsFunc[[]int,int] -/
theorem F67_eq (n : Nat) (Y : YldF) (x0a : Option (Nat × Nat)) (x0n : Nat) (x0c : Bool) (x1 : AV) (h : AHeap) (nx : Nat) : callP Try.prog keepT (n + 1) Y 67 [(.slice x0a x0n x0c), x1] h nx =
    ((callP Try.prog keepT n) Y 71 [(.slice x0a x0n x0c), x1] h (nx + 6)).bind fun r1 =>
    (asI .i64 r1.1).bind fun n2 =>
    some ((.bool (decide ((n2 : Int) ≥ 0))), r1.2.1, r1.2.2) := F67_eq' go1 n Y x0a x0n x0c x1 h nx

noncomputable def c68 : Code := (Try.f68.body).getD .skip

noncomputable def r68 : List ResultVar := Try.f68.results.toList

theorem F68_eq' (J : StepF (AV × AHeap × Nat) → StepF (AV × AHeap × Nat)) (n : Nat) (Y : YldF) (x0 : Int) (h : AHeap) (nx : Nat) : rootJ J Try.prog keepT (callP Try.prog keepT n) Y n 68 [(.int .i64 x0)] h nx =
    ((callP Try.prog keepT n) Y 69 [(.int .i64 x0)] h (nx + 5)).bind fun r1 =>
    (asB r1.1).bind fun t2 =>
    some ((.bool (!t2)), r1.2.1, r1.2.2) := by kernel_rfl

/-- quickset/mat.all$1 -/
theorem F68_eq (n : Nat) (Y : YldF) (x0 : Int) (h : AHeap) (nx : Nat) : callP Try.prog keepT (n + 1) Y 68 [(.int .i64 x0)] h nx =
    ((callP Try.prog keepT n) Y 69 [(.int .i64 x0)] h (nx + 5)).bind fun r1 =>
    (asB r1.1).bind fun t2 =>
    some ((.bool (!t2)), r1.2.1, r1.2.2) := F68_eq' go1 n Y x0 h nx

noncomputable def c70 : Code := (Try.f70.body).getD .skip

noncomputable def r70 : List ResultVar := Try.f70.results.toList

theorem F70_eq' (J : StepF (AV × AHeap × Nat) → StepF (AV × AHeap × Nat)) (n : Nat) (Y : YldF) (x0 : Int) (x1 : Int) (h : AHeap) (nx : Nat) : rootJ J Try.prog keepT (callP Try.prog keepT n) Y n 70 [(.int .i64 x0), (.int .i64 x1)] h nx =
    let h1 := AHeap.put h (nx + 4) (some ⟨[(.int .i64 x0), (.int .i64 x1)], 1, true⟩)
    ((callP Try.prog keepT n) Y 59 [(.slice (some ((nx + 4), 0)) 2 true)] h1 (nx + 7)).bind fun r2 =>
    (asB r2.1).bind fun t3 =>
    if t3 = true then
    (some ((.tuple [(.int .i64 0), (.int .i64 2)]), r2.2.1, (r2.2.2 + 2)))
    else
    (if ((x1 : Int) == 0) = true then
    (some ((.tuple [(.int .i64 0), (.int .i64 10)]), r2.2.1, (r2.2.2 + 5)))
    else
    (((callP Try.prog keepT n) Y 61 [(.int .i64 x1), (.int .i64 254)] r2.2.1 (r2.2.2 + 9)).bind fun r4 =>
    (asI .i64 r4.1).bind fun n5 =>
    ((callP Try.prog keepT n) Y 60 [(.int .i64 x0), (.int .i64 n5)] r4.2.1 r4.2.2).bind fun r6 =>
    (asI .i64 r6.1).bind fun n7 =>
    some ((.tuple [(.int .i64 n7), (.int .i64 0)]), r6.2.1, r6.2.2))) := by kernel_rfl

/-- quickset/gf.Div -/
theorem F70_eq (n : Nat) (Y : YldF) (x0 : Int) (x1 : Int) (h : AHeap) (nx : Nat) : callP Try.prog keepT (n + 1) Y 70 [(.int .i64 x0), (.int .i64 x1)] h nx =
    let h1 := AHeap.put h (nx + 4) (some ⟨[(.int .i64 x0), (.int .i64 x1)], 1, true⟩)
    ((callP Try.prog keepT n) Y 59 [(.slice (some ((nx + 4), 0)) 2 true)] h1 (nx + 7)).bind fun r2 =>
    (asB r2.1).bind fun t3 =>
    if t3 = true then
    (some ((.tuple [(.int .i64 0), (.int .i64 2)]), r2.2.1, (r2.2.2 + 2)))
    else
    (if ((x1 : Int) == 0) = true then
    (some ((.tuple [(.int .i64 0), (.int .i64 10)]), r2.2.1, (r2.2.2 + 5)))
    else
    (((callP Try.prog keepT n) Y 61 [(.int .i64 x1), (.int .i64 254)] r2.2.1 (r2.2.2 + 9)).bind fun r4 =>
    (asI .i64 r4.1).bind fun n5 =>
    ((callP Try.prog keepT n) Y 60 [(.int .i64 x0), (.int .i64 n5)] r4.2.1 r4.2.2).bind fun r6 =>
    (asI .i64 r6.1).bind fun n7 =>
    some ((.tuple [(.int .i64 n7), (.int .i64 0)]), r6.2.1, r6.2.2))) := F70_eq' go1 n Y x0 x1 h nx

noncomputable def c71 : Code := (Try.f71.body).getD .skip

noncomputable def r71 : List ResultVar := Try.f71.results.toList

noncomputable def F71_L1' (W J : StepF (AV × AHeap × Nat) → StepF (AV × AHeap × Nat)) (call : YldF → CallF) (Y : YldF) (lf : Nat) (n0 : Nat) (x0a : Option (Nat × Nat)) (x0n : Nat) (x0c : Bool) (x1 : AV) (x7 : Int) (x8 : Int) (h : AHeap) (nx : Nat) : Option (AV × AHeap × Nat) :=
  goK W J drawK (machOf Try.prog) call Y (keepT 71) lf c71 [1, 0, 1, 0, 9] [n0] (retK (machOf Try.prog) ⟨c71, 19, r71, keepT 71⟩) ⟨19, mkL [(0, (.slice x0a x0n x0c)), (1, x1), (7, (.int .i64 x7)), (8, (.int .i64 x8))]⟩ h nx

noncomputable def F71_L1 (call : YldF → CallF) (Y : YldF) (lf : Nat) (n0 : Nat) (x0a : Option (Nat × Nat)) (x0n : Nat) (x0c : Bool) (x1 : AV) (x7 : Int) (x8 : Int) (h : AHeap) (nx : Nat) : Option (AV × AHeap × Nat) := F71_L1' go1 go1 call Y lf n0 x0a x0n x0c x1 x7 x8 h nx

theorem F71_L1_eq' (J : StepF (AV × AHeap × Nat) → StepF (AV × AHeap × Nat)) (call : YldF → CallF) (Y : YldF) (lf : Nat) (n0 : Nat) (x0a : Option (Nat × Nat)) (x0n : Nat) (x0c : Bool) (x1 : AV) (x7 : Int) (x8 : Int) (h : AHeap) (nx : Nat) : F71_L1' go1 J call Y lf (n0 + 1) x0a x0n x0c x1 x7 x8 h nx =
    if (decide ((x8 : Int) < x7)) = true then
    ((x0a).bind fun p1 =>
    if 0 ≤ (x8 : Int) ∧ x8 < ((x0n : Nat) : Int) then
    ((ldA h p1.1 (p1.2 + Int.toNat x8 * 1)).bind fun v2 =>
    (asI .i64 v2).bind fun n3 =>
    (asCal x1).bind fun q5 =>
    (callC (call Y) Y q5.1 (q5.2.1 ++ [(.int .i64 n3)] ++ q5.2.2) h (nx + 9)).bind fun r4 =>
    (asB r4.1).bind fun t6 =>
    if t6 = true then
    (some ((.int .i64 x8), r4.2.1, (r4.2.2 + 2)))
    else
    (F71_L1' J J call Y lf n0 x0a x0n x0c (x1) x7 (wrapA .i64 (x8 + 1)) r4.2.1 (r4.2.2 + 2)))
    else none)
    else
    (some ((.int .i64 (-1)), h, (nx + 2))) := by kernel_rfl

theorem F71_L1_eq (call : YldF → CallF) (Y : YldF) (lf : Nat) (n0 : Nat) (x0a : Option (Nat × Nat)) (x0n : Nat) (x0c : Bool) (x1 : AV) (x7 : Int) (x8 : Int) (h : AHeap) (nx : Nat) : F71_L1 call Y lf (n0 + 1) x0a x0n x0c x1 x7 x8 h nx =
    if (decide ((x8 : Int) < x7)) = true then
    ((x0a).bind fun p1 =>
    if 0 ≤ (x8 : Int) ∧ x8 < ((x0n : Nat) : Int) then
    ((ldA h p1.1 (p1.2 + Int.toNat x8 * 1)).bind fun v2 =>
    (asI .i64 v2).bind fun n3 =>
    (asCal x1).bind fun q5 =>
    (callC (call Y) Y q5.1 (q5.2.1 ++ [(.int .i64 n3)] ++ q5.2.2) h (nx + 9)).bind fun r4 =>
    (asB r4.1).bind fun t6 =>
    if t6 = true then
    (some ((.int .i64 x8), r4.2.1, (r4.2.2 + 2)))
    else
    (F71_L1 call Y lf n0 x0a x0n x0c (x1) x7 (wrapA .i64 (x8 + 1)) r4.2.1 (r4.2.2 + 2)))
    else none)
    else
    (some ((.int .i64 (-1)), h, (nx + 2))) := F71_L1_eq' go1 call Y lf n0 x0a x0n x0c x1 x7 x8 h nx

theorem F71_L1_zero (call : YldF → CallF) (Y : YldF) (lf : Nat) (x0a : Option (Nat × Nat)) (x0n : Nat) (x0c : Bool) (x1 : AV) (x7 : Int) (x8 : Int) (h : AHeap) (nx : Nat) : F71_L1 call Y lf 0 x0a x0n x0c x1 x7 x8 h nx = none := by kernel_rfl

theorem F71_eq' (J : StepF (AV × AHeap × Nat) → StepF (AV × AHeap × Nat)) (n : Nat) (Y : YldF) (x0a : Option (Nat × Nat)) (x0n : Nat) (x0c : Bool) (x1 : AV) (h : AHeap) (nx : Nat) : rootJ J Try.prog keepT (callP Try.prog keepT n) Y n 71 [(.slice x0a x0n x0c), x1] h nx =
    F71_L1' J J (callP Try.prog keepT n) Y n n x0a x0n x0c (x1) ((x0n : Nat) : Int) 0 h (nx + 4) := by kernel_rfl

/-- slices.IndexFunc[[]int,int] -/
theorem F71_eq (n : Nat) (Y : YldF) (x0a : Option (Nat × Nat)) (x0n : Nat) (x0c : Bool) (x1 : AV) (h : AHeap) (nx : Nat) : callP Try.prog keepT (n + 1) Y 71 [(.slice x0a x0n x0c), x1] h nx =
    F71_L1 (callP Try.prog keepT n) Y n n x0a x0n x0c (x1) ((x0n : Nat) : Int) 0 h (nx + 4) := F71_eq' go1 n Y x0a x0n x0c x1 h nx

noncomputable def c69 : Code := (Try.f69.body).getD .skip

noncomputable def r69 : List ResultVar := Try.f69.results.toList

theorem F69_eq' (J : StepF (AV × AHeap × Nat) → StepF (AV × AHeap × Nat)) (n : Nat) (Y : YldF) (x0 : Int) (h : AHeap) (nx : Nat) : rootJ J Try.prog keepT (callP Try.prog keepT n) Y n 69 [(.int .i64 x0)] h nx =
    if (decide ((x0 : Int) ≥ 0)) = true then
    (some ((.bool (decide ((x0 : Int) < 256))), h, (nx + 8)))
    else
    (some ((.bool false), h, (nx + 8))) := by kernel_rfl

/-- quickset/mat.element -/
theorem F69_eq (n : Nat) (Y : YldF) (x0 : Int) (h : AHeap) (nx : Nat) : callP Try.prog keepT (n + 1) Y 69 [(.int .i64 x0)] h nx =
    if (decide ((x0 : Int) ≥ 0)) = true then
    (some ((.bool (decide ((x0 : Int) < 256))), h, (nx + 8)))
    else
    (some ((.bool false), h, (nx + 8))) := F69_eq' go1 n Y x0 h nx

end Go.Proofs.Ytalfcokiooaliaa.T
