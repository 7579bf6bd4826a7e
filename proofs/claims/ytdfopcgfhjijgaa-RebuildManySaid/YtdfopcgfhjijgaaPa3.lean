/- Printed by mp.py: functions of the program as plain Lean, each by the kernel. -/
import Derived.Test.YtdfopcgfhjijgaaPa1
set_option linter.unusedVariables false
set_option linter.unusedSimpArgs false
namespace Go.Proofs.Ytdfopcgfhjijgaa.T
open Go Go.RowKit Go.Proofs
set_option maxRecDepth 100000

noncomputable def c71 : Code := (Try.f71.body).getD .skip

noncomputable def r71 : List ResultVar := Try.f71.results.toList

noncomputable def F71_L1' (W J : StepF (AV × AHeap × Nat) → StepF (AV × AHeap × Nat)) (call : YldF → CallF) (Y : YldF) (lf : Nat) (n0 : Nat) (x0 : Int) (x2 : Option (Nat × Nat)) (x6 : Int) (h : AHeap) (nx : Nat) : Option (AV × AHeap × Nat) :=
  goK W J drawK (machOf Try.prog) call Y (keepT 71) lf c71 [1, 0, 1, 0, 9] [n0] (retK (machOf Try.prog) ⟨c71, 21, r71, keepT 71⟩) ⟨21, mkL [(0, (.int .i64 x0)), (2, (.ptr x2)), (6, (.int .i64 x6))]⟩ h nx

noncomputable def F71_L1 (call : YldF → CallF) (Y : YldF) (lf : Nat) (n0 : Nat) (x0 : Int) (x2 : Option (Nat × Nat)) (x6 : Int) (h : AHeap) (nx : Nat) : Option (AV × AHeap × Nat) := F71_L1' go1 go1 call Y lf n0 x0 x2 x6 h nx

theorem F71_L1_eq' (J : StepF (AV × AHeap × Nat) → StepF (AV × AHeap × Nat)) (call : YldF → CallF) (Y : YldF) (lf : Nat) (n0 : Nat) (x0 : Int) (x2 : Option (Nat × Nat)) (x6 : Int) (h : AHeap) (nx : Nat) : F71_L1' go1 J call Y lf (n0 + 1) x0 x2 x6 h nx =
    if (decide ((x6 : Int) < 256)) = true then
    ((call Y 38 [(.int .i64 x0), (.int .i64 x6)] h (nx + 11)).bind fun r1 =>
    (asTup 2 r1.1).bind fun d2 =>
    (asI .i64 (d2.getD 0 .bad)).bind fun n3 =>
    (asI .i64 (d2.getD 1 .bad)).bind fun n4 =>
    (x2).bind fun p5 =>
    if 0 ≤ (x6 : Int) ∧ x6 < ((256 : Nat) : Int) then
    ((stA r1.2.1 p5.1 (p5.2 + Int.toNat x6 * 1) (.int .u8 (wrapA .u8 n3)) 1).bind fun b6 =>
    let h7 := AHeap.put r1.2.1 p5.1 (some b6)
    F71_L1' J J call Y lf n0 x0 x2 (wrapA .i64 (x6 + 1)) h7 (r1.2.2 + 7))
    else none)
    else
    ((x2).bind fun p8 =>
    (ldR h p8.1 p8.2 256).bind fun l9 =>
    (x2).bind fun p10 =>
    (stA h p10.1 p10.2 (.agg l9) 256).bind fun b11 =>
    let h12 := AHeap.put h p10.1 (some b11)
    (x2).bind fun p13 =>
    (ldR h12 p13.1 p13.2 256).bind fun l14 =>
    some ((.agg l14), h12, (nx + 3))) := by kernel_rfl

theorem F71_L1_eq (call : YldF → CallF) (Y : YldF) (lf : Nat) (n0 : Nat) (x0 : Int) (x2 : Option (Nat × Nat)) (x6 : Int) (h : AHeap) (nx : Nat) : F71_L1 call Y lf (n0 + 1) x0 x2 x6 h nx =
    if (decide ((x6 : Int) < 256)) = true then
    ((call Y 38 [(.int .i64 x0), (.int .i64 x6)] h (nx + 11)).bind fun r1 =>
    (asTup 2 r1.1).bind fun d2 =>
    (asI .i64 (d2.getD 0 .bad)).bind fun n3 =>
    (asI .i64 (d2.getD 1 .bad)).bind fun n4 =>
    (x2).bind fun p5 =>
    if 0 ≤ (x6 : Int) ∧ x6 < ((256 : Nat) : Int) then
    ((stA r1.2.1 p5.1 (p5.2 + Int.toNat x6 * 1) (.int .u8 (wrapA .u8 n3)) 1).bind fun b6 =>
    let h7 := AHeap.put r1.2.1 p5.1 (some b6)
    F71_L1 call Y lf n0 x0 x2 (wrapA .i64 (x6 + 1)) h7 (r1.2.2 + 7))
    else none)
    else
    ((x2).bind fun p8 =>
    (ldR h p8.1 p8.2 256).bind fun l9 =>
    (x2).bind fun p10 =>
    (stA h p10.1 p10.2 (.agg l9) 256).bind fun b11 =>
    let h12 := AHeap.put h p10.1 (some b11)
    (x2).bind fun p13 =>
    (ldR h12 p13.1 p13.2 256).bind fun l14 =>
    some ((.agg l14), h12, (nx + 3))) := F71_L1_eq' go1 call Y lf n0 x0 x2 x6 h nx

theorem F71_L1_zero (call : YldF → CallF) (Y : YldF) (lf : Nat) (x0 : Int) (x2 : Option (Nat × Nat)) (x6 : Int) (h : AHeap) (nx : Nat) : F71_L1 call Y lf 0 x0 x2 x6 h nx = none := by kernel_rfl

theorem F71_eq' (J : StepF (AV × AHeap × Nat) → StepF (AV × AHeap × Nat)) (n : Nat) (Y : YldF) (x0 : Int) (h : AHeap) (nx : Nat) : rootJ J Try.prog keepT (callP Try.prog keepT n) Y n 71 [(.int .i64 x0)] h nx =
    let h1 := AHeap.put h nx (some ⟨(List.replicate 256 (.int .u8 0)), 1, true⟩)
    F71_L1' J J (callP Try.prog keepT n) Y n n x0 (some (nx, 0)) 0 h1 (nx + 2) := by kernel_rfl

/-- quickset/par.table -/
theorem F71_eq (n : Nat) (Y : YldF) (x0 : Int) (h : AHeap) (nx : Nat) : callP Try.prog keepT (n + 1) Y 71 [(.int .i64 x0)] h nx =
    let h1 := AHeap.put h nx (some ⟨(List.replicate 256 (.int .u8 0)), 1, true⟩)
    F71_L1 (callP Try.prog keepT n) Y n n x0 (some (nx, 0)) 0 h1 (nx + 2) := F71_eq' go1 n Y x0 h nx

noncomputable def c72 : Code := (Try.f72.body).getD .skip

noncomputable def r72 : List ResultVar := Try.f72.results.toList

noncomputable def F72_L1' (W J : StepF (AV × AHeap × Nat) → StepF (AV × AHeap × Nat)) (call : YldF → CallF) (Y : YldF) (lf : Nat) (n0 : Nat) (x0a : Option (Nat × Nat)) (x0n : Nat) (x0c : Bool) (x1 : AV) (x7 : Int) (x8 : Int) (h : AHeap) (nx : Nat) : Option (AV × AHeap × Nat) :=
  goK W J drawK (machOf Try.prog) call Y (keepT 72) lf c72 [1, 0, 1, 0, 9] [n0] (retK (machOf Try.prog) ⟨c72, 19, r72, keepT 72⟩) ⟨19, mkL [(0, (.slice x0a x0n x0c)), (1, x1), (7, (.int .i64 x7)), (8, (.int .i64 x8))]⟩ h nx

noncomputable def F72_L1 (call : YldF → CallF) (Y : YldF) (lf : Nat) (n0 : Nat) (x0a : Option (Nat × Nat)) (x0n : Nat) (x0c : Bool) (x1 : AV) (x7 : Int) (x8 : Int) (h : AHeap) (nx : Nat) : Option (AV × AHeap × Nat) := F72_L1' go1 go1 call Y lf n0 x0a x0n x0c x1 x7 x8 h nx

theorem F72_L1_eq' (J : StepF (AV × AHeap × Nat) → StepF (AV × AHeap × Nat)) (call : YldF → CallF) (Y : YldF) (lf : Nat) (n0 : Nat) (x0a : Option (Nat × Nat)) (x0n : Nat) (x0c : Bool) (x1 : AV) (x7 : Int) (x8 : Int) (h : AHeap) (nx : Nat) : F72_L1' go1 J call Y lf (n0 + 1) x0a x0n x0c x1 x7 x8 h nx =
    if (decide ((x8 : Int) < x7)) = true then
    ((x0a).bind fun p1 =>
    if 0 ≤ (x8 : Int) ∧ x8 < ((x0n : Nat) : Int) then
    ((ldA h p1.1 (p1.2 + Int.toNat x8 * 1)).bind fun v2 =>
    (asSl v2).bind fun s3 =>
    (asCal x1).bind fun q5 =>
    (callC (call Y) Y q5.1 (q5.2.1 ++ [(.slice s3.1 s3.2.1 s3.2.2)] ++ q5.2.2) h (nx + 9)).bind fun r4 =>
    (asB r4.1).bind fun t6 =>
    if t6 = true then
    (some ((.int .i64 x8), r4.2.1, (r4.2.2 + 2)))
    else
    (F72_L1' J J call Y lf n0 x0a x0n x0c (x1) x7 (wrapA .i64 (x8 + 1)) r4.2.1 (r4.2.2 + 2)))
    else none)
    else
    (some ((.int .i64 (-1)), h, (nx + 2))) := by kernel_rfl

theorem F72_L1_eq (call : YldF → CallF) (Y : YldF) (lf : Nat) (n0 : Nat) (x0a : Option (Nat × Nat)) (x0n : Nat) (x0c : Bool) (x1 : AV) (x7 : Int) (x8 : Int) (h : AHeap) (nx : Nat) : F72_L1 call Y lf (n0 + 1) x0a x0n x0c x1 x7 x8 h nx =
    if (decide ((x8 : Int) < x7)) = true then
    ((x0a).bind fun p1 =>
    if 0 ≤ (x8 : Int) ∧ x8 < ((x0n : Nat) : Int) then
    ((ldA h p1.1 (p1.2 + Int.toNat x8 * 1)).bind fun v2 =>
    (asSl v2).bind fun s3 =>
    (asCal x1).bind fun q5 =>
    (callC (call Y) Y q5.1 (q5.2.1 ++ [(.slice s3.1 s3.2.1 s3.2.2)] ++ q5.2.2) h (nx + 9)).bind fun r4 =>
    (asB r4.1).bind fun t6 =>
    if t6 = true then
    (some ((.int .i64 x8), r4.2.1, (r4.2.2 + 2)))
    else
    (F72_L1 call Y lf n0 x0a x0n x0c (x1) x7 (wrapA .i64 (x8 + 1)) r4.2.1 (r4.2.2 + 2)))
    else none)
    else
    (some ((.int .i64 (-1)), h, (nx + 2))) := F72_L1_eq' go1 call Y lf n0 x0a x0n x0c x1 x7 x8 h nx

theorem F72_L1_zero (call : YldF → CallF) (Y : YldF) (lf : Nat) (x0a : Option (Nat × Nat)) (x0n : Nat) (x0c : Bool) (x1 : AV) (x7 : Int) (x8 : Int) (h : AHeap) (nx : Nat) : F72_L1 call Y lf 0 x0a x0n x0c x1 x7 x8 h nx = none := by kernel_rfl

theorem F72_eq' (J : StepF (AV × AHeap × Nat) → StepF (AV × AHeap × Nat)) (n : Nat) (Y : YldF) (x0a : Option (Nat × Nat)) (x0n : Nat) (x0c : Bool) (x1 : AV) (h : AHeap) (nx : Nat) : rootJ J Try.prog keepT (callP Try.prog keepT n) Y n 72 [(.slice x0a x0n x0c), x1] h nx =
    F72_L1' J J (callP Try.prog keepT n) Y n n x0a x0n x0c (x1) ((x0n : Nat) : Int) 0 h (nx + 4) := by kernel_rfl

/-- slices.IndexFunc[[][]byte,[]byte] -/
theorem F72_eq (n : Nat) (Y : YldF) (x0a : Option (Nat × Nat)) (x0n : Nat) (x0c : Bool) (x1 : AV) (h : AHeap) (nx : Nat) : callP Try.prog keepT (n + 1) Y 72 [(.slice x0a x0n x0c), x1] h nx =
    F72_L1 (callP Try.prog keepT n) Y n n x0a x0n x0c (x1) ((x0n : Nat) : Int) 0 h (nx + 4) := F72_eq' go1 n Y x0a x0n x0c x1 h nx

end Go.Proofs.Ytdfopcgfhjijgaa.T
