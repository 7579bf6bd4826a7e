/- sort.Slice's contract, laid at this program. -/
import Derived.Test.YtophneodoibcgaaTP
import Derived.Test.YtophneodoibcgaaPx
import Derived.Shelf.Lay
import Derived.Deep.QuietTactic
set_option linter.unusedVariables false
set_option linter.unusedSimpArgs false
namespace Go.Proofs
open Go.Shelf Go.RowKit
shelf_lay LaysGg.n6 Ggs 6 at Try as Try.sv6
noncomputable def Try.svT : TypeInfo := (Try.prog.info? 46).get (by kernel_rfl)
noncomputable def Try.svE : TypeInfo := (Try.prog.info? 52).get (by kernel_rfl)
theorem Try.svK (n : Nat) (h2 : 2 ≤ n) : Lib.swapperK n Try.svE 25 = 9 := by
  have a : Try.svE.hasPointers = false := by kernel_rfl
  have b : Try.svE.bytes = 16 := by kernel_rfl
  have c : (n == 0) = false := by simp; omega
  have d : (n == 1) = false := by simp; omega
  simp [Lib.swapperK, a, b, c, d]
theorem Try.svK0 : Lib.swapperK 0 Try.svE 25 = 1 := by simp [Lib.swapperK]

set_option maxHeartbeats 2000000 in
/-- The closure over the slice. -/
theorem Try.less (blk off c Bs bo size : Nat) (W : World) (G : Nat → Int) (hs : W.cell? ⟨Bs, bo, none⟩ = some (.slice (some ⟨blk, off, none⟩) size c))
    (hc : ∀ t, t < size → W.cell? ⟨blk, off + t * 2, none⟩ = some (.int .i64 (G t))) (i j : Nat) (hi : i < size) (hj : j < size) (_hsz : size < 4611686018427387904) :
    Calls Try.prog 28 #[.int .i64 i, .int .i64 j, .pointer (some ⟨Bs, bo, none⟩)] W fun e w' => e = .returned (.bool (decide (G i < G j))) ∧ ∃ q, w' = W.drewN q := by
  have ci := hc i hi
  have cj := hc j hj
  go_enter Try.func28, Try.ntmps28
  go_wp2
  go_quiet (fail)
  go_wp2
  go_ret
  exact ⟨rfl, nq, rfl⟩
end Go.Proofs
namespace Go.Proofs.Ytophneodoibcgaa.T
open Go Go.RowKit Go.Proofs
theorem orc_slice_here : OrcOk Try.prog [2, 46, 28] 27 :=
  orc_slice Try.sv6 46 52 Try.svT Try.svE (by kernel_rfl) (by kernel_rfl) (by kernel_rfl) (by kernel_rfl) 25 (fun _ => by kernel_rfl) (by kernel_rfl) (fun _ => by kernel_rfl) 28
    (enters_of Try.func28 (by kernel_rfl) rfl) Try.less 34 42 (by rw [Try.svK0]; kernel_rfl) (fun n h => by rw [Try.svK n h]; kernel_rfl) false
    (fun args W => run_callFunc_extern Try.func42 (by kernel_rfl) (by kernel_rfl) (by kernel_rfl) (e := Extern.ReflectliteSwapper.swap false) (by kernel_rfl) args W)
theorem orcs : OrcsOk Try.prog keepT := orcs_one (l := keepL) (f := 27) (q := (true, [2, 46, 28])) (by kernel_rfl) orc_slice_here
end Go.Proofs.Ytophneodoibcgaa.T
