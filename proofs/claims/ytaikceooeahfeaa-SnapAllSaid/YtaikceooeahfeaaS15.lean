/- Snaps: SnapBirths. -/
import Derived.Test.YtaikceooeahfeaaS14
set_option linter.unusedVariables false
set_option linter.unusedSimpArgs false
namespace Go.Proofs.Ytaikceooeahfeaa.T
open Go Go.RowKit Go.Proofs

theorem rows_moves : ∀ (l : List (Int × Int)) (rows : List (List AV)), All2 (fun m r => r = mrow m) l rows → rows = l.map mrow
  | [], rows, q => by simpa [All2] using q
  | x :: l, rows, q => by obtain ⟨y, r, rfl, rfl, q⟩ := q; rw [rows_moves l r q]; rfl
theorem turns_of {h : AHeap} {nx : Nat} : ∀ (c : List (List AV)), (∀ v ∈ c, Ty h nx (.st [.int .i64, .int .i64]) v) → ∃ ts : List (Int × Int), c = ts.map mrow
  | [], _ => ⟨[], rfl⟩
  | v :: c, each => by
    obtain ⟨ts, rfl⟩ := turns_of c (fun v hv => each v (List.mem_cons_of_mem _ hv))
    have := each v List.mem_cons_self
    simp only [Ty, TyL] at this
    obtain ⟨parts, rfl, p, r, rfl, ⟨x, rfl, _⟩, q, r2, rfl, ⟨y, rfl, _⟩, rfl⟩ := this
    exact ⟨(x, y) :: ts, rfl⟩

end Go.Proofs.Ytaikceooeahfeaa.T
