/- Desk: ToldBack, as the row wants it. -/
import Derived.Test.YtahilinkfnchaaaDoorDH
set_option linter.unusedVariables false
set_option linter.unusedSimpArgs false
namespace Go.Proofs.YtahilinkfnchaaaDoor.T
open Go Go.RowKit Go.Proofs

theorem byte_list : ∀ {l : List Int}, (∀ n ∈ l, (Lit.int .u8 n).wf = true) → ∃ bs : List UInt8, l = ob bs
  | [], _ => ⟨[], rfl⟩
  | n :: l, h => by
    obtain ⟨bs, rfl⟩ := byte_list fun x hx => h x (List.mem_cons_of_mem _ hx)
    have h1 := h n List.mem_cons_self
    have h2 : 0 ≤ n ∧ n < 256 := by
      simp [Lit.wf, IntKind.min, IntKind.max, IntKind.signed, IntKind.bits] at h1
      omega
    exact ⟨UInt8.ofNat n.toNat :: bs, by simp [ob]; omega⟩
theorem ToldBack_run (h : AHeap) (nx : Nat) (x0 : Int) (w0 : (Lit.int .i64 x0).wf = true) (x1 : Int) (w1 : (Lit.int .i64 x1).wf = true) (l : List Int) (y : l.length ≤ 1048576) (wl : ∀ n ∈ l, (Lit.int .u8 n).wf = true) (a : Option (Nat × Nat)) (s : Sl h nx a l.length 1 (ints .u8 l)) (b : Bool) (xs : List Int) (y2 : xs.length ≤ 1048576) (w2 : ∀ n ∈ xs, (Lit.int .i64 n).wf = true) (a2 : Option (Nat × Nat)) (s2 : Sl h nx a2 xs.length 1 (ints .i64 xs)) :
    ∃ f h' nx', callP Tryd.prog keepT f Y0 3 [.int .i64 x0, .int .i64 x1, .slice a l.length none, .bool b, .slice a2 xs.length none] h nx = some (.bool true, h', nx') := by
  obtain ⟨bs, rfl⟩ := byte_list wl
  obtain ⟨h', nx', e⟩ := told_run (n := 7000000) (Nat.le_refl _) Y0 (x0 := x0) (x1 := x1) (dn := b) none none s s2 (by rw [ob_len] at y; omega)
  exact ⟨7000000, h', nx', e⟩
end Go.Proofs.YtahilinkfnchaaaDoor.T
