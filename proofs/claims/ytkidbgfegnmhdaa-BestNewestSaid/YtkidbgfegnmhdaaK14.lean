/- Labels: BestNewest. -/
import Derived.Test.YtkidbgfegnmhdaaK13
set_option linter.unusedVariables false
set_option linter.unusedSimpArgs false
namespace Go.Proofs.Ytkidbgfegnmhdaa.T
open Go Go.RowKit Go.Proofs

theorem xor_ne {b : Int} (h0 : 0 ≤ b) (h1 : b < 256) : bits .xor .u8 b 1 ≠ b := by
  obtain ⟨n, rfl⟩ : ∃ n : Nat, b = n := ⟨b.toNat, by omega⟩
  have : ∀ n : Nat, n < 256 → bits .xor .u8 (n : Int) 1 ≠ (n : Int) := by decide +kernel
  exact this n (by omega)

/-- A sector with a bit turned. -/
theorem torn_dec (x : Lb) {p : Nat} (hp : p < 96) {b : Int} (hb : (encL x)[p]? = some b) : decR ((encL x).set p (bits .xor .u8 b 1)) = (lb0, 11) := by
  have hl := encL_len x
  have hB := encL_bytes x
  obtain ⟨hlt, rfl⟩ := List.getElem?_eq_some_iff.1 hb
  have hin := hB _ (List.getElem_mem hlt)
  have hx := xor8 (encL x)[p] 1
  have hne := xor_ne hin.1 hin.2
  refine touched (x := x) (w := p / 4) (by rw [List.length_set]; exact hl) (fun y hy => ?_) (by omega) (fun j hj => ?_) (fun e => ?_)
  · rcases List.mem_or_eq_of_mem_set hy with hy | rfl
    · exact hB y hy
    · exact hx
  · rw [List.getElem?_set_ne (by omega)]
  · have := congrArg (fun l => l[p]?) e
    simp only [List.getElem?_set_self hlt, List.getElem?_eq_getElem hlt, Option.some.injEq] at this
    exact hne this

theorem j3_end {f lf : Nat} (hf : 1200 ≤ f) {a : Option (Nat × Nat)} (c : Option Nat) {bss : List (List Int)} (hN : bss.length ≤ 1000) {h : AHeap} {nx : Nat} (w : OwnRows (Cel h nx (ownOf a)) h nx a 1 bss) :
    ∃ h' nx', F6_J3 (callP Try.prog keepT f) Y0 lf a bss.length c (newest bss).1.time (newest bss).2 h nx = some (.bool true, h', nx') := by
  rw [F6_J3_eq]
  have w0 : Rows (Cel h (nx + 10) fun _ => False) h (nx + 10) (fun _ => False) a 1 bss :=
    Rows.go (A := fun _ => False) (D := fun _ => False) (w.rows (fun _ _ q => q)) (Frm.le (Frm.refl _ h nx) (by omega)) (fun _ _ q => q) (fun _ _ q => q) (fun b r q => q.go (D := fun _ => False) (Frm.le (Frm.refl _ h nx) (by omega)) (fun _ _ q => q.elim) (fun _ _ q => q.elim))
  obtain ⟨h1, n1, e⟩ := best_spec (f := f) hf c hN w0
  rw [e]
  show ∃ h' nx', _ = _
  have hn : bestR bss 0 (lbm, -1) = newest bss := rfl
  rw [hn]
  clear hn e
  generalize newest bss = s
  simp only [mst_]
  rw [ag13]
  have k1 : ∀ X : Lb, (h1.put (nx + 6) (some ⟨lb0.row, 13, true⟩)) (nx + 6) = some ⟨lb0.row, 13, true⟩ := fun _ => put_same _ _ _
  by_cases cn : s.2 < 0
  · have ea : ansB s = (lb0, 0, 6) := by unfold ansB; rw [if_pos cn]
    rw [ea]
    have k1 := k1 lb0
    unfold lb0 Lb.row at *
    simp only at k1
    simp only [mst_, mstL]
    rw [st_all k1 (n := 13) rfl rfl (by rfl)]
    rw [if_pos (decide_eq_true cn), if_pos (by decide)]
    exact ⟨_, _, rfl⟩
  · have ea : ansB s = (s.1, s.2, 0) := by unfold ansB; rw [if_neg cn]
    rw [ea]
    have k1 := k1 s.1
    have k2 : ((h1.put (nx + 6) (some ⟨lb0.row, 13, true⟩)).put (nx + 6) (some ⟨s.1.row, 13, true⟩)) (nx + 6) = some ⟨s.1.row, 13, true⟩ := put_same _ _ _
    unfold lb0 Lb.row at *
    simp only at k1
    simp only [mst_, mstL]
    rw [st_all k1 (n := 13) rfl rfl (by rfl)]
    rw [if_neg (by rw [decide_eq_true_eq]; exact cn), if_pos (by decide), if_pos (by simp), ld_at k2 (v := .int .i64 s.1.time) rfl]
    simp only [mst_]
    rw [show (s.1.time == s.1.time) = true by simp]
    exact ⟨_, _, rfl⟩

end Go.Proofs.Ytkidbgfegnmhdaa.T
