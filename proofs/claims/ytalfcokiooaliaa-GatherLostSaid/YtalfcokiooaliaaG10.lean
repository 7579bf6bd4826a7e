import Derived.Test.YtalfcokiooaliaaG9
set_option linter.unusedVariables false
set_option linter.unusedSimpArgs false
namespace Go.Proofs.Ytalfcokiooaliaa.T
open Go Go.RowKit Go.Proofs

/-! ### pieces -/
def prow (P : Nat → Tri) (lost : Nat → Bool) (k : Nat) : List AV := if lost k then [AV.bool true, AV.slice none 0 false] else [AV.bool false, tcell (P k)]
def prows (P : Nat → Tri) (lost : Nat → Bool) (N : Nat) : List (List AV) := (List.range N).map (prow P lost)
theorem prow_len (P : Nat → Tri) (lost : Nat → Bool) (k : Nat) : (prow P lost k).length = 2 := by unfold prow; split <;> rfl
theorem prows_row (P : Nat → Tri) (lost : Nat → Bool) (N : Nat) : ∀ r ∈ prows P lost N, r.length = 2 := by
  intro r hr
  obtain ⟨k, _, rfl⟩ := List.mem_map.1 hr
  exact prow_len _ _ _
theorem prows_len (P : Nat → Tri) (lost : Nat → Bool) (N : Nat) : (prows P lost N).length = N := by simp [prows]
theorem prows_get {P : Nat → Tri} {lost : Nat → Bool} {N k : Nat} (hk : k < N) : (prows P lost N)[k]? = some (prow P lost k) := by simp [prows, List.getElem?_range hk]
theorem prows_set {P : Nat → Tri} {lost : Nat → Bool} {N k : Nat} : (prows P lost N).set k [AV.bool true, AV.slice none 0 false] = prows P (fun j => j == k || lost j) N := by
  apply List.ext_getElem
  · simp [prows]
  · intro j h1 h2
    rw [List.getElem_set]
    simp only [prows, List.getElem_map, List.getElem_range]
    by_cases e : k = j
    · subst e; simp [prow]
    · rw [if_neg e]; unfold prow; simp [Ne.symm e]
theorem prows_congr {P : Nat → Tri} {lost lost' : Nat → Bool} {N : Nat} (e : ∀ k, k < N → lost k = lost' k) : prows P lost N = prows P lost' N :=
  List.map_congr_left fun k hk => by unfold prow; rw [e k (List.mem_range.1 hk)]
theorem All2_map {α β : Type} {F : α → β} : ∀ {l : List α} {rows : List β}, All2 (fun k r => r = F k) l rows → rows = l.map F
  | [], rows, e => by simp only [All2] at e; exact e
  | x :: l, rows, e => by
    obtain ⟨r, rs, rfl, rfl, b⟩ := e
    rw [All2_map b]; rfl
theorem PRow.blk {P : Nat → Tri} {h : AHeap} {nx N : Nat} {xa : Option (Nat × Nat)} (o : OwnRows (PRow P) h nx xa 2 (List.range N)) (hN : 1 ≤ N) : ∃ pid, xa = some (pid, 0) ∧ pid < nx ∧ h pid = some ⟨(prows P (fun _ => false) N).flatten, 2, true⟩ := by
  obtain ⟨rows, q, len, s⟩ := o
  have e := All2_map q
  rcases s with ⟨_, z⟩ | ⟨b, z1, z2, z3⟩
  · have := congrArg List.length z
    rw [List.length_range] at this; simp at this; omega
  · refine ⟨b, z1, z2, ?_⟩
    rw [z3, e]
    have : prows P (fun _ => false) N = (List.range N).map fun k => [AV.bool false, tcell (P k)] := List.map_congr_left fun k _ => by simp [prow]
    rw [this]
theorem Sl.pcs {P : Nat → Tri} {lost : Nat → Bool} {h : AHeap} {nx N pid : Nat} (hb : h pid = some ⟨(prows P lost N).flatten, 2, true⟩) (hl : pid < nx) : Sl h nx (some (pid, 0)) N 2 (prows P lost N).flatten :=
  Sl.ofBlk hb (by rw [flat_len (prows_row _ _ _), prows_len]) hl

/-- Pieces are lost. -/
theorem lose4_loop (call : YldF → CallF) (lf : Nat) {N t : Nat} (hN : N ≤ 256) {ls : List Nat} (ht : ls.length = t) (htl : t ≤ 256) (hmem : ∀ k ∈ ls, k < N) {P : Nat → Tri} (x11 x12 x13 : Int) (X14 : Option (Nat × Nat)) (N14 : Nat) (C14 : Bool) (pc : Bool) (X16 : Option (Nat × Nat)) {la : Option (Nat × Nat)} (lc : Bool) {h0 : AHeap} {n0 pid : Nat} (sl : Sl h0 n0 la t 1 (ints .i64 (nints ls))) (hpl : pid < n0) (hav : ∀ p, la = some p → 0 < t → p.1 ≠ pid) (m : Nat) :
    ∀ (f i : Nat) (h : AHeap) (nx : Nat), i + m = t → m < f → Frm (fun j => j = pid) h0 n0 h nx → h pid = some ⟨(prows P (inL ls i) N).flatten, 2, true⟩ →
    ∃ (f' : Nat) (h' : AHeap) (nx' : Nat), F3_L1 call Y0 lf f x11 x12 x13 X14 N14 C14 (some (pid, 0)) N pc X16 la t lc (i : Int) h nx = F3_L1 call Y0 lf (f' + 1) x11 x12 x13 X14 N14 C14 (some (pid, 0)) N pc X16 la t lc (t : Int) h' nx' ∧ Frm (fun j => j = pid) h0 n0 h' nx' ∧ h' pid = some ⟨(prows P (inL ls t) N).flatten, 2, true⟩ := by
  induction m with
  | zero =>
    intro f i h nx e hf x hb
    obtain ⟨f, rfl⟩ : ∃ m, f = m + 1 := ⟨f - 1, by omega⟩
    obtain rfl : i = t := by omega
    exact ⟨f, h, nx, rfl, x, hb⟩
  | succ m ih =>
    intro f i h nx e hf x hb
    obtain ⟨f, rfl⟩ : ∃ m, f = m + 1 := ⟨f - 1, by omega⟩
    have hi : i < t := by omega
    have y := x.1
    obtain ⟨k, hk⟩ : ∃ k, ls[i]'(by omega) = k := ⟨_, rfl⟩
    have hkN : k < N := hmem k (by rw [← hk]; exact List.getElem_mem _)
    have sl' : Sl h nx la t 1 (ints .i64 (nints ls)) := sl.fr (D := fun j => j = pid) (fun ht0 p hp z => hav p hp ht0 z) x
    rw [F3_L1_eq, if_pos (by simpa using hi), sl'.readN ht (by omega)]
    simp only [mst_]
    rw [hk, if_pos ⟨by omega, by omega⟩, show 0 + Int.toNat (k : Int) * 2 = k * 2 from by omega]
    have fl := flat_len (prows_row P (inL ls i) N)
    rw [prows_len] at fl
    rw [st_at (v := .agg [.bool true, .slice none 0 false]) hb (by simp [AV.cells]) (by simp [AV.cells, fl]; omega) (by simp [AV.cells, allOne, AV.one])]
    have hsp : splice (prows P (inL ls i) N).flatten (k * 2) (AV.cells (.agg [.bool true, .slice none 0 false])) = (prows P (inL ls (i + 1)) N).flatten := by
      show splice _ _ [AV.bool true, AV.slice none 0 false] = _
      rw [flat_set (prows_row _ _ _) rfl (by rw [prows_len]; exact hkN), prows_set, prows_congr fun j _ => inL_set (by omega) hk j]
    rw [hsp, wsucc (by omega)]
    exact ih f (i + 1) _ (nx + 15) (by omega) (by omega) (x.put (.inl rfl) (by omega)) (put_same _ _ _)

end Go.Proofs.Ytalfcokiooaliaa.T
