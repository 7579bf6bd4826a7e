/- Snaps: SnapAll, the loop that appends a kill and a drop of each. -/
import Derived.Test.YtaikceooeahfeaaS28
set_option linter.unusedVariables false
set_option linter.unusedSimpArgs false
namespace Go.Proofs.Ytaikceooeahfeaa.T
open Go Go.RowKit Go.Proofs

theorem tailP_snoc (j : Nat) : tailP 0 (j + 1) = tailP 0 j ++ [((2 : Int), (j : Int)), ((4 : Int), (j : Int))] := by
  unfold tailP
  rw [List.range'_1_concat, List.map_append, List.flatten_append, Nat.zero_add]
  rfl
theorem OwnRows.own {h : AHeap} {nx n0 : Nat} {a : Option (Nat × Nat)} {ms : List (Int × Int)} (w : OwnRows (fun m r => r = mrow m) h nx a 2 ms) (lo : ∀ j, ownOf a j → n0 ≤ j) : OwnSl h n0 nx a ms.length 2 (ms.map mrow).flatten := by
  obtain ⟨rows, q, len, s⟩ := w
  have hr := rows_moves _ _ q
  subst hr
  refine ⟨by rw [flat_len len, List.length_map], ?_⟩
  rcases s with ⟨e, rfl⟩ | ⟨b, e, b1, b2⟩
  · exact .inl ⟨e, rfl⟩
  · exact .inr ⟨b, e, lo b ⟨0, e⟩, b1, b2⟩

theorem all_l1 {f lf n0 : Nat} {P : Option Res → Prop} {ms0 : List (Int × Int)} (hN : ms0.length ≤ 60) {h0 : AHeap}
    (next : ∀ (m0 : Nat) (h : AHeap) (nx : Nat) (oa : Option (Nat × Nat)) (oc : Option Nat), n0 ≤ nx → OwnSl h n0 nx oa (ms0 ++ tailP 0 60).length 2 ((ms0 ++ tailP 0 60).map mrow).flatten → Ext h0 n0 h nx →
      P (F4_L1 (callP Try.prog keepT f) Y0 lf (m0 + 1) oa (ms0 ++ tailP 0 60).length oc 60 h nx)) (d : Nat) :
    ∀ (m0 j : Nat) (h : AHeap) (nx : Nat) (a : Option (Nat × Nat)) (c : Option Nat), j + d = 60 → d < m0 → n0 ≤ nx → OwnSl h n0 nx a (ms0 ++ tailP 0 j).length 2 ((ms0 ++ tailP 0 j).map mrow).flatten → Ext h0 n0 h nx →
      P (F4_L1 (callP Try.prog keepT f) Y0 lf m0 a (ms0 ++ tailP 0 j).length c (j : Int) h nx) := by
  induction d with
  | zero =>
    intro m0 j h nx a c e hl hn s x
    obtain ⟨m0, rfl⟩ : ∃ m, m0 = m + 1 := ⟨m0 - 1, by omega⟩
    obtain rfl : j = 60 := by omega
    exact next m0 h nx a c hn s x
  | succ d ih =>
    intro m0 j h nx a c e hl hn s x
    obtain ⟨m0, rfl⟩ : ∃ m, m0 = m + 1 := ⟨m0 - 1, by omega⟩
    rw [F4_L1_eq, if_pos (decide_eq_true (by omega))]
    have tl := tailP_len j 0
    have hlen : (ms0 ++ tailP 0 j).length = ms0.length + 2 * j := by rw [List.length_append, tl]
    have src : srcS (h.put (nx + 7) (some ⟨[.int .i64 2, .int .i64 (j : Int), .int .i64 4, .int .i64 (j : Int)], 2, true⟩)) (some (nx + 7, 0)) 2 2 = some (2, [.int .i64 2, .int .i64 (j : Int), .int .i64 4, .int .i64 (j : Int)], [nx + 7]) := by simp [srcS]
    dsimp only
    rw [src]
    simp only [mst_]
    obtain ⟨e3, p1, p2, p3, p4⟩ := (s.put (id := nx + 7) (b := some ⟨[.int .i64 2, .int .i64 (j : Int), .int .i64 4, .int .i64 (j : Int)], 2, true⟩) (nx' := nx + 8) (by omega) (by omega)).append (c := c) (bytes := 16) (id := nx + 8) (k := 2) (ws := [.int .i64 2, .int .i64 (j : Int), .int .i64 4, .int .i64 (j : Int)]) (rd := [nx + 7]) (by decide) rfl (growOk_of (by omega) (by omega)) (by omega) (by omega)
    rw [p1]
    simp only [mst_]
    rw [wsucc (i := j) (by omega), p2]
    have hl2 : (ms0 ++ tailP 0 j).length + 2 = (ms0 ++ tailP 0 (j + 1)).length := by rw [tailP_snoc]; simp only [List.length_append, List.length_cons, List.length_nil]; omega
    have hf2 : ((ms0 ++ tailP 0 j).map mrow).flatten ++ [.int .i64 2, .int .i64 (j : Int), .int .i64 4, .int .i64 (j : Int)] = ((ms0 ++ tailP 0 (j + 1)).map mrow).flatten := by
      rw [tailP_snoc, ← List.append_assoc, List.map_append (l₁ := ms0 ++ tailP 0 j), List.flatten_append]
      rfl
    rw [hl2] at p3 ⊢
    rw [hf2] at p3
    refine ih m0 (j + 1) _ (nx + 13) e3.a e3.c (by omega) (by omega) (by omega) (p3.le (by omega)) ?_
    have hx : Ext h0 n0 (h.put (nx + 7) (some ⟨[.int .i64 2, .int .i64 (j : Int), .int .i64 4, .int .i64 (j : Int)], 2, true⟩)) (nx + 8) := x.put (by omega) (by omega)
    exact ⟨by omega, fun i hi => (p4.2 i hi).trans (hx.2 i hi)⟩

end Go.Proofs.Ytaikceooeahfeaa.T
