import Derived.Test.YtalfcokiooaliaaG13
set_option linter.unusedVariables false
set_option linter.unusedSimpArgs false
namespace Go.Proofs.Ytalfcokiooaliaa.T
open Go Go.RowKit Go.Proofs


/-! ### (block).data -/
theorem fill_step {k0 : Nat} (hk0 : 1 ≤ k0) (sa : Option (Nat × Nat)) (N : Nat) (sc : Bool) (PP : Int) {W m : Nat} (hW : W ≤ 4096) {l : List Nat} (hl : l.length = m) (hm : m ≤ W) {da : Option (Nat × Nat)} (dc : Bool) {oa : Option (Nat × Nat)} (oc : Bool) {L : List (List Nat)} (hL : L.length ≤ 100) {h0 h : AHeap} {n0 nx : Nat} (x : Ext h0 n0 h nx) (s : Sl h nx da m 1 (ints .u8 (nints l))) (o : OwnRows (BlkRow .u8 h nx (ownOf oa) W) h nx oa 1 L) (lo : ∀ j, ownOf oa j → n0 ≤ j) (q nxe : Nat) (he : nx + q + 14 ≤ nxe) :
    ∃ h5 E, callP Try.prog keepT k0 Y0 25 [.agg [.slice sa N sc, .int .i64 PP, .int .i64 ((W : Nat) : Int)], .slice da m dc] h (nx + q + 3) = some (.slice (some (nx + q + 7, 0)) W true, h5, nx + q + 14) ∧
      srcS (h5.put (nx + q) (some ⟨[.slice (some (nx + q + 7, 0)) W true], 1, true⟩)) (some (nx + q, 0)) 1 1 = some (1, [.slice (some (nx + q + 7, 0)) W true], [nx + q]) ∧
      appD (h5.put (nx + q) (some ⟨[.slice (some (nx + q + 7, 0)) W true], 1, true⟩)) oa L.length oc 1 24 (nx + q + 1) (1, [.slice (some (nx + q + 7, 0)) W true], [nx + q]) = some E ∧ E.n = L.length + 1 ∧
      OwnRows (BlkRow .u8 ((h5.put (nx + q) (some ⟨[.slice (some (nx + q + 7, 0)) W true], 1, true⟩)).puts E.sets) nxe (ownOf E.a) W) ((h5.put (nx + q) (some ⟨[.slice (some (nx + q + 7, 0)) W true], 1, true⟩)).puts E.sets) nxe E.a 1 (L ++ [padW W l]) ∧
      Ext h0 n0 ((h5.put (nx + q) (some ⟨[.slice (some (nx + q + 7, 0)) W true], 1, true⟩)).puts E.sets) nxe ∧ (∀ j, ownOf E.a j → n0 ≤ j) := by
  have y := x.1
  have olt := o.lt
  obtain ⟨h5, e6, b5, x5⟩ := filled_spec (f := k0) hk0 sa N sc PP (W := W) (by omega) hl hm dc (s.ext (nx' := nx + q + 3) ⟨by omega, fun _ _ => rfl⟩)
  have o5 : OwnRows (BlkRow .u8 h5 (nx + q + 14) (fun j => ownOf oa j ∨ j = nx + q ∨ j = nx + q + 1) W) h5 (nx + q) oa 1 L :=
    o.go (D := fun _ => False) ⟨by omega, fun j hj _ => x5.2 j (by omega)⟩ (fun _ _ q => q) fun r c bb => bb.go (Y := fun _ => False) ⟨by omega, fun j hj _ => x5.2 j (by omega)⟩ (fun _ _ z => z.elim) (fun j hj z => z.elim (fun z => z) fun z => by omega)
  obtain ⟨E, s1, s2, s3, s4, s5, s6, s7, _⟩ := o5.pushF oc (bytes := 24) (id := nx + q) (id2 := nx + q + 1) (x := padW W l) (r := [.slice (some (nx + q + 7, 0)) W true]) rfl
    ⟨nx + q + 7, true, rfl, padW_len (by omega), by omega, (by
      rintro (z | z)
      · have := olt _ z; omega
      · omega), b5⟩ (growOk_of (by omega) (by omega)) (by omega) (by omega)
  refine ⟨h5, E, e6, s1, s2, s4, ?_, ⟨by omega, fun j hj => ?_⟩, fun j z => by have := s7 j z; omega⟩
  · refine s5.go (D := fun _ => False) ⟨by omega, fun _ _ _ => rfl⟩ (fun _ _ q => q) fun r c bb => bb.go (Y := fun j => ownOf oa j ∨ j = nx + q ∨ j = nx + q + 1) ⟨he, fun j hj hne => ?_⟩ (fun _ _ z => z) (fun j hj z => .inr (.inr (s7 j z)))
    exact s6 j (fun z => hne (.inl z)) (fun z => hne (.inr (.inl z))) (fun z => hne (.inr (.inr z)))
  · rw [s6 j (fun z => by have := lo j z; omega) (by omega) (by omega), x5.2 j (by omega), x.2 j hj]

/-- Columns that are there. -/
structure ColsL (h : AHeap) (nx N : Nat) (w : Nat → Nat) (v : Nat → List Nat) (lost : Nat → Bool) (P : Nat → Tri) : Prop where
  c : ∀ k, k < N → lost k = false → (P k).2.1 = w k ∧ (v k).length = w k ∧ Small (v k) ∧ Sl h nx (P k).1 (w k) 1 (ints .u8 (nints (v k)))
theorem ColsL.ext {h h' : AHeap} {nx nx' N : Nat} {w : Nat → Nat} {v : Nat → List Nat} {lost : Nat → Bool} {P : Nat → Tri} (c : ColsL h nx N w v lost P) (x : Ext h nx h' nx') : ColsL h' nx' N w v lost P := ⟨fun k hk hl => ⟨(c.c k hk hl).1, (c.c k hk hl).2.1, (c.c k hk hl).2.2.1, (c.c k hk hl).2.2.2.ext x⟩⟩

def fillV (W : Nat) (v : Nat → List Nat) (lost : Nat → Bool) (c : Nat) : List Nat := if lost c then List.replicate W 0 else padW W (v c)
def colOf (N p j : Nat) : Nat := if j < N - p then p + j else j - (N - p)
def allV (N p W : Nat) (v : Nat → List Nat) (lost : Nat → Bool) (i : Nat) : List (List Nat) := (List.range i).map fun j => fillV W v lost (colOf N p j)
theorem allV_succ (N p W : Nat) (v : Nat → List Nat) (lost : Nat → Bool) (i : Nat) : allV N p W v lost (i + 1) = allV N p W v lost i ++ [fillV W v lost (colOf N p i)] := by simp [allV, List.range_succ]
theorem allV_len (N p W : Nat) (v : Nat → List Nat) (lost : Nat → Bool) (i : Nat) : (allV N p W v lost i).length = i := by simp [allV]

/-- A piece's data, and what fills it. -/
theorem piece_rd {R : Type} {h : AHeap} {nx N W : Nat} {w : Nat → Nat} {v : Nat → List Nat} {lost : Nat → Bool} {P : Nat → Tri} {xa : Option (Nat × Nat)} (sp : Sl h nx xa N 2 (prows P lost N).flatten) (cl : ColsL h nx N w v lost P) (hw : ∀ k, k < N → w k ≤ W) {c : Nat} (hc : c < N) :
    ∃ (da : Option (Nat × Nat)) (m : Nat) (dc : Bool) (l : List Nat), (∀ K : AV → Option R, (xa.bind fun q => if 0 ≤ (c : Int) ∧ (c : Int) < ((N : Nat) : Int) then (ldA h q.1 ((q.2 + Int.toNat (c : Int) * 2) + 1)).bind K else none) = K (.slice da m dc)) ∧ l.length = m ∧ m ≤ W ∧ Sl h nx da m 1 (ints .u8 (nints l)) ∧ padW W l = fillV W v lost c := by
  have hrow : ∀ x, (prow P lost c)[1]? = some x → (prows P lost N).flatten[c * 2 + 1]? = some x := fun x hx => by
    rw [flat_get (prows_row _ _ _) (prows_get hc) (by omega), hx]
  by_cases hg : lost c = true
  · refine ⟨none, 0, false, [], fun K => ?_, rfl, by omega, ⟨by simp [nints], fun j hj => by omega⟩, ?_⟩
    · exact Sl.read sp (by omega) (by omega) (by omega) (by rw [Int.toNat_natCast]; exact hrow _ (by simp [prow, hg])) K
    · unfold fillV; rw [if_pos hg]; simp [padW]
  · obtain ⟨c1, c2, c3, c4⟩ := cl.c c hc (by simpa using hg)
    refine ⟨(P c).1, w c, (P c).2.2, v c, fun K => ?_, c2, hw c hc, c4, ?_⟩
    · refine Sl.read sp (by omega) (by omega) (by omega) (by rw [Int.toNat_natCast]; exact hrow _ (by simp [prow, hg, tcell, c1])) K
    · unfold fillV; rw [if_neg hg]

theorem data_first {k0 : Nat} (hk0 : 1 ≤ k0) (lf : Nat) {N p W : Nat} (hN : N ≤ 8) (hpN : p < N) (hW : W ≤ 4096) {w : Nat → Nat} (hw : ∀ k, k < N → w k ≤ W) {v : Nat → List Nat} {lost : Nat → Bool} {P : Nat → Tri} {xa ga sa : Option (Nat × Nat)} (xc gc sc : Bool) (t : Nat) {bb : Nat} {h0 : AHeap} {n0 : Nat}
    (hb : h0 bb = some ⟨[.slice sa N sc, .int .i64 (p : Int), .int .i64 ((W : Nat) : Int)], 3, true⟩) (hbl : bb < n0) (sp : Sl h0 n0 xa N 2 (prows P lost N).flatten) (cl : ColsL h0 n0 N w v lost P) (m : Nat) :
    ∀ (f i : Nat) (oa : Option (Nat × Nat)) (oc : Bool) (h : AHeap) (nx : Nat), i + m = N - p → m < f → Ext h0 n0 h nx → OwnRows (BlkRow .u8 h nx (ownOf oa) W) h nx oa 1 (allV N p W v lost i) → (∀ j, ownOf oa j → n0 ≤ j) →
    ∃ (oa' : Option (Nat × Nat)) (oc' : Bool) (h' : AHeap) (nx' : Nat), F20_L1 (callP Try.prog keepT k0) Y0 lf f xa N xc ga t gc (some (bb, 0)) oa i oc ((p + i : Nat) : Int) h nx = F20_L2 (callP Try.prog keepT k0) Y0 lf lf xa N xc ga t gc (some (bb, 0)) oa' (N - p) oc' (p : Int) 0 h' nx' ∧ Ext h0 n0 h' nx' ∧ OwnRows (BlkRow .u8 h' nx' (ownOf oa') W) h' nx' oa' 1 (allV N p W v lost (N - p)) ∧ (∀ j, ownOf oa' j → n0 ≤ j) := by
  induction m with
  | zero =>
    intro f i oa oc h nx e hf x o lo
    obtain ⟨f, rfl⟩ : ∃ m, f = m + 1 := ⟨f - 1, by omega⟩
    obtain rfl : i = N - p := by omega
    have hbh := (x.2 bb hbl).trans hb
    rw [F20_L1_eq, if_neg (by simp; omega)]
    simp only [mst_]
    rw [ld_at hbh rfl]
    simp only [mst_]
    exact ⟨oa, oc, h, nx + 7, rfl, x.le (by omega), o.go (D := fun _ => False) ⟨by omega, fun _ _ _ => rfl⟩ (fun _ _ q => q) (fun r c bb => bb.go (Y := fun _ => False) ⟨by omega, fun _ _ _ => rfl⟩ (fun _ _ q => q.elim) (fun _ _ q => q)), lo⟩
  | succ m ih =>
    intro f i oa oc h nx e hf x o lo
    obtain ⟨f, rfl⟩ : ∃ m, f = m + 1 := ⟨f - 1, by omega⟩
    have hbh := (x.2 bb hbl).trans hb
    obtain ⟨da, dm, dc, l, r1, r2, r3, r4, r5⟩ := piece_rd (R := AV × AHeap × Nat) (sp.ext x) (cl.ext x) hw (c := p + i) (by omega)
    obtain ⟨h5, E, e6, s1, s2, s4, s5, s6, s7⟩ := fill_step (k0 := k0) hk0 sa N sc (p : Int) hW r2 r3 dc oc (by rw [allV_len]; omega) x r4 o lo 12 (nx + 29) (by omega)
    rw [allV_len] at s2 s4
    have hcol : colOf N p i = p + i := by unfold colOf; rw [if_pos (by omega)]
    rw [r5, ← hcol, ← allV_succ] at s5
    rw [F20_L1_eq, if_pos (by simp; omega)]
    simp only [mst_]
    rw [ldr_all hbh (by simp)]
    simp only [mst_]
    rw [r1]
    simp only [mst_]
    rw [e6]
    simp only [mst_]
    rw [s1, some_bind, s2, some_bind, s4, wsucc (by omega), Nat.add_assoc]
    exact ih f (i + 1) E.a E.c _ (nx + 29) (by omega) (by omega) s6 s5 s7

theorem data_par {k0 : Nat} (hk0 : 1 ≤ k0) (lf : Nat) {N p W : Nat} (hN : N ≤ 8) (hpN : p < N) (hW : W ≤ 4096) {w : Nat → Nat} (hw : ∀ k, k < N → w k ≤ W) {v : Nat → List Nat} {lost : Nat → Bool} {P : Nat → Tri} {xa ga sa : Option (Nat × Nat)} (xc gc sc : Bool) (t : Nat) {bb : Nat} {h0 : AHeap} {n0 : Nat}
    (hb : h0 bb = some ⟨[.slice sa N sc, .int .i64 (p : Int), .int .i64 ((W : Nat) : Int)], 3, true⟩) (hbl : bb < n0) (sp : Sl h0 n0 xa N 2 (prows P lost N).flatten) (cl : ColsL h0 n0 N w v lost P) (m : Nat) :
    ∀ (f i : Nat) (oa : Option (Nat × Nat)) (oc : Bool) (h : AHeap) (nx : Nat), i + m = p → m < f → Ext h0 n0 h nx → OwnRows (BlkRow .u8 h nx (ownOf oa) W) h nx oa 1 (allV N p W v lost (N - p + i)) → (∀ j, ownOf oa j → n0 ≤ j) →
    ∃ (oa' : Option (Nat × Nat)) (oc' : Bool) (h' : AHeap) (nx' : Nat), F20_L2 (callP Try.prog keepT k0) Y0 lf f xa N xc ga t gc (some (bb, 0)) oa (N - p + i) oc (p : Int) (i : Int) h nx = F20_L3 (callP Try.prog keepT k0) Y0 lf lf xa N xc (some (bb, 0)) oa' N oc' none 0 false ga t gc ((t : Nat) : Int) 0 h' nx' ∧ Ext h0 n0 h' nx' ∧ OwnRows (BlkRow .u8 h' nx' (ownOf oa') W) h' nx' oa' 1 (allV N p W v lost N) ∧ (∀ j, ownOf oa' j → n0 ≤ j) := by
  induction m with
  | zero =>
    intro f i oa oc h nx e hf x o lo
    obtain ⟨f, rfl⟩ : ∃ m, f = m + 1 := ⟨f - 1, by omega⟩
    obtain rfl : i = p := by omega
    rw [show N - i + i = N from by omega] at o ⊢
    rw [F20_L2_eq, if_neg (by simp)]
    exact ⟨oa, oc, h, nx + 5, rfl, x.le (by omega), o.go (D := fun _ => False) ⟨by omega, fun _ _ _ => rfl⟩ (fun _ _ q => q) (fun r c bb => bb.go (Y := fun _ => False) ⟨by omega, fun _ _ _ => rfl⟩ (fun _ _ q => q.elim) (fun _ _ q => q)), lo⟩
  | succ m ih =>
    intro f i oa oc h nx e hf x o lo
    obtain ⟨f, rfl⟩ : ∃ m, f = m + 1 := ⟨f - 1, by omega⟩
    have hbh := (x.2 bb hbl).trans hb
    obtain ⟨da, dm, dc, l, r1, r2, r3, r4, r5⟩ := piece_rd (R := AV × AHeap × Nat) (sp.ext x) (cl.ext x) hw (c := i) (by omega)
    obtain ⟨h5, E, e6, s1, s2, s4, s5, s6, s7⟩ := fill_step (k0 := k0) hk0 sa N sc (p : Int) hW r2 r3 dc oc (by rw [allV_len]; omega) x r4 o lo 11 (nx + 27) (by omega)
    rw [allV_len] at s2 s4
    have hcol : colOf N p (N - p + i) = i := by unfold colOf; rw [if_neg (by omega)]; omega
    rw [r5] at s5
    have s5' := s5
    rw [show fillV W v lost i = fillV W v lost (colOf N p (N - p + i)) from by rw [hcol], ← allV_succ] at s5'
    rw [F20_L2_eq, if_pos (by simp; omega)]
    simp only [mst_]
    rw [ldr_all hbh (by simp)]
    simp only [mst_]
    rw [r1]
    simp only [mst_]
    rw [e6]
    simp only [mst_]
    rw [s1, some_bind, s2, some_bind, s4, wsucc (by omega), Nat.add_assoc]
    exact ih f (i + 1) E.a E.c _ (nx + 27) (by omega) (by omega) s6 s5' s7

end Go.Proofs.Ytalfcokiooaliaa.T
