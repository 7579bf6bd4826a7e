import Derived.Test.YtalfcokiooaliaaGB
set_option linter.unusedVariables false
set_option linter.unusedSimpArgs false
namespace Go.Proofs.Ytalfcokiooaliaa.T
open Go Go.RowKit Go.Proofs


/-! ### (block).data -/
theorem fill_step {k0 : Nat} (hk0 : 1 ≤ k0) (sa : Option (Nat × Nat)) (N : Nat) (sc : Bool) (PP : Int) {W m : Nat} (hW : W ≤ 4096) {l : List Nat} (hl : l.length = m) (hm : m ≤ W) {da : Option (Nat × Nat)} (dc : Bool) {oa : Option (Nat × Nat)} (oc : Bool) {L : List (List Nat)} (hL : L.length ≤ 100) {h0 h : AHeap} {n0 nx : Nat} (x : Ext h0 n0 h nx) (s : Sl h nx da m 1 (ints .u8 (nints l))) (o : OwnRows (BlkRow .u8 h nx (ownOf oa) W) h nx oa 1 L) (lo : ∀ j, ownOf oa j → n0 ≤ j) (q nxe : Nat) (he : nx + q + 14 ≤ nxe) :
    ∃ h5 E, callP Try.prog keepT k0 Y0 25 [.agg [.slice sa N sc, .int .i64 PP, .int .i64 ((W : Nat) : Int)], .slice da m dc] h (nx + q + 3) = some (.slice (some (nx + q + 7, 0)) W true, h5, nx + q + 14) ∧
      srcS (h5.put (nx + q) (some ⟨[.slice (some (nx + q + 7, 0)) W true], 1, true⟩)) (some (nx + q, 0)) 1 1 = some (1, [.slice (some (nx + q + 7, 0)) W true], [nx + q]) ∧
      appD (h5.put (nx + q) (some ⟨[.slice (some (nx + q + 7, 0)) W true], 1, true⟩)) oa L.length oc 1 24 (nx + q + 1) (1, [.slice (some (nx + q + 7, 0)) W true], [nx + q]) = some E ∧ E.n = L.length + 1 ∧
      OwnRows (BlkRow .u8 ((h5.put (nx + q) (some ⟨[.slice (some (nx + q + 7, 0)) W true], 1, true⟩)).puts E.sets) nxe (ownOf E.a) W) ((h5.put (nx + q) (some ⟨[.slice (some (nx + q + 7, 0)) W true], 1, true⟩)).puts E.sets) nxe E.a 1 (L ++ [padW W l]) ∧
      Ext h0 n0 ((h5.put (nx + q) (some ⟨[.slice (some (nx + q + 7, 0)) W true], 1, true⟩)).puts E.sets) nxe ∧ (∀ j, ownOf E.a j → n0 ≤ j) := by
  have y := x.1
  have olt := o.lt
  obtain ⟨h5, e6, b5, x5⟩ := filled_spec (f := k0) hk0 sa N sc PP (W := W) (by omega) hl hm dc (s.ext (nx' := nx + q + 3) ⟨by omega, fun _ _ => rfl⟩)
  have o5 : OwnRows (BlkRow .u8 h5 (nx + q + 14) (fun j => ownOf oa j ∨ j = nx + q ∨ j = nx + q + 1) W) h5 (nx + q) oa 1 L :=
    o.go (D := fun _ => False) ⟨by omega, fun j hj _ => x5.2 j (by omega)⟩ (fun _ _ q => q) fun r c bb => bb.go (Y := fun _ => False) ⟨by omega, fun j hj _ => x5.2 j (by omega)⟩ (fun _ _ z => z.elim) (fun j hj z => z.elim (fun z => z) fun z => by omega)
  obtain ⟨E, s1, s2, s3, s4, s5, s6, s7, _⟩ := o5.pushF oc (bytes := 24) (id := nx + q) (id2 := nx + q + 1) (x := padW W l) (r := [.slice (some (nx + q + 7, 0)) W true]) rfl
    ⟨nx + q + 7, true, rfl, padW_len (by omega), by omega, (by
      rintro (z | z)
      · have := olt _ z; omega
      · omega), b5⟩ (growOk_of (by omega) (by omega)) (by omega) (by omega)
  refine ⟨h5, E, e6, s1, s2, s4, ?_, ⟨by omega, fun j hj => ?_⟩, fun j z => by have := s7 j z; omega⟩
  · refine s5.go (D := fun _ => False) ⟨by omega, fun _ _ _ => rfl⟩ (fun _ _ q => q) fun r c bb => bb.go (Y := fun j => ownOf oa j ∨ j = nx + q ∨ j = nx + q + 1) ⟨he, fun j hj hne => ?_⟩ (fun _ _ z => z) (fun j hj z => .inr (.inr (s7 j z)))
    exact s6 j (fun z => hne (.inl z)) (fun z => hne (.inr (.inl z))) (fun z => hne (.inr (.inr z)))
  · rw [s6 j (fun z => by have := lo j z; omega) (by omega) (by omega), x5.2 j (by omega), x.2 j hj]

/-- Columns that are there. -/
structure ColsL (h : AHeap) (nx N : Nat) (w : Nat → Nat) (v : Nat → List Nat) (lost : Nat → Bool) (P : Nat → Tri) : Prop where
  c : ∀ k, k < N → lost k = false → (P k).2.1 = w k ∧ (v k).length = w k ∧ Small (v k) ∧ Sl h nx (P k).1 (w k) 1 (ints .u8 (nints (v k)))
theorem ColsL.ext {h h' : AHeap} {nx nx' N : Nat} {w : Nat → Nat} {v : Nat → List Nat} {lost : Nat → Bool} {P : Nat → Tri} (c : ColsL h nx N w v lost P) (x : Ext h nx h' nx') : ColsL h' nx' N w v lost P := ⟨fun k hk hl => ⟨(c.c k hk hl).1, (c.c k hk hl).2.1, (c.c k hk hl).2.2.1, (c.c k hk hl).2.2.2.ext x⟩⟩

def fillV (W : Nat) (v : Nat → List Nat) (lost : Nat → Bool) (c : Nat) : List Nat := if lost c then List.replicate W 0 else padW W (v c)
def colOf (N p j : Nat) : Nat := if j < N - p then p + j else j - (N - p)
def allV (N p W : Nat) (v : Nat → List Nat) (lost : Nat → Bool) (i : Nat) : List (List Nat) := (List.range i).map fun j => fillV W v lost (colOf N p j)
theorem allV_succ (N p W : Nat) (v : Nat → List Nat) (lost : Nat → Bool) (i : Nat) : allV N p W v lost (i + 1) = allV N p W v lost i ++ [fillV W v lost (colOf N p i)] := by simp [allV, List.range_succ]
theorem allV_len (N p W : Nat) (v : Nat → List Nat) (lost : Nat → Bool) (i : Nat) : (allV N p W v lost i).length = i := by simp [allV]

/-- A piece's data, and what fills it. -/
theorem piece_rd {R : Type} {h : AHeap} {nx N W : Nat} {w : Nat → Nat} {v : Nat → List Nat} {lost : Nat → Bool} {P : Nat → Tri} {xa : Option (Nat × Nat)} (sp : Sl h nx xa N 2 (prows P lost N).flatten) (cl : ColsL h nx N w v lost P) (hw : ∀ k, k < N → w k ≤ W) {c : Nat} (hc : c < N) :
    ∃ (da : Option (Nat × Nat)) (m : Nat) (dc : Bool) (l : List Nat), (∀ K : AV → Option R, (xa.bind fun q => if 0 ≤ (c : Int) ∧ (c : Int) < ((N : Nat) : Int) then (ldA h q.1 ((q.2 + Int.toNat (c : Int) * 2) + 1)).bind K else none) = K (.slice da m dc)) ∧ l.length = m ∧ m ≤ W ∧ Sl h nx da m 1 (ints .u8 (nints l)) ∧ padW W l = fillV W v lost c := by
  have hrow : ∀ x, (prow P lost c)[1]? = some x → (prows P lost N).flatten[c * 2 + 1]? = some x := fun x hx => by
    rw [flat_get (prows_row _ _ _) (prows_get hc) (by omega), hx]
  by_cases hg : lost c = true
  · refine ⟨none, 0, false, [], fun K => ?_, rfl, by omega, ⟨by simp [nints], fun j hj => by omega⟩, ?_⟩
    · exact Sl.read sp (by omega) (by omega) (by omega) (by rw [Int.toNat_natCast]; exact hrow _ (by simp [prow, hg])) K
    · unfold fillV; rw [if_pos hg]; simp [padW]
  · obtain ⟨c1, c2, c3, c4⟩ := cl.c c hc (by simpa using hg)
    refine ⟨(P c).1, w c, (P c).2.2, v c, fun K => ?_, c2, hw c hc, c4, ?_⟩
    · refine Sl.read sp (by omega) (by omega) (by omega) (by rw [Int.toNat_natCast]; exact hrow _ (by simp [prow, hg, tcell, c1])) K
    · unfold fillV; rw [if_neg hg]

theorem data_first {k0 : Nat} (hk0 : 1 ≤ k0) (lf : Nat) {N p W : Nat} (hN : N ≤ 8) (hpN : p < N) (hW : W ≤ 4096) {w : Nat → Nat} (hw : ∀ k, k < N → w k ≤ W) {v : Nat → List Nat} {lost : Nat → Bool} {P : Nat → Tri} {xa ga sa : Option (Nat × Nat)} (xc gc sc : Bool) (t : Nat) {bb : Nat} {h0 : AHeap} {n0 : Nat}
    (hb : h0 bb = some ⟨[.slice sa N sc, .int .i64 (p : Int), .int .i64 ((W : Nat) : Int)], 3, true⟩) (hbl : bb < n0) (sp : Sl h0 n0 xa N 2 (prows P lost N).flatten) (cl : ColsL h0 n0 N w v lost P) (m : Nat) :
    ∀ (f i : Nat) (oa : Option (Nat × Nat)) (oc : Bool) (h : AHeap) (nx : Nat), i + m = N - p → m < f → Ext h0 n0 h nx → OwnRows (BlkRow .u8 h nx (ownOf oa) W) h nx oa 1 (allV N p W v lost i) → (∀ j, ownOf oa j → n0 ≤ j) →
    ∃ (oa' : Option (Nat × Nat)) (oc' : Bool) (h' : AHeap) (nx' : Nat), F20_L1 (callP Try.prog keepT k0) Y0 lf f xa N xc ga t gc (some (bb, 0)) oa i oc ((p + i : Nat) : Int) h nx = F20_L2 (callP Try.prog keepT k0) Y0 lf lf xa N xc ga t gc (some (bb, 0)) oa' (N - p) oc' (p : Int) 0 h' nx' ∧ Ext h0 n0 h' nx' ∧ OwnRows (BlkRow .u8 h' nx' (ownOf oa') W) h' nx' oa' 1 (allV N p W v lost (N - p)) ∧ (∀ j, ownOf oa' j → n0 ≤ j) := by
  induction m with
  | zero =>
    intro f i oa oc h nx e hf x o lo
    obtain ⟨f, rfl⟩ : ∃ m, f = m + 1 := ⟨f - 1, by omega⟩
    obtain rfl : i = N - p := by omega
    have hbh := (x.2 bb hbl).trans hb
    rw [F20_L1_eq, if_neg (by simp; omega)]
    simp only [mst_]
    rw [ld_at hbh rfl]
    simp only [mst_]
    exact ⟨oa, oc, h, nx + 7, rfl, x.le (by omega), o.go (D := fun _ => False) ⟨by omega, fun _ _ _ => rfl⟩ (fun _ _ q => q) (fun r c bb => bb.go (Y := fun _ => False) ⟨by omega, fun _ _ _ => rfl⟩ (fun _ _ q => q.elim) (fun _ _ q => q)), lo⟩
  | succ m ih =>
    intro f i oa oc h nx e hf x o lo
    obtain ⟨f, rfl⟩ : ∃ m, f = m + 1 := ⟨f - 1, by omega⟩
    have hbh := (x.2 bb hbl).trans hb
    obtain ⟨da, dm, dc, l, r1, r2, r3, r4, r5⟩ := piece_rd (R := AV × AHeap × Nat) (sp.ext x) (cl.ext x) hw (c := p + i) (by omega)
    obtain ⟨h5, E, e6, s1, s2, s4, s5, s6, s7⟩ := fill_step (k0 := k0) hk0 sa N sc (p : Int) hW r2 r3 dc oc (by rw [allV_len]; omega) x r4 o lo 12 (nx + 29) (by omega)
    rw [allV_len] at s2 s4
    have hcol : colOf N p i = p + i := by unfold colOf; rw [if_pos (by omega)]
    rw [r5, ← hcol, ← allV_succ] at s5
    rw [F20_L1_eq, if_pos (by simp; omega)]
    simp only [mst_]
    rw [ldr_all hbh (by simp)]
    simp only [mst_]
    rw [r1]
    simp only [mst_]
    rw [e6]
    simp only [mst_]
    rw [s1, some_bind, s2, some_bind, s4, wsucc (by omega), Nat.add_assoc]
    exact ih f (i + 1) E.a E.c _ (nx + 29) (by omega) (by omega) s6 s5 s7

theorem data_par {k0 : Nat} (hk0 : 1 ≤ k0) (lf : Nat) {N p W : Nat} (hN : N ≤ 8) (hpN : p < N) (hW : W ≤ 4096) {w : Nat → Nat} (hw : ∀ k, k < N → w k ≤ W) {v : Nat → List Nat} {lost : Nat → Bool} {P : Nat → Tri} {xa ga sa : Option (Nat × Nat)} (xc gc sc : Bool) (t : Nat) {bb : Nat} {h0 : AHeap} {n0 : Nat}
    (hb : h0 bb = some ⟨[.slice sa N sc, .int .i64 (p : Int), .int .i64 ((W : Nat) : Int)], 3, true⟩) (hbl : bb < n0) (sp : Sl h0 n0 xa N 2 (prows P lost N).flatten) (cl : ColsL h0 n0 N w v lost P) (m : Nat) :
    ∀ (f i : Nat) (oa : Option (Nat × Nat)) (oc : Bool) (h : AHeap) (nx : Nat), i + m = p → m < f → Ext h0 n0 h nx → OwnRows (BlkRow .u8 h nx (ownOf oa) W) h nx oa 1 (allV N p W v lost (N - p + i)) → (∀ j, ownOf oa j → n0 ≤ j) →
    ∃ (oa' : Option (Nat × Nat)) (oc' : Bool) (h' : AHeap) (nx' : Nat), F20_L2 (callP Try.prog keepT k0) Y0 lf f xa N xc ga t gc (some (bb, 0)) oa (N - p + i) oc (p : Int) (i : Int) h nx = F20_L3 (callP Try.prog keepT k0) Y0 lf lf xa N xc (some (bb, 0)) oa' N oc' none 0 false ga t gc ((t : Nat) : Int) 0 h' nx' ∧ Ext h0 n0 h' nx' ∧ OwnRows (BlkRow .u8 h' nx' (ownOf oa') W) h' nx' oa' 1 (allV N p W v lost N) ∧ (∀ j, ownOf oa' j → n0 ≤ j) := by
  induction m with
  | zero =>
    intro f i oa oc h nx e hf x o lo
    obtain ⟨f, rfl⟩ : ∃ m, f = m + 1 := ⟨f - 1, by omega⟩
    obtain rfl : i = p := by omega
    rw [show N - i + i = N from by omega] at o ⊢
    rw [F20_L2_eq, if_neg (by simp)]
    exact ⟨oa, oc, h, nx + 5, rfl, x.le (by omega), o.go (D := fun _ => False) ⟨by omega, fun _ _ _ => rfl⟩ (fun _ _ q => q) (fun r c bb => bb.go (Y := fun _ => False) ⟨by omega, fun _ _ _ => rfl⟩ (fun _ _ q => q.elim) (fun _ _ q => q)), lo⟩
  | succ m ih =>
    intro f i oa oc h nx e hf x o lo
    obtain ⟨f, rfl⟩ : ∃ m, f = m + 1 := ⟨f - 1, by omega⟩
    have hbh := (x.2 bb hbl).trans hb
    obtain ⟨da, dm, dc, l, r1, r2, r3, r4, r5⟩ := piece_rd (R := AV × AHeap × Nat) (sp.ext x) (cl.ext x) hw (c := i) (by omega)
    obtain ⟨h5, E, e6, s1, s2, s4, s5, s6, s7⟩ := fill_step (k0 := k0) hk0 sa N sc (p : Int) hW r2 r3 dc oc (by rw [allV_len]; omega) x r4 o lo 11 (nx + 27) (by omega)
    rw [allV_len] at s2 s4
    have hcol : colOf N p (N - p + i) = i := by unfold colOf; rw [if_neg (by omega)]; omega
    rw [r5] at s5
    have s5' := s5
    rw [show fillV W v lost i = fillV W v lost (colOf N p (N - p + i)) from by rw [hcol], ← allV_succ] at s5'
    rw [F20_L2_eq, if_pos (by simp; omega)]
    simp only [mst_]
    rw [ldr_all hbh (by simp)]
    simp only [mst_]
    rw [r1]
    simp only [mst_]
    rw [e6]
    simp only [mst_]
    rw [s1, some_bind, s2, some_bind, s4, wsucc (by omega), Nat.add_assoc]
    exact ih f (i + 1) E.a E.c _ (nx + 27) (by omega) (by omega) s6 s5' s7

end Go.Proofs.Ytalfcokiooaliaa.T

namespace Go.Proofs.Ytalfcokiooaliaa.T
open Go Go.RowKit Go.Proofs

def posOf (N p c : Nat) : Nat := (c + N - p) % N
theorem pos_lt {N p c : Nat} (h : 0 < N) : posOf N p c < N := Nat.mod_lt _ h
theorem pos_ge {N p c : Nat} (h : p ≤ c) (hc : c < N) : posOf N p c = c - p := by
  unfold posOf
  rw [show c + N - p = (c - p) + N from by omega, Nat.add_mod_right, Nat.mod_eq_of_lt (by omega)]
theorem pos_lo {N p c : Nat} (h : c < p) (hp : p < N) : posOf N p c = N - p + c := by
  unfold posOf
  rw [Nat.mod_eq_of_lt (by omega)]; omega
theorem col_pos {N p c : Nat} (hp : p < N) (hc : c < N) : colOf N p (posOf N p c) = c := by
  by_cases h : c < p
  · rw [pos_lo h hp]; unfold colOf; rw [if_neg (by omega)]; omega
  · rw [pos_ge (by omega) hc]; unfold colOf; rw [if_pos (by omega)]; omega
theorem pos_col {N p j : Nat} (hp : p < N) (hj : j < N) : posOf N p (colOf N p j) = j := by
  unfold colOf
  by_cases h : j < N - p
  · rw [if_pos h, pos_ge (by omega) (by omega)]; omega
  · rw [if_neg h, pos_lo (by omega) hp]; omega
theorem col_lt {N p j : Nat} (hp : p < N) (hj : j < N) : colOf N p j < N := by unfold colOf; split <;> omega

theorem places_loop (call : YldF → CallF) (lf : Nat) {N p t : Nat} (hN : N ≤ 8) (hpN : p < N) {gs : List Nat} (ht : gs.length = t) (htl : t ≤ 100) (hmem : ∀ k ∈ gs, k < N) {W : Nat} {xa ya ga sa : Option (Nat × Nat)} (xc yc gc sc : Bool) (yn : Nat) {bb : Nat} {h0 : AHeap} {n0 : Nat}
    (hb : h0 bb = some ⟨[.slice sa N sc, .int .i64 (p : Int), .int .i64 ((W : Nat) : Int)], 3, true⟩) (hbl : bb < n0) (sg : Sl h0 n0 ga t 1 (ints .i64 (nints gs))) (m : Nat) :
    ∀ (f i : Nat) (oa : Option (Nat × Nat)) (oc : Bool) (h : AHeap) (nx : Nat), i + m = t → m < f → Ext h0 n0 h nx → OwnRows NRow h nx oa 1 ((gs.take i).map (posOf N p)) → (∀ j, ownOf oa j → n0 ≤ j) →
    ∃ (f' : Nat) (oa' : Option (Nat × Nat)) (oc' : Bool) (h' : AHeap) (nx' : Nat), F20_L3 call Y0 lf f xa N xc (some (bb, 0)) ya yn yc oa i oc ga t gc ((t : Nat) : Int) (i : Int) h nx = F20_L3 call Y0 lf (f' + 1) xa N xc (some (bb, 0)) ya yn yc oa' t oc' ga t gc ((t : Nat) : Int) (t : Int) h' nx' ∧ Ext h0 n0 h' nx' ∧ OwnRows NRow h' nx' oa' 1 (gs.map (posOf N p)) := by
  induction m with
  | zero =>
    intro f i oa oc h nx e hf x o lo
    obtain ⟨f, rfl⟩ : ∃ m, f = m + 1 := ⟨f - 1, by omega⟩
    obtain rfl : i = t := by omega
    rw [List.take_of_length_le (by omega)] at o
    exact ⟨f, oa, oc, h, nx, rfl, x, o⟩
  | succ m ih =>
    intro f i oa oc h nx e hf x o lo
    obtain ⟨f, rfl⟩ : ∃ m, f = m + 1 := ⟨f - 1, by omega⟩
    have hi : i < t := by omega
    have y := x.1
    have hbh := (x.2 bb hbl).trans hb
    obtain ⟨k, hk⟩ : ∃ k, gs[i]'(by omega) = k := ⟨_, rfl⟩
    have hkN : k < N := hmem k (by rw [← hk]; exact List.getElem_mem _)
    have hpos : Int.tmod (wrapA .i64 (wrapA .i64 ((k : Int) - (p : Int)) + ((N : Nat) : Int))) ((N : Nat) : Int) = ((posOf N p k : Nat) : Int) := by
      rw [wA (x := (k : Int) - (p : Int)) (by omega) (by omega), wA (by omega) (by omega), show (k : Int) - (p : Int) + ((N : Nat) : Int) = ((k + N - p : Nat) : Int) from by omega]
      exact (Int.ofNat_tmod _ _).symm
    have tk : gs.take (i + 1) = gs.take i ++ [k] := by rw [← hk]; exact List.take_succ_eq_append_getElem (by omega)
    have tl : ((gs.take i).map (posOf N p)).length = i := by rw [List.length_map, List.length_take]; omega
    obtain ⟨E, s1, s2, s3, s4, s5, s6, s7, s8, _⟩ := o.pushE x lo oc (bytes := 8) (id := nx + 15) (id2 := nx + 16) (x := posOf N p k) (r := [AV.int .i64 ((posOf N p k : Nat) : Int)]) rfl rfl (growOk_of (by clear hpos; omega) (by omega)) (by clear hpos; omega) (by clear hpos; omega)
    rw [tl] at s2 s4
    rw [F20_L3_eq, if_pos (by clear hpos; simpa using hi), (sg.ext x).readN ht (by clear hpos; omega)]
    simp only [mst_]
    rw [hk, ld_at hbh rfl]
    simp only [mst_]
    rw [if_neg (by clear hpos; omega), hpos]
    clear hpos
    rw [s1, some_bind, s2, some_bind, s4, wsucc (by omega)]
    refine ih f (i + 1) E.a E.c _ (nx + 20) (by omega) (by omega) (s7.le (by omega)) ?_ (fun j z => by have := s8 j z; omega)
    rw [tk, List.map_append]
    exact s5.go (D := fun _ => False) ⟨by omega, fun _ _ _ => rfl⟩ (fun _ _ q => q) (fun _ _ q => q)

theorem mat_at1 {h : AHeap} {nx w ob : Nat} {kd : IntKind} {M : List (List Nat)} (m : Mat h nx kd (some (ob, 0)) M w) {i : Nat} (hi : i < M.length) :
    ∃ q : Rw, M[i].length = w ∧ Sl h nx q.1 w 1 (ints kd (nints M[i])) ∧ ob < nx ∧ ∀ {R : Type} (K : AV → Option R), (ldA h ob (0 + Int.toNat (i : Int) * 1)).bind K = K (.slice q.1 w q.2) := by
  obtain ⟨qs, r, s⟩ := m
  obtain ⟨q, e1, e2, e3⟩ := r.get hi
  obtain ⟨pp, z1, z2, z3⟩ := s.at1 hi (v := rcell w q) (by rw [List.getElem?_map, e1]; rfl)
  obtain rfl := Option.some.inj z1
  exact ⟨q, e2, e3, z2, fun K => z3 K⟩

def flatO (M : List (List Nat)) (d p n i : Nat) : List Nat := ((List.range i).map fun j => (M.getD j []).take (bw d p n (p + j))).flatten
theorem flatO_succ (M : List (List Nat)) (d p n i : Nat) : flatO M d p n (i + 1) = flatO M d p n i ++ (M.getD i []).take (bw d p n (p + i)) := by simp [flatO, List.range_succ]
theorem flatO_len {M : List (List Nat)} {d p n W : Nat} (g : Geo d p n) (hW : W = bw d p n 0) : ∀ i, i ≤ colN d p n - p → (∀ j, j < i → (M.getD j []).length = W) → (flatO M d p n i).length = offC d p n i * 128
  | 0, _, _ => by simp [flatO, offC]
  | i + 1, h, k => by
    have g8 := g.N8
    rw [flatO_succ, List.length_append, flatO_len g hW i (by omega) fun j hj => k j (by omega), List.length_take, k i (by omega)]
    have := bw_le g (c := p + i) (by omega)
    show _ = (offC d p n i + lenC d p n (p + i)) * 128
    unfold bw at *; omega

theorem out_loop4 {k0 : Nat} (hk0 : 1 ≤ k0) (lf : Nat) {d p a n : Nat} (g : Geo d p n) (hn32 : n ≤ 32) {M : List (List Nat)} (hML : M.length = colN d p n) {xa sa : Option (Nat × Nat)} (xc sc yc : Bool) {bb ob : Nat} {h0 : AHeap} {n0 : Nat}
    (hb : h0 bb = some ⟨[.slice sa (colN d p n) sc, .int .i64 (p : Int), .int .i64 ((bw d p n 0 : Nat) : Int)], 3, true⟩) (hbl : bb < n0) (shp : Shp h0 n0 sa d p a n) (mt : Mat h0 n0 .u8 (some (ob, 0)) M (bw d p n 0)) (m : Nat) :
    ∀ (f i : Nat) (oa : Option (Nat × Nat)) (oc : Bool) (h : AHeap) (nx : Nat), i + m = colN d p n - p → m < f → Ext h0 n0 h nx → OwnSl h n0 nx oa (offC d p n i * 128) 1 (ints .u8 (nints (flatO M d p n i))) →
    ∃ oa' oc' h' nx', F20_L4 (callP Try.prog keepT k0) Y0 lf f xa (colN d p n) xc (some (bb, 0)) (some (ob, 0)) (colN d p n) yc oa (offC d p n i * 128) oc ((p + i : Nat) : Int) h nx = some (.slice oa' (n * 128) oc', h', nx') ∧ Ext h0 n0 h' nx' ∧ OwnSl h' n0 nx' oa' (n * 128) 1 (ints .u8 (nints (flatO M d p n (colN d p n - p)))) := by
  have gp := g.pN
  have g8 := g.N8
  have W4 := bw_max g
  induction m with
  | zero =>
    intro f i oa oc h nx e hf x o
    obtain ⟨f, rfl⟩ : ∃ m, f = m + 1 := ⟨f - 1, by omega⟩
    obtain rfl : i = colN d p n - p := by omega
    rw [g.sum] at o ⊢
    rw [F20_L4_eq, if_neg (by simp; omega)]
    exact ⟨oa, oc, h, nx + 6, rfl, x.le (by omega), o.le (by omega)⟩
  | succ m ih =>
    intro f i oa oc h nx e hf x o
    obtain ⟨f, rfl⟩ : ∃ m, f = m + 1 := ⟨f - 1, by omega⟩
    have y := x.1
    have hi : i < colN d p n - p := by omega
    have hcN : p + i < colN d p n := by omega
    have ble := bw_le g (c := p + i) (by omega)
    have go := g.off hi
    have hbh := (x.2 bb hbl).trans hb
    obtain ⟨q, q1, q2, q3, q4⟩ := mat_at1 (mt.ext x) (i := i) (by omega)
    obtain ⟨h1, hh1⟩ : ∃ h1, h1 = h.put (nx + 18) (some ⟨[.slice sa (colN d p n) sc, .int .i64 (p : Int), .int .i64 ((bw d p n 0 : Nat) : Int)], 3, true⟩) := ⟨_, rfl⟩
    have hsz := size_spec (f := k0) hk0 g sc (p : Int) ((bw d p n 0 : Nat) : Int) (shp.ext (x.le (show nx ≤ nx + 18 by omega))) hcN
    rw [← hh1] at hsz
    obtain ⟨w, hw⟩ : ∃ w, bw d p n (p + i) = w := ⟨_, rfl⟩
    have hw' : lenC d p n (p + i) * 128 = w := hw
    rw [hw'] at hsz
    rw [hw] at ble
    have x1 : Ext h nx h1 nx := ⟨by omega, fun j hj => by rw [hh1, put_ne (by omega)]⟩
    obtain ⟨u1, u2, _⟩ := (q2.ext x1).cut q.2 (lo := 0) (hi := w) (l := none) (r := some (.int .i64 ((w : Nat) : Int))) (by omega) ble bound_none (bound_some ble)
    have e3 : ((ints .u8 (nints (M[i]'(by omega)))).drop (0 * 1)).take ((w - 0) * 1) = ints .u8 (nints ((M.getD i []).take w)) := by
      rw [getD_at (by omega), nints_take, ints, ints, List.map_take, Nat.zero_mul, List.drop_zero, Nat.sub_zero, Nat.mul_one]
    rw [e3, Nat.sub_zero] at u2
    rw [Nat.sub_zero] at u1
    obtain ⟨rd, c1⟩ := u2.src'
    have o1 : OwnSl h1 n0 nx oa (offC d p n i * 128) 1 (ints .u8 (nints (flatO M d p n i))) := o.ext x1
    obtain ⟨E, f1, f2, f3, f4, _⟩ := o1.appendS oc (bytes := 1) (id := nx + 16) (k := w) (ws := ints .u8 (nints ((M.getD i []).take w))) (rd := rd) u2.1 (growOk_of (by have := g.l32; have := offC_mono d p n (i := i) (colN d p n - p) (by omega); rw [g.sum] at this; omega) (by omega)) (by omega) (by omega)
    have ak : AllKept [(h, h1, [bb]), (h, h1, [ob])] := by
      refine ⟨fun z hz => ?_, fun z hz => ?_, trivial⟩
      · simp only [List.mem_singleton] at hz; subst hz; exact x1.2 _ (by omega)
      · simp only [List.mem_singleton] at hz; subst hz; exact x1.2 _ q3
    rw [F20_L4_eq, if_pos (by simp; omega)]
    simp only [mst_]
    rw [ld_at hbh rfl]
    simp only [mst_]
    rw [show wrapA .i64 (((p + i : Nat) : Int) - (p : Int)) = (i : Int) from by rw [wA (by omega) (by omega)]; omega, if_pos ⟨by omega, by omega⟩, q4]
    simp only [mst_]
    rw [ldr_all hbh (by simp)]
    simp only [mst_]
    rw [hsz]
    simp only [mst_]
    rw [u1, some_bind]
    dsimp only
    rw [c1, some_bind, f1, some_bind]
    rw [ifKept_pos ak, f2, wsucc (by omega), Nat.add_assoc, show offC d p n i * 128 + w = offC d p n (i + 1) * 128 from by
      show _ = (offC d p n i + lenC d p n (p + i)) * 128
      omega]
    refine ih f (i + 1) E.a E.c _ (nx + 18 + 10 + 3) (by omega) (by omega) ⟨by omega, fun j hj => by rw [f4.2 j hj, x1.2 j (by omega), x.2 j hj]⟩ ?_
    rw [flatO_succ, hw]
    have : ints .u8 (nints (flatO M d p n i ++ (M.getD i []).take w)) = ints .u8 (nints (flatO M d p n i)) ++ ints .u8 (nints ((M.getD i []).take w)) := by simp [ints, nints]
    rw [this]
    have f3' := f3.le (show nx + 16 + 1 ≤ nx + 18 + 10 + 3 by omega)
    rw [show offC d p n i * 128 + w = offC d p n (i + 1) * 128 from by
      show _ = (offC d p n i + lenC d p n (p + i)) * 128
      omega] at f3'
    exact f3'

end Go.Proofs.Ytalfcokiooaliaa.T

namespace Go.Proofs.Ytalfcokiooaliaa.T
open Go Go.RowKit Go.Proofs

theorem Torn.congr {h : AHeap} {nx n w : Nat} {a : Option (Nat × Nat)} {g : Nat → Bool} {D D' : Nat → List Nat} (t : Torn h nx a n g w D) (e : ∀ k, k < n → g k = false → D k = D' k) : Torn h nx a n g w D' := by
  obtain ⟨P, s, k⟩ := t
  exact ⟨P, s, fun i hi hg => by rw [← e i hi hg]; exact k i hi hg⟩
def gP (N p : Nat) (gs : List Nat) (j : Nat) : Bool := decide (j ∈ gs.map (posOf N p))
def DaV (N p W : Nat) (v : Nat → List Nat) (lost : Nat → Bool) (j : Nat) : List Nat := fillV W v lost (colOf N p j)
theorem pos_nodup {N p : Nat} (hp : p < N) : ∀ {gs : List Nat}, gs.Nodup → (∀ k ∈ gs, k < N) → (gs.map (posOf N p)).Nodup
  | [], _, _ => List.nodup_nil
  | x :: gs, hn, hm => by
    have hn := List.nodup_cons.1 hn
    rw [List.map_cons]
    refine List.nodup_cons.2 ⟨fun hx => ?_, pos_nodup hp hn.2 fun k hk => hm k (List.mem_cons_of_mem _ hk)⟩
    obtain ⟨y, hy, e⟩ := List.mem_map.1 hx
    have e1 := col_pos hp (hm y (List.mem_cons_of_mem _ hy))
    have e2 := col_pos hp (hm x List.mem_cons_self)
    rw [e, e2] at e1
    exact hn.1 (e1 ▸ hy)
theorem gP_pos {N p : Nat} (hp : p < N) {gs : List Nat} (hm : ∀ k ∈ gs, k < N) {c : Nat} (hc : c < N) : gP N p gs (posOf N p c) = decide (c ∈ gs) := by
  unfold gP
  rw [Bool.eq_iff_iff]
  simp only [decide_eq_true_eq, List.mem_map]
  constructor
  · rintro ⟨y, hy, e⟩
    have e1 := col_pos hp (hm y hy)
    rw [e, col_pos hp hc] at e1
    rw [e1]; exact hy
  · exact fun hc => ⟨c, hc, rfl⟩
theorem gP_col {N p : Nat} (hp : p < N) {gs : List Nat} (hm : ∀ k ∈ gs, k < N) {j : Nat} (hj : j < N) : gP N p gs j = decide (colOf N p j ∈ gs) := by
  rw [← gP_pos hp hm (col_lt hp hj), pos_col hp hj]

theorem fillV_len {W : Nat} {v : Nat → List Nat} {lost : Nat → Bool} {c : Nat} (h : lost c = false → (v c).length ≤ W) : (fillV W v lost c).length = W := by
  unfold fillV
  by_cases hl : lost c = true
  · rw [if_pos hl]; simp
  · rw [if_neg hl]; exact padW_len (h (by simpa using hl))
theorem fillV_small {W : Nat} {v : Nat → List Nat} {lost : Nat → Bool} {c : Nat} (h : lost c = false → Small (v c)) : Small (fillV W v lost c) := by
  unfold fillV
  by_cases hl : lost c = true
  · rw [if_pos hl]
    intro x hx; rw [List.eq_of_mem_replicate hx]; omega
  · rw [if_neg hl]; exact padW_small (h (by simpa using hl))

theorem goodV {h : AHeap} {nx N p W : Nat} {w : Nat → Nat} {v : Nat → List Nat} {lost : Nat → Bool} {P : Nat → Tri} (hpN : p < N) (hw : ∀ k, k < N → w k ≤ W) (cl : ColsL h nx N w v lost P) (g : Nat → Bool) : GoodA g (DaV N p W v lost) N W where
  len := fun k hk _ => fillV_len fun hl => by
    have c := col_lt hpN hk
    rw [(cl.c _ c hl).2.1]; exact hw _ c
  sm := fun k hk _ => fillV_small fun hl => (cl.c _ (col_lt hpN hk) hl).2.2.1

theorem data_spec {f : Nat} (hf : 5700 ≤ f) {d p a n : Nat} (g : Geo d p n) (hp : 1 ≤ p) (hp3 : p ≤ 3) (hn32 : n ≤ 32) {v : Nat → List Nat} {lost : Nat → Bool} {P : Nat → Tri} {xa sa ga : Option (Nat × Nat)} (xc sc gc : Bool) {gs : List Nat} {t : Nat} {h : AHeap} {nx : Nat}
    (shp : Shp h nx sa d p a n) (sp : Sl h nx xa (colN d p n) 2 (prows P lost (colN d p n)).flatten) (cl : ColsL h nx (colN d p n) (bw d p n) v lost P) (ht : gs.length = t) (hmem : ∀ k ∈ gs, k < colN d p n) (hnd : gs.Nodup) (htp : t ≤ p) (sg : Sl h nx ga t 1 (ints .i64 (nints gs))) :
    ∃ us oa oc h' nx', callP Try.prog keepT f Y0 20 [.agg [.slice sa (colN d p n) sc, .int .i64 (p : Int), .int .i64 ((bw d p n 0 : Nat) : Int)], .slice xa (colN d p n) xc, .slice ga t gc] h nx = some (.slice oa (n * 128) oc, h', nx') ∧ Ext h nx h' nx' ∧
      Sl h' nx' oa (n * 128) 1 (ints .u8 (nints (flatO (solA (gP (colN d p n) p gs) (DaV (colN d p n) p (bw d p n 0) v lost) (colN d p n - p) (bw d p n 0) us us.length) d p n (colN d p n - p)))) ∧
      us.length = ((List.range (colN d p n - p)).filter (gP (colN d p n) p gs)).length ∧ us.Pairwise (· < ·) ∧ (∀ u ∈ us, u < p ∧ gP (colN d p n) p gs (colN d p n - p + u) = false) ∧ ∀ pp, oa = some pp → nx ≤ pp.1 := by
  obtain ⟨f, rfl⟩ : ∃ m, f = m + 1 := ⟨f - 1, by omega⟩
  have gp := g.pN
  have g8 := g.N8
  have W4 := bw_max g
  have hw : ∀ k, k < colN d p n → bw d p n k ≤ bw d p n 0 := fun k hk => bw_le g (by omega)
  have hz : madeA [AV.slice none 0 false] (Int.toNat 0 * 1) = [] := by rfl
  obtain ⟨h2, hh2⟩ : ∃ h2, h2 = AHeap.put (AHeap.put h nx (some ⟨[.slice sa (colN d p n) sc, .int .i64 (p : Int), .int .i64 ((bw d p n 0 : Nat) : Int)], 3, true⟩)) (nx + 4) (some ⟨[], 1, true⟩) := ⟨_, rfl⟩
  have hb2 : h2 nx = some ⟨[.slice sa (colN d p n) sc, .int .i64 (p : Int), .int .i64 ((bw d p n 0 : Nat) : Int)], 3, true⟩ := by rw [hh2, put_ne (by omega), put_same]
  have x2 : Ext h nx h2 (nx + 4) := ⟨by omega, fun j hj => by rw [hh2, put_ne (by omega), put_ne (by omega)]⟩
  rw [F20_eq, if_pos (by simp; omega), hz]
  dsimp only
  rw [← hh2, ld_at hb2 rfl]
  simp only [mst_]
  have o2 : OwnRows (BlkRow .u8 h2 (nx + 9) (ownOf (some (nx + 4, 0))) (bw d p n 0)) h2 (nx + 9) (some (nx + 4, 0)) 1 (allV (colN d p n) p (bw d p n 0) v lost 0) :=
    ⟨[], rfl, (fun r hr => by cases hr), .inr ⟨nx + 4, rfl, by omega, by rw [hh2, put_same]; rfl⟩⟩
  obtain ⟨oa3, oc3, h3, n3, e3, x3, o3, l3⟩ := data_first (k0 := f) (by omega) f g8 gp W4 hw (lost := lost) (P := P) (xa := xa) (ga := ga) xc gc sc t hb2 (by omega) (sp.ext x2) (cl.ext x2) (colN d p n - p) f 0 (some (nx + 4, 0)) (0 == ((colN d p n : Nat) : Int)) h2 (nx + 9) (by omega) (by omega) ⟨by omega, fun _ _ => rfl⟩ o2 (fun j ⟨o, z⟩ => by
    have := congrArg Prod.fst (Option.some.inj z)
    simp only at this; omega)
  change F20_L1 _ _ _ _ _ _ _ _ _ _ _ (some (nx + 4, 0)) (Int.toNat 0) _ ((p : Nat) : Int) _ _ = _ at e3
  rw [e3]
  obtain ⟨oa4, oc4, h4, n4, e4, x4, o4, l4⟩ := data_par (k0 := f) (by omega) f g8 gp W4 hw (lost := lost) (P := P) (xa := xa) (ga := ga) xc gc sc t hb2 (by omega) (sp.ext x2) (cl.ext x2) p f 0 oa3 oc3 h3 n3 (by omega) (by omega) x3 o3 l3
  rw [Nat.add_zero, show ((0 : Nat) : Int) = 0 from rfl] at e4
  rw [e4]
  have y3 := x3.1
  have y4 := x4.1
  have xx4 : Ext h nx h4 n4 := ⟨by omega, fun j hj => by rw [x4.2 j (by omega), x2.2 j hj]⟩
  have hb4 : h4 nx = some ⟨[.slice sa (colN d p n) sc, .int .i64 (p : Int), .int .i64 ((bw d p n 0 : Nat) : Int)], 3, true⟩ := (x4.2 nx (by omega)).trans hb2
  obtain ⟨f5, pa, pc, h5, n5, e5, x5, o5⟩ := places_loop (callP Try.prog keepT f) f g8 gp ht (by omega) hmem (xa := xa) (ya := oa4) xc oc4 gc sc (colN d p n) hb4 (by omega) (sg.ext xx4) t f 0 none false h4 n4 (by omega) (by omega) (Ext.refl _ _) (OwnRows.nil _ _ _ _) (fun j ⟨_, z⟩ => by cases z)
  rw [show ((0 : Nat) : Int) = 0 from rfl] at e5
  have y5 := x5.1
  have hb5 := (x5.2 nx (by omega)).trans hb4
  rw [e5, F20_L3_eq, if_neg (by simp)]
  simp only [mst_]
  rw [ld_at hb5 rfl]
  simp only [mst_]
  have xx5 : Ext h nx h5 n5 := xx4.trans x5
  have pl : (gs.map (posOf (colN d p n) p)).length = t := by rw [List.length_map, ht]
  have mm : Mat h5 (n5 + 11) .u8 oa4 (allV (colN d p n) p (bw d p n 0) v lost (colN d p n)) (bw d p n 0) := by
    have := o4.mat (D := fun x => x) (kd := .u8) (w := bw d p n 0) fun x _ r b => b.rw
    rw [List.map_id'] at this
    exact this.ext (x5.le (by omega))
  have T5 : Torn h5 (n5 + 11) oa4 (colN d p n) (gP (colN d p n) p gs) (bw d p n 0) (DaV (colN d p n) p (bw d p n 0) v lost) := by
    refine (Torn.of mm (allV_len _ _ _ _ _ _) (gP (colN d p n) p gs)).congr fun k hk _ => ?_
    simp [allV, DaV, List.getD, List.getElem?_range hk]
  obtain ⟨us, ob, obc, h6, n6, R, u1, u2, u3, e6, x6, m6, r6⟩ := rebuild_any (f := f) (by omega) (n := colN d p n - p) (p := p) (N := colN d p n) (by omega) (by omega) hp hp3 (by omega) (goodV gp hw cl (gP (colN d p n) p gs)) W4 pl (fun k hk => by
    obtain ⟨y, _, rfl⟩ := List.mem_map.1 hk
    exact pos_lt (by omega)) (pos_nodup gp hnd hmem) (fun j _ => rfl) oc4 pc T5 ((NRow.sl o5 pl).ext ⟨by omega, fun _ _ => rfl⟩) htp
  have y6 := x6.1
  have hb6 := (x6.2 nx (by omega)).trans hb5
  rw [e6]
  simp only [mst_]
  rw [ld_at hb6 rfl]
  simp only [mst_]
  have xx6 : Ext h nx h6 (n6 + 4) := ⟨by omega, fun j hj => by rw [x6.2 j (by omega), xx5.2 j hj]⟩
  obtain ⟨oa7, oc7, h7, n7, e7, x7, o7⟩ := out_loop4 (k0 := f) (by omega) f g hn32 (M := solA (gP (colN d p n) p gs) (DaV (colN d p n) p (bw d p n 0) v lost) (colN d p n - p) (bw d p n 0) us us.length ++ R) (by rw [List.length_append, solA_len, r6]; omega) (xa := xa) xc sc obc hb6 (by omega) (shp.ext xx6) (m6.ext ⟨by omega, fun _ _ => rfl⟩) (colN d p n - p) f 0 none false h6 (n6 + 4) (by omega) (by omega) (Ext.refl _ _) (OwnSl.nil _ _ _ _)
  change F20_L4 _ _ _ _ _ _ _ _ _ _ _ none 0 false ((p : Nat) : Int) _ _ = _ at e7
  rw [e7]
  have hflat : flatO (solA (gP (colN d p n) p gs) (DaV (colN d p n) p (bw d p n 0) v lost) (colN d p n - p) (bw d p n 0) us us.length ++ R) d p n (colN d p n - p) = flatO (solA (gP (colN d p n) p gs) (DaV (colN d p n) p (bw d p n 0) v lost) (colN d p n - p) (bw d p n 0) us us.length) d p n (colN d p n - p) := by
    unfold flatO
    congr 1
    refine List.map_congr_left fun j hj => ?_
    have hj := List.mem_range.1 hj
    simp only [List.getD, List.getElem?_append_left (show j < (solA (gP (colN d p n) p gs) (DaV (colN d p n) p (bw d p n 0) v lost) (colN d p n - p) (bw d p n 0) us us.length).length by rw [solA_len]; exact hj)]
  rw [hflat] at o7
  have y7 := x7.1
  refine ⟨us, oa7, oc7, h7, n7, rfl, ⟨by omega, fun j hj => by rw [x7.2 j (by omega), xx6.2 j hj]⟩, o7.sl, u1, u2, u3, fun pp hpp => ?_⟩
  rcases o7.2 with ⟨z, _⟩ | ⟨i, z, z1, _⟩
  · rw [z] at hpp; cases hpp
  · rw [z] at hpp
    obtain rfl := Option.some.inj hpp
    simp only; omega

end Go.Proofs.Ytalfcokiooaliaa.T

namespace Go.Proofs.Ytalfcokiooaliaa.T
open Go Go.RowKit Go.Proofs


/-! ### stripe.Gather: one try -/
/-- An append to a block of one's own, the new block anywhere. -/
theorem app_any {h : AHeap} {b id n k bytes : Nat} {vs ws : List AV} {c : Bool} {rd : List Nat} (hb : h b = some ⟨vs, 1, true⟩) (hl : vs.length = n) (hw : ws.length = k) (hg : growOk (n + k) bytes = true) (hne : id ≠ b) :
    ∃ e, appD h (some (b, 0)) n c 1 bytes id (k, ws, rd) = some e ∧ e.n = n + k ∧ (∃ o, e.a = some (o, 0) ∧ (o = b ∨ o = id) ∧ (h.puts e.sets) o = some ⟨vs ++ ws, 1, true⟩) ∧ (∀ j, j ≠ b → j ≠ id → (h.puts e.sets) j = h j) ∧ ∀ j ∈ idsOf e.sets, j = b ∨ j = id := by
  unfold appD
  by_cases hk : k = 0
  · subst hk
    have : ws = [] := List.length_eq_zero_iff.1 hw
    subst this
    refine ⟨⟨some (b, 0), n, c, [], rd⟩, by simp, rfl, ⟨b, rfl, .inl rfl, by simpa using hb⟩, fun j _ _ => rfl, fun j hj => by cases hj⟩
  · rw [if_neg hk, if_pos hg]
    simp only [hb, Option.bind_some]
    rw [if_pos (by simp [hl])]
    have ht : (vs.drop 0).take (n * 1) = vs := by rw [List.drop_zero, Nat.mul_one, List.take_of_length_le (by omega)]
    rw [ht]
    cases c with
    | true =>
      refine ⟨_, by rw [if_pos rfl], rfl, ⟨id, rfl, .inr rfl, by simp⟩, fun j h1 h2 => by simp [put_ne h2], fun j hj => by simp [idsOf] at hj; exact .inr hj⟩
    | false =>
      refine ⟨⟨some (id, 0), n + k, false, [(b, none), (id, some ⟨vs ++ ws, 1, true⟩)], b :: rd⟩, by simp, rfl, ⟨id, rfl, .inr rfl, by simp⟩, fun j h1 h2 => by simp [put_ne h1, put_ne h2], fun j hj => by simp [idsOf] at hj; exact hj⟩

/-- A copy of numbers, to which others are appended. -/
theorem clone_app {f : Nat} (hf : 1 ≤ f) {L q : List Nat} {la ya : Option (Nat × Nat)} {n m : Nat} (hL : L.length = n) (hq : q.length = m) (hn : n ≤ 1000) (hm : m ≤ 1000) (lc : Bool) {h : AHeap} {nx i6 : Nat} (ol : OwnRows NRow h nx la 1 L) (sy : Sl h nx ya m 1 (ints .i64 (nints q))) (h6 : nx ≤ i6) (h9 : i6 < nx + 9) :
    ∃ (ca : Option (Nat × Nat)) (cc : Bool) (h1 : AHeap) (n1 : Nat) (q27 : Nat × List AV × List Nat) (e : AE), callP Try.prog keepT f Y0 21 [.slice la n lc] h (nx + 9) = some (.slice ca n cc, h1, n1) ∧ Ext h (nx + 9) h1 n1 ∧ srcS h1 ya m 1 = some q27 ∧ appD h1 ca n cc 1 8 i6 q27 = some e ∧ e.n = n + m ∧ Sl (h1.puts e.sets) n1 e.a (n + m) 1 (ints .i64 (nints (L ++ q))) ∧ (∀ j, j < nx → (h1.puts e.sets) j = h j) ∧ (∀ j ∈ idsOf e.sets, nx ≤ j) := by
  by_cases h0 : n = 0
  · subst h0
    have hL0 : L = [] := List.length_eq_zero_iff.1 hL
    subst hL0
    obtain ⟨f, rfl⟩ : ∃ m, f = m + 1 := ⟨f - 1, by omega⟩
    cases la with
    | none =>
      obtain ⟨rd, c2⟩ := (sy.ext (h' := h) (nx' := nx + 13) ⟨by omega, fun j hj => rfl⟩).src'
      obtain ⟨e, f1, f2, f3, f4⟩ := copyOf (h := h) (nx := nx) (n := m) (es := 1) (bytes := 8) (id := i6) (vs := ints .i64 (nints q)) (rd := rd) (by simp [nints_len, hq]) (growOk_of (by omega) (by omega)) h6
      have ids : ∀ j ∈ idsOf e.sets, nx ≤ j := fun j hj => (OwnSl.nil h nx nx 1).append_ids (by omega) f1 j hj
      refine ⟨none, false, h, nx + 9 + 4, _, e, by rw [F21_eq, if_pos (by simp)], ⟨by omega, fun _ _ => rfl⟩, c2, f1, by rw [f2]; omega, ?_, f4.2, ids⟩
      rw [Nat.zero_add, List.nil_append]
      exact (f3.le (by omega)).sl
    | some b =>
      have e36 : callP Try.prog keepT (f + 1) Y0 21 [.slice (some b) 0 lc] h (nx + 9) = some (.slice (some (nx + 9 + 3, 0)) 0 true, h.put (nx + 9 + 3) (some ⟨[], 1, true⟩), nx + 9 + 7) := by
        rw [F21_eq, if_neg (by simp)]
        have : srcS (h.put (nx + 9 + 3) (some ⟨[], 1, true⟩)) (some b) 0 1 = some (0, [], []) := by simp [srcS]
        dsimp only
        rw [this, some_bind]
        simp [appD]
      have x1 : Ext h (nx + 9) (h.put (nx + 9 + 3) (some ⟨[], 1, true⟩)) (nx + 9 + 7) := ⟨by omega, fun j hj => put_ne (by omega)⟩
      obtain ⟨rd, c2⟩ := (sy.ext (h' := h.put (nx + 9 + 3) (some ⟨[], 1, true⟩)) (nx' := nx + 9 + 7) ⟨by omega, fun j hj => x1.2 j (by omega)⟩).src'
      obtain ⟨e, f1, f2, ⟨o, f3, f4, f5⟩, f6, f7⟩ := app_any (b := nx + 9 + 3) (id := i6) (n := 0) (k := m) (ws := ints .i64 (nints q)) (bytes := 8) (c := true) (rd := rd) (put_same h (nx + 9 + 3) (some ⟨[], 1, true⟩)) (by simp) (by simp [nints_len, hq]) (growOk_of (by omega) (by omega)) (by omega)
      refine ⟨some (nx + 9 + 3, 0), true, _, nx + 9 + 7, _, e, e36, x1, c2, f1, by rw [f2], ?_, fun j hj => ?_, fun j hj => ?_⟩
      · rw [f3]
        exact Sl.ofBlk (own := true) (vs := ints .i64 (nints ([] ++ q))) (by simpa using f5) (by simp [nints_len, hq]) (by rcases f4 with z | z <;> omega)
      · rw [f6 j (by omega) (by omega), x1.2 j (by omega)]
      · rcases f7 j hj with z | z <;> omega
  · obtain ⟨id, cc, h1, n1, e1, i0, i1, ib, x1⟩ := clone_spec (f := f) hf hL (by omega) (by omega) lc ((NRow.sl ol hL).ext (nx' := nx + 9) ⟨by omega, fun _ _ => rfl⟩)
    have y1 := x1.1
    obtain ⟨rd, c2⟩ := (sy.ext (h' := h1) (nx' := n1) ⟨by omega, fun j hj => x1.2 j (by omega)⟩).src'
    obtain ⟨e, f1, f2, ⟨o, f3, f4, f5⟩, f6, f7⟩ := app_any (b := id) (id := i6) (n := n) (k := m) (ws := ints .i64 (nints q)) (bytes := 8) (c := cc) (rd := rd) ib (by simp [nints_len, hL]) (by simp [nints_len, hq]) (growOk_of (by omega) (by omega)) (by omega)
    refine ⟨some (id, 0), cc, h1, n1, _, e, e1, x1, c2, f1, f2, ?_, fun j hj => ?_, fun j hj => ?_⟩
    · rw [f3]
      exact Sl.ofBlk (own := true) (vs := ints .i64 (nints (L ++ q))) (by rw [f5]; simp [ints, nints]) (by simp [nints_len, hL, hq]) (by rcases f4 with z | z <;> omega)
    · rw [f6 j (by omega) (by omega), x1.2 j (by omega)]
    · rcases f7 j hj with z | z <;> omega

theorem pick_loop (call : YldF → CallF) (lf L0 rec : Nat) (X9 X10 X11 X12 X13 X14 X15 X17 : Option (Nat × Nat)) {kv kl yid : Nat} {ka : Option (Nat × Nat)} {KL q : List Nat} (hKL : KL.length = kl) (hkl : kl ≤ 100) (hq : ∀ x ∈ q, x < kl) (kc yc : Bool) {ql : Nat} (hql : q.length = ql) (hq1 : ql ≤ 100) {h0 : AHeap} {n0 : Nat} (hkv : h0 kv = some ⟨[.slice ka kl kc], 1, true⟩) (hkvl : kv < n0) (hne : kv ≠ yid) (sk : Sl h0 n0 ka kl 1 (ints .i64 (nints KL))) (hav : ∀ p, ka = some p → p.1 ≠ yid) (hyl : yid < n0) (m : Nat) :
    ∀ (f i : Nat) (h : AHeap) (nx : Nat), i + m = ql → m < f → Frm (fun j => j = yid) h0 n0 h nx → h yid = some ⟨ints .i64 (nints ((q.map fun x => KL.getD x 0).take i ++ q.drop i)), 1, true⟩ →
    ∃ (f' : Nat) (h' : AHeap) (nx' : Nat), F12_L5 call Y0 lf L0 rec f X9 X10 X11 X12 X13 X14 X15 X17 (some (kv, 0)) (some (yid, 0)) ql yc (some (yid, 0)) ql yc ((ql : Nat) : Int) (i : Int) h nx = F12_L5 call Y0 lf L0 rec (f' + 1) X9 X10 X11 X12 X13 X14 X15 X17 (some (kv, 0)) (some (yid, 0)) ql yc (some (yid, 0)) ql yc ((ql : Nat) : Int) (ql : Int) h' nx' ∧ Frm (fun j => j = yid) h0 n0 h' nx' ∧ h' yid = some ⟨ints .i64 (nints (q.map fun x => KL.getD x 0)), 1, true⟩ := by
  induction m with
  | zero =>
    intro f i h nx e hf x hb
    obtain ⟨f, rfl⟩ : ∃ m, f = m + 1 := ⟨f - 1, by omega⟩
    obtain rfl : i = ql := by omega
    rw [List.take_of_length_le (by rw [List.length_map]; omega), List.drop_of_length_le (by omega), List.append_nil] at hb
    exact ⟨f, h, nx, rfl, x, hb⟩
  | succ m ih =>
    intro f i h nx e hf x hb
    obtain ⟨f, rfl⟩ : ∃ m, f = m + 1 := ⟨f - 1, by omega⟩
    have hi : i < ql := by omega
    have y := x.1
    obtain ⟨k, hk⟩ : ∃ k, q[i]'(by omega) = k := ⟨_, rfl⟩
    have hkl' : k < kl := hq k (by rw [← hk]; exact List.getElem_mem _)
    have hml : (q.map fun x => KL.getD x 0).length = q.length := List.length_map _
    have hkvh : h kv = some ⟨[.slice ka kl kc], 1, true⟩ := (x.2 kv hkvl hne).trans hkv
    have sk' : Sl h nx ka kl 1 (ints .i64 (nints KL)) := sk.fr (D := fun j => j = yid) (fun _ p hp z => hav p hp z) x
    have hg : ((q.map fun x => KL.getD x 0).take i ++ q.drop i)[i]? = some k := by
      rw [fold_get (m := q.map fun x => KL.getD x 0) (d := q) (by omega) hml, hk]
    rw [F12_L5_eq, if_pos (by simpa using hi)]
    simp only [mst_]
    rw [if_pos ⟨by omega, by omega⟩, show 0 + Int.toNat (i : Int) * 1 = i from by omega, ld_at hb (nints_at hg)]
    simp only [mst_]
    rw [ld_at hkvh rfl]
    simp only [mst_]
    rw [sk'.readN hKL (by omega)]
    simp only [mst_]
    have st := st_to (h := h) (R := AV × AHeap × Nat) hb (v := .int .i64 ((KL[k]'(by omega) : Nat) : Int)) rfl (o := i) (by rw [nintsL, List.length_append, List.length_take, List.length_drop]; omega)
      (cs' := ints .i64 (nints ((q.map fun x => KL.getD x 0).take (i + 1) ++ q.drop (i + 1)))) (by
        rw [nints_set]
        have e1 : KL[k]'(by omega) = (q.map fun x => KL.getD x 0)[i]'(by omega) := by
          rw [List.getElem_map, hk, getD_at (by omega)]
        rw [e1, fold_set (m := q.map fun x => KL.getD x 0) (d := q) (by omega) hml])
    rw [if_pos ⟨by omega, by omega⟩, st, wsucc (by omega)]
    exact ih f (i + 1) _ (nx + 16) (by omega) (by omega) (x.put (.inl rfl) (by omega)) (put_same _ _ _)

end Go.Proofs.Ytalfcokiooaliaa.T

namespace Go.Proofs.Ytalfcokiooaliaa.T
open Go Go.RowKit Go.Proofs

theorem flatO_small {M : List (List Nat)} (sM : SmallM M) (d p n i : Nat) : Small (flatO M d p n i) := by
  intro x hx
  obtain ⟨r, hr, hxr⟩ := List.mem_flatten.1 hx
  obtain ⟨j, _, rfl⟩ := List.mem_map.1 hr
  have hx2 := List.mem_of_mem_take hxr
  by_cases hj : j < M.length
  · rw [getD_at hj] at hx2; exact sM _ (List.getElem_mem _) x hx2
  · simp [List.getD, List.getElem?_eq_none (by omega : M.length ≤ j)] at hx2

/-- The bytes of a try. -/
def tryB (d p n : Nat) (v : Nat → List Nat) (lost : Nat → Bool) (gs us : List Nat) : List Nat :=
  flatO (solA (gP (colN d p n) p gs) (DaV (colN d p n) p (bw d p n 0) v lost) (colN d p n - p) (bw d p n 0) us us.length) d p n (colN d p n - p)
def UsOk (d p n : Nat) (gs us : List Nat) : Prop :=
  us.length = ((List.range (colN d p n - p)).filter (gP (colN d p n) p gs)).length ∧ us.Pairwise (· < ·) ∧ ∀ u ∈ us, u < p ∧ gP (colN d p n) p gs (colN d p n - p + u) = false
theorem tryB_len {d p n : Nat} (g : Geo d p n) {h : AHeap} {nx : Nat} {v : Nat → List Nat} {lost : Nat → Bool} {P : Nat → Tri} (cl : ColsL h nx (colN d p n) (bw d p n) v lost P) (gs us : List Nat) : (tryB d p n v lost gs us).length = n * 128 := by
  have gp := g.pN
  have hw : ∀ k, k < colN d p n → bw d p n k ≤ bw d p n 0 := fun k hk => bw_le g (by have := g.N8; omega)
  have gA := goodV gp hw cl (gP (colN d p n) p gs)
  unfold tryB
  rw [flatO_len g rfl _ (Nat.le_refl _) fun j hj => ?_, g.sum]
  rw [getD_at (by rw [solA_len]; exact hj)]
  exact solA_row gA (by omega) _ (List.getElem_mem _)
theorem tryB_small {d p n : Nat} (g : Geo d p n) {h : AHeap} {nx : Nat} {v : Nat → List Nat} {lost : Nat → Bool} {P : Nat → Tri} (cl : ColsL h nx (colN d p n) (bw d p n) v lost P) (gs us : List Nat) : Small (tryB d p n v lost gs us) := by
  have gp := g.pN
  have hw : ∀ k, k < colN d p n → bw d p n k ≤ bw d p n 0 := fun k hk => bw_le g (by have := g.N8; omega)
  exact flatO_small (solA_small (goodV gp hw cl (gP (colN d p n) p gs)) (by omega)) _ _ _ _

def pickK (KL q : List Nat) : List Nat := q.map fun x => KL.getD x 0

theorem ints_nl (k : IntKind) (l : List Int) : (ints k l).length = l.length := by simp
theorem pick_all (call : YldF → CallF) (lf L0 rec : Nat) (hlf : 200 ≤ lf) (X9 X10 X11 X12 X13 X14 X15 X17 : Option (Nat × Nat)) {kv kl : Nat} {ka ya : Option (Nat × Nat)} {KL q : List Nat} (hKL : KL.length = kl) (hkl : kl ≤ 100) (hq : ∀ x ∈ q, x < kl) (kc yc : Bool) {ql nb : Nat} (hql : q.length = ql) (hq1 : ql ≤ 100) {h0 : AHeap} {n0 : Nat} (hkv : h0 kv = some ⟨[.slice ka kl kc], 1, true⟩) (hkvl : kv < nb) (sk : Sl h0 nb ka kl 1 (ints .i64 (nints KL))) (hav : ∀ p, ka = some p → p.1 < nb) (hnb : nb ≤ n0)
    (hy : ql = 0 ∨ ∃ yid, ya = some (yid, 0) ∧ nb ≤ yid ∧ yid < n0 ∧ h0 yid = some ⟨ints .i64 (nints q), 1, true⟩) :
    ∃ (f' : Nat) (h' : AHeap) (nx' : Nat), F12_L5 call Y0 lf L0 rec lf X9 X10 X11 X12 X13 X14 X15 X17 (some (kv, 0)) ya ql yc ya ql yc ((ql : Nat) : Int) 0 h0 n0 = F12_L5 call Y0 lf L0 rec (f' + 1) X9 X10 X11 X12 X13 X14 X15 X17 (some (kv, 0)) ya ql yc ya ql yc ((ql : Nat) : Int) (ql : Int) h' nx' ∧ n0 ≤ nx' ∧ (∀ j, j < n0 → (∀ o, ya = some (j, o) → ql = 0) → h' j = h0 j) ∧ Sl h' nx' ya ql 1 (ints .i64 (nints (pickK KL q))) := by
  by_cases h0q : ql = 0
  · subst h0q
    have hq0 : q = [] := List.length_eq_zero_iff.1 hql
    subst hq0
    obtain ⟨f, rfl⟩ : ∃ m, lf = m + 1 := ⟨lf - 1, by omega⟩
    exact ⟨f, h0, n0, rfl, Nat.le_refl _, fun _ _ _ => rfl, by simp [pickK, nints], fun j hj => by omega⟩
  · obtain ⟨yid, rfl, y0, y1, yb⟩ := hy.resolve_left h0q
    obtain ⟨f', h', nx', e', x', b'⟩ := pick_loop call lf L0 rec X9 X10 X11 X12 X13 X14 X15 X17 hKL hkl hq kc yc hql hq1 hkv (by omega : kv < n0) (by omega : kv ≠ yid) (sk.ext ⟨hnb, fun _ _ => rfl⟩) (fun p hp => by have := hav p hp; omega) y1 ql lf 0 h0 n0 (by omega) (by omega) (Frm.refl _ _ _) (by simpa using yb)
    rw [show ((0 : Nat) : Int) = 0 from rfl] at e'
    refine ⟨f', h', nx', e', x'.1, fun j hj hne => x'.2 j hj fun z => ?_, Sl.ofBlk b' (by rw [ints_nl, nints_len, Nat.mul_one]; first | (unfold pickK; rw [List.length_map, hql]) | rw [List.length_map, hql]) (by have := x'.1; omega)⟩
    subst z
    exact h0q (hne 0 rfl)

theorem try_spec {k : Nat} (hk : 5800 ≤ k) (lf L0 rec : Nat) (hlf : 200 ≤ lf) {d p a n : Nat} (g : Geo d p n) (hp : 1 ≤ p) (hp3 : p ≤ 3) (hn32 : n ≤ 32) {m : Nat} (hm1 : 1 ≤ m) (hmn : m ≤ n * 128) {v : Nat → List Nat} {lost : Nat → Bool} {P : Nat → Tri} {xa sa la ka ya : Option (Nat × Nat)} {xc sc lc kc : Bool} (yc : Bool) {s0 s1 s2 s3 : Int} {lv kv nx0 nb nx : Nat} {h : AHeap}
    (S : Scan h nx0 nb d p a n lost m xa xc [.int .i64 s0, .int .i64 s1, .int .i64 s2, .int .i64 s3] sa sc lv kv la ka lc kc) (sp : Sl h nb xa (colN d p n) 2 (prows P lost (colN d p n)).flatten) (cl : ColsL h nb (colN d p n) (bw d p n) v lost P) (hnb : nb ≤ nx)
    {q : List Nat} {ql : Nat} (hql : q.length = ql) (hqk : ∀ x ∈ q, x < (kept lost (colN d p n)).length) (hqn : q.Nodup) (htp : cnt lost (colN d p n) + ql ≤ p) (hr0 : nb ≤ rec) (hr1 : rec < nx) (hrec : h rec = some ⟨[], LB, true⟩)
    (hy : ql = 0 ∨ ∃ yid, ya = some (yid, 0) ∧ nb ≤ yid ∧ yid < nx ∧ yid ≠ rec ∧ h yid = some ⟨ints .i64 (nints q), 1, true⟩) (hya : ∀ j o, ya = some (j, o) → ql = 0 ∨ (nb ≤ j ∧ j ≠ rec)) :
    ∃ us, UsOk d p n (lostL lost (colN d p n) ++ pickK (kept lost (colN d p n)) q) us ∧
      (((sA (tryB d p n v lost (lostL lost (colN d p n) ++ pickK (kept lost (colN d p n)) q) us) = s0 ∧ sB (tryB d p n v lost (lostL lost (colN d p n) ++ pickK (kept lost (colN d p n)) q) us) = s1 ∧ sC (tryB d p n v lost (lostL lost (colN d p n) ++ pickK (kept lost (colN d p n)) q) us) = s2 ∧ sD (tryB d p n v lost (lostL lost (colN d p n) ++ pickK (kept lost (colN d p n)) q) us) = s3) ∧
          ∃ da h' nx', F12_R4 (callP Try.prog keepT k) Y0 lf L0 rec (some (nx0, 0)) (some (nx0 + 1, 0)) (some (nx0 + 2, 0)) (some (nx0 + 3, 0)) (some (nx0 + 4, 0)) (some (nx0 + 5, 0)) (some (nx0 + 14, 0)) (some (lv, 0)) (some (kv, 0)) ya ql yc h nx = some (.bool false, h', nx') ∧ nx ≤ nx' ∧ h' rec = some ⟨[], LB + 2, true⟩ ∧ (∀ j, j < nx0 → h' j = h j) ∧ h' (nx0 + 3) = some ⟨[.slice da m true], 1, true⟩ ∧ h' (nx0 + 4) = some ⟨[.slice ya ql yc], 1, true⟩ ∧ h' (nx0 + 5) = some ⟨[.int .i64 0], 1, true⟩ ∧
            Sl h' nx' da m 1 (ints .u8 (nints ((tryB d p n v lost (lostL lost (colN d p n) ++ pickK (kept lost (colN d p n)) q) us).take m))) ∧ Sl h' nx' ya ql 1 (ints .i64 (nints (pickK (kept lost (colN d p n)) q))) ∧ ∀ pp, da = some pp → nx ≤ pp.1) ∨
       (¬ (sA (tryB d p n v lost (lostL lost (colN d p n) ++ pickK (kept lost (colN d p n)) q) us) = s0 ∧ sB (tryB d p n v lost (lostL lost (colN d p n) ++ pickK (kept lost (colN d p n)) q) us) = s1 ∧ sC (tryB d p n v lost (lostL lost (colN d p n) ++ pickK (kept lost (colN d p n)) q) us) = s2 ∧ sD (tryB d p n v lost (lostL lost (colN d p n) ++ pickK (kept lost (colN d p n)) q) us) = s3) ∧
          ∃ h' nx', F12_R4 (callP Try.prog keepT k) Y0 lf L0 rec (some (nx0, 0)) (some (nx0 + 1, 0)) (some (nx0 + 2, 0)) (some (nx0 + 3, 0)) (some (nx0 + 4, 0)) (some (nx0 + 5, 0)) (some (nx0 + 14, 0)) (some (lv, 0)) (some (kv, 0)) ya ql yc h nx = some (.bool true, h', nx') ∧ nx ≤ nx' ∧ h' rec = some ⟨[], LB, true⟩ ∧ (∀ j, j < nx → j ≠ rec → (∀ o, ya = some (j, o) → ql = 0) → h' j = h j))) := by
  have gp := g.pN
  have g8 := g.N8
  have kl8 := kept_le lost (colN d p n)
  obtain ⟨gs, hgs⟩ : ∃ gs, gs = lostL lost (colN d p n) ++ pickK (kept lost (colN d p n)) q := ⟨_, rfl⟩
  rw [← hgs]
  obtain ⟨h1, hh1⟩ : ∃ h1, h1 = h.put rec (some ⟨[], LB + 1, true⟩) := ⟨_, rfl⟩
  have p1 : ∀ j, j ≠ rec → h1 j = h j := fun j hj => by rw [hh1, put_ne hj]
  have r1 : h1 rec = some ⟨[], LB + 1, true⟩ := by rw [hh1, put_same]
  have lv1 := S.lv1
  have kv1 := S.kv1
  have lv0 := S.lv0
  have kv0 := S.kv0
  have x1 : Ext h nb h1 nb := ⟨Nat.le_refl _, fun j hj => p1 j (by omega)⟩
  have slk := (NRow.sl S.ok rfl).ext x1
  obtain ⟨f', h2, n2, e2, l2, k2, s2'⟩ := pick_all (callP Try.prog keepT k) lf L0 rec hlf (some (nx0, 0)) (some (nx0 + 1, 0)) (some (nx0 + 2, 0)) (some (nx0 + 3, 0)) (some (nx0 + 4, 0)) (some (nx0 + 5, 0)) (some (nx0 + 14, 0)) (some (lv, 0)) (kv := kv) (ka := ka) (ya := ya) (KL := kept lost (colN d p n)) (q := q) rfl (by omega) hqk kc yc (nb := nb) hql (by omega) (h0 := h1) (n0 := nx + 4) (by rw [p1 kv (by omega)]; exact S.bk) kv1 slk (fun pp hpp => S.ok.lt pp.1 ⟨pp.2, by rw [hpp]⟩) (by omega) (by
    rcases hy with z | ⟨yid, z1, z2, z3, z4, z5⟩
    · exact .inl z
    · exact .inr ⟨yid, z1, z2, by omega, by rw [p1 yid z4]; exact z5⟩)
  have k2' : ∀ j, j < nb → h2 j = h j := fun j hj => by
    rw [k2 j (by omega) (fun o ho => by
      rcases hya j o ho with z | z
      · exact z
      · omega), p1 j (by omega)]
  have x2 : Ext h nb h2 n2 := ⟨by omega, k2'⟩
  have r2 : h2 rec = some ⟨[], LB + 1, true⟩ := by
    rw [k2 rec (by omega) (fun o ho => by
      rcases hya rec o ho with z | z
      · exact z
      · exact absurd rfl z.2), r1]
  have bb2 := (k2' (nx0 + 14) (by omega)).trans S.bb
  have b12 := (k2' (nx0 + 1) (by omega)).trans S.b1
  have bl2 := (k2' lv lv1).trans S.bl
  have ol2 : OwnRows NRow h2 n2 la 1 (lostL lost (colN d p n)) := S.ol.go (x2.fr fun _ => False) (fun _ _ q => q) (fun _ _ q => q)
  have hpk : (pickK (kept lost (colN d p n)) q).length = ql := by unfold pickK; rw [List.length_map, hql]
  obtain ⟨ca, cc, h3, n3, q27, E, e3, x3, c27, f1, f2, s3', k3, i3⟩ := clone_app (f := k) (by omega) (lostL_len lost (colN d p n)) hpk (by omega) (by omega) lc ol2 s2' (i6 := n2 + 6) (by omega) (by omega)
  obtain ⟨H, hH⟩ : ∃ H, H = h3.puts E.sets := ⟨_, rfl⟩
  rw [← hH, ← hgs] at s3'
  rw [← hH] at k3
  have y3 := x3.1
  have xH : Ext h nb H n3 := ⟨by omega, fun j hj => by rw [k3 j (by omega), k2' j hj]⟩
  have hmemL : ∀ x ∈ lostL lost (colN d p n), x < colN d p n ∧ lost x = true := fun x hx => by
    obtain ⟨z1, z2⟩ := List.mem_filter.1 hx
    exact ⟨List.mem_range.1 z1, z2⟩
  have hmemK : ∀ x ∈ pickK (kept lost (colN d p n)) q, x < colN d p n ∧ lost x = false := fun x hx => by
    obtain ⟨y, hyq, rfl⟩ := List.mem_map.1 hx
    have := hqk y hyq
    rw [getD_at this]
    exact kept_mem (List.getElem_mem _)
  have hkpw : (kept lost (colN d p n)).Pairwise (· < ·) := List.Pairwise.filter _ List.pairwise_lt_range
  have hnd : gs.Nodup := by
    rw [hgs]
    refine List.nodup_append.2 ⟨?_, ?_, fun x hx y hy' e => ?_⟩
    · exact (List.Pairwise.filter _ List.pairwise_lt_range).imp fun h => Nat.ne_of_lt h
    · unfold pickK
      refine List.pairwise_map.2 (hqn.imp_of_mem fun {x y} hx hy' hne he => hne ?_)
      have h1 := hqk x hx
      have h2 := hqk y hy'
      rcases Nat.lt_trichotomy x y with l | l | l
      · have := pw_ne hkpw l h2; omega
      · exact l
      · have := pw_ne hkpw l h1; omega
    · subst e
      have h1 := (hmemL x hx).2
      have h2 := (hmemK x hy').2
      rw [h1] at h2; cases h2
  have hmem : ∀ x ∈ gs, x < colN d p n := fun x hx => by
    rw [hgs] at hx
    rcases List.mem_append.1 hx with z | z
    · exact (hmemL x z).1
    · exact (hmemK x z).1
  have hgl : gs.length = cnt lost (colN d p n) + ql := by rw [hgs, List.length_append, hpk]; rfl
  obtain ⟨us, oa, oc, h4, n4, e4, x4, s4, u1, u2, u3, oal⟩ := data_spec (f := k) (by omega) g hp hp3 hn32 (v := v) (lost := lost) (P := P) (xa := xa) (sa := sa) (ga := E.a) xc sc E.c (gs := gs) (t := cnt lost (colN d p n) + ql) (h := H) (nx := n3) (S.sh.ext xH) (sp.ext xH) (cl.ext xH) hgl hmem hnd htp s3'
  change Sl h4 n4 oa (n * 128) 1 (ints .u8 (nints (tryB d p n v lost gs us))) at s4
  have y4 := x4.1
  refine ⟨us, ⟨u1, u2, u3⟩, ?_⟩
  have tl := tryB_len g cl gs us
  have ts := tryB_small g cl gs us
  generalize tryB d p n v lost gs us = X at s4 tl ts ⊢
  obtain ⟨h5, n5, e5, x5⟩ := of_spec (f := k) (l := X) (m := n * 32) (by omega) (by omega) ts oc tl (s4.ext (nx' := n4 + 8) ⟨by omega, fun _ _ => rfl⟩)
  have y5 := x5.1
  have aa : AllApart [((idsOf E.sets), [nx0 + 14]), ((idsOf E.sets), [nx0 + 1])] := by
    refine ⟨fun z hz hz2 => ?_, fun z hz hz2 => ?_, trivial⟩
    · have := i3 z hz
      simp only [List.mem_singleton] at hz2; omega
    · have := i3 z hz
      simp only [List.mem_singleton] at hz2; omega
  have ak : AllKept [(h2, h3, [nx0 + 14]), (h2, h3, [nx0 + 1])] := by
    refine ⟨fun z hz => ?_, fun z hz => ?_, trivial⟩
    · simp only [List.mem_singleton] at hz; subst hz; exact x3.2 _ (by omega)
    · simp only [List.mem_singleton] at hz; subst hz; exact x3.2 _ (by omega)
  obtain ⟨h6, hh6⟩ : ∃ h6, h6 = AHeap.put (AHeap.put h5 (n4 + 5) (some ⟨[.int .i64 0, .int .i64 0, .int .i64 0, .int .i64 0], 4, true⟩)) (n4 + 5) (some ⟨[.int .i64 (sA X), .int .i64 (sB X), .int .i64 (sC X), .int .i64 (sD X)], 4, true⟩) := ⟨_, rfl⟩
  have k6 : ∀ j, j < n2 → h6 j = h2 j := fun j hj => by
    rw [hh6, put_ne (by omega), put_ne (by omega), x5.2 j (by omega), x4.2 j (by omega), k3 j hj]
  have b26 : h6 (nx0 + 2) = some ⟨[.int .i64 s0, .int .i64 s1, .int .i64 s2, .int .i64 s3], 4, true⟩ := by rw [k6 _ (by omega), k2' _ (by omega)]; exact S.b2
  have walk : F12_R4 (callP Try.prog keepT k) Y0 lf L0 rec (some (nx0, 0)) (some (nx0 + 1, 0)) (some (nx0 + 2, 0)) (some (nx0 + 3, 0)) (some (nx0 + 4, 0)) (some (nx0 + 5, 0)) (some (nx0 + 14, 0)) (some (lv, 0)) (some (kv, 0)) ya ql yc h nx =
      (if (eqCells [.int .i64 (sA X), .int .i64 (sB X), .int .i64 (sC X), .int .i64 (sD X)] [.int .i64 s0, .int .i64 s1, .int .i64 s2, .int .i64 s3]) = true then
        ((cutA h6 oa (n * 128) oc 1 none (some (.int .i64 (m : Int))) (some (.int .i64 (m : Int)))).bind fun s62 =>
        (stA h6 (nx0 + 3) 0 (.slice s62.1 s62.2.1 s62.2.2) 1).bind fun b64 =>
        (stA (h6.put (nx0 + 3) (some b64)) (nx0 + 4) 0 (.slice ya ql yc) 1).bind fun b67 =>
        (stA ((h6.put (nx0 + 3) (some b64)).put (nx0 + 4) (some b67)) (nx0 + 5) 0 (.int .i64 0) 1).bind fun b70 =>
        if isReady (((h6.put (nx0 + 3) (some b64)).put (nx0 + 4) (some b67)).put (nx0 + 5) (some b70)) rec (LB + 1) = true then some (.bool false, AHeap.put (((h6.put (nx0 + 3) (some b64)).put (nx0 + 4) (some b67)).put (nx0 + 5) (some b70)) rec (some ⟨[], LB + 2, true⟩), (n5 + 11)) else none)
      else (if isReady h6 rec (LB + 1) = true then some (.bool true, AHeap.put h6 rec (some ⟨[], LB, true⟩), (n5 + 3)) else none)) := by
    rw [F12_R4_eq, if_pos (isReady_at hrec)]
    dsimp only
    rw [← hh1, e2, F12_L5_eq, if_neg (by simp)]
    simp only [mst_]
    rw [ldr_all bb2 (by simp)]
    simp only [mst_]
    rw [ld_at b12 rfl]
    simp only [mst_]
    rw [ld_at bl2 rfl]
    simp only [mst_]
    rw [e3]
    simp only [mst_]
    rw [c27, some_bind, f1, some_bind, f2, ← hH, e4]
    simp only [mst_]
    rw [ifApart_pos aa, ifKept_pos ak, e5]
    simp only [mst_]
    rw [st_all (put_same _ _ _) (by simp) (by simp) (by simp [allOne, AV.one]), ← hh6]
    have b6 : h6 (n4 + 5) = some ⟨[.int .i64 (sA X), .int .i64 (sB X), .int .i64 (sC X), .int .i64 (sD X)], 4, true⟩ := by rw [hh6, put_same]
    rw [ldr_all b6 (by simp)]
    simp only [mst_]
    rw [ldr_all b26 (by simp)]
    simp only [mst_]
    have b06 : h6 nx0 = some ⟨[.int .i64 (m : Int)], 1, true⟩ := by rw [k6 _ (by omega), k2' _ (by omega)]; exact S.b0
    rw [ld_at b06 rfl]
    simp only [mst_]
    rw [ld_at b06 rfl]
    simp only [mst_]
  have r6 : h6 rec = some ⟨[], LB + 1, true⟩ := by rw [k6 rec (by omega), r2]
  have hle : nx ≤ n2 := by omega
  by_cases hs : sA X = s0 ∧ sB X = s1 ∧ sC X = s2 ∧ sD X = s3
  · left
    refine ⟨hs, ?_⟩
    rw [walk, if_pos (by simp [eqCells, eqA1, hs.1, hs.2.1, hs.2.2.1, hs.2.2.2])]
    have s6 : Sl h6 (n5 + 3) oa (n * 128) 1 (ints .u8 (nints X)) := s4.ext ⟨by omega, fun j hj => by rw [hh6, put_ne (by omega), put_ne (by omega), x5.2 j (by omega)]⟩
    have cut : cutA h6 oa (n * 128) oc 1 none (some (.int .i64 (m : Int))) (some (.int .i64 (m : Int))) = some (shiftAddr oa (0 * 1), m, true) := by
      have e : boundsD none (some (.int .i64 (m : Int))) (some (.int .i64 (m : Int))) (n * 128) = some (0, m, some m) := by
        show (boundA (some (.int .i64 (m : Int))) (n * 128) (n * 128)).bind _ = _
        rw [bound_some hmn, Option.bind_some, bound_some (Nat.le_refl m), Option.bind_some]; rfl
      unfold cutA
      rw [e]; simp
    obtain ⟨_, c2, _⟩ := s6.cut oc (lo := 0) (hi := m) (l := none) (r := some (.int .i64 (m : Int))) (by omega) hmn bound_none (bound_some hmn)
    rw [Nat.sub_zero] at c2
    have hcut : ((ints .u8 (nints X)).drop (0 * 1)).take (m * 1) = ints .u8 (nints (X.take m)) := by
      rw [Nat.zero_mul, List.drop_zero, Nat.mul_one, nints_take, ints, ints, List.map_take]
    rw [hcut] at c2
    have b3 : h6 (nx0 + 3) = some ⟨[.slice none 0 false], 1, true⟩ := by rw [k6 _ (by omega), k2' _ (by omega)]; exact S.b3
    have b4 : h6 (nx0 + 4) = some ⟨[.slice none 0 false], 1, true⟩ := by rw [k6 _ (by omega), k2' _ (by omega)]; exact S.b4
    have b5 : h6 (nx0 + 5) = some ⟨[.int .i64 0], 1, true⟩ := by rw [k6 _ (by omega), k2' _ (by omega)]; exact S.b5
    rw [cut, some_bind]
    dsimp only
    rw [st_to b3 rfl (by simp) (cs' := [.slice (shiftAddr oa (0 * 1)) m true]) (by simp)]
    rw [st_to ((put_ne (by omega)).trans b4) rfl (by simp) (cs' := [.slice ya ql yc]) (by simp)]
    rw [st_to ((put_ne (by omega)).trans ((put_ne (by omega)).trans b5)) rfl (by simp) (cs' := [.int .i64 0]) (by simp)]
    obtain ⟨h9, hh9⟩ : ∃ h9, h9 = ((h6.put (nx0 + 3) (some ⟨[.slice (shiftAddr oa (0 * 1)) m true], 1, true⟩)).put (nx0 + 4) (some ⟨[.slice ya ql yc], 1, true⟩)).put (nx0 + 5) (some ⟨[.int .i64 0], 1, true⟩) := ⟨_, rfl⟩
    rw [← hh9]
    have k9 : ∀ j, j ≠ nx0 + 3 → j ≠ nx0 + 4 → j ≠ nx0 + 5 → h9 j = h6 j := fun j j1 j2 j3 => by rw [hh9, put_ne j3, put_ne j2, put_ne j1]
    have r9 : h9 rec = some ⟨[], LB + 1, true⟩ := by rw [k9 rec (by omega) (by omega) (by omega), r6]
    rw [if_pos (isReady_at r9)]
    have hfr : Frm (fun j => j < nb ∨ j = rec) h6 (n5 + 3) (h9.put rec (some ⟨[], LB + 2, true⟩)) (n5 + 11) := ⟨by omega, fun j hj hne => by
      rw [put_ne (fun z => hne (.inr z)), k9 j (fun z => hne (.inl (by omega))) (fun z => hne (.inl (by omega))) (fun z => hne (.inl (by omega)))]⟩
    have hnx : ∀ pp, shiftAddr oa (0 * 1) = some pp → nx ≤ pp.1 := fun pp hpp => by
      cases oa with
      | none => cases hpp
      | some o =>
        have := oal o rfl
        have e := congrArg Prod.fst (Option.some.inj hpp)
        simp only at e; omega
    refine ⟨shiftAddr oa (0 * 1), _, n5 + 11, rfl, by omega, put_same _ _ _, fun j hj => ?_, ?_, ?_, ?_, ?_, ?_, hnx⟩
    · rw [put_ne (by omega), k9 j (by omega) (by omega) (by omega), k6 j (by omega), k2' j (by omega)]
    · rw [put_ne (by omega), hh9, put_ne (by omega), put_ne (by omega), put_same]
    · rw [put_ne (by omega), hh9, put_ne (by omega), put_same]
    · rw [put_ne (by omega), hh9, put_same]
    · refine c2.fr (D := fun j => j < nb ∨ j = rec) (fun hm0 pp hpp z => ?_) hfr
      have := hnx pp hpp
      omega
    · have s62 : Sl h6 (n5 + 3) ya ql 1 (ints .i64 (nints (pickK (kept lost (colN d p n)) q))) := s2'.ext ⟨by omega, k6⟩
      refine s62.fr (D := fun j => j < nb ∨ j = rec) (fun hm0 pp hpp z => ?_) hfr
      rcases hya pp.1 pp.2 (by rw [hpp]) with w | w
      · omega
      · rcases z with z | z
        · omega
        · exact w.2 z
  · right
    refine ⟨hs, ?_⟩
    rw [walk, if_neg (by simpa [eqCells, eqA1] using hs), if_pos (isReady_at r6)]
    refine ⟨_, n5 + 3, rfl, by omega, put_same _ _ _, fun j hj hne ho => ?_⟩
    rw [put_ne hne, k6 j (by omega), k2 j (by omega) ho, p1 j hne]

end Go.Proofs.Ytalfcokiooaliaa.T
