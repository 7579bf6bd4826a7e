/- Pools: bytes of objects. -/
import Derived.Test.YtncmdbpoceilgaaP1
set_option linter.unusedVariables false
set_option linter.unusedSimpArgs false
namespace Go.Proofs.Ytncmdbpoceilgaa.T
open Go Go.RowKit Go.Proofs
set_option maxRecDepth 10000

theorem splice_ints {k : IntKind} (xs bs : List Int) (o : Nat) : splice (ints k xs) o (ints k bs) = ints k (xs.take o ++ bs ++ xs.drop (o + bs.length)) := by
  simp [splice, ints]
theorem take_ints {k : IntKind} (xs : List Int) (n : Nat) : (ints k xs).take n = ints k (xs.take n) := by simp [ints]
/-- A copy of bytes into a block of one's own. -/
theorem cop_into {h : AHeap} {nx id o n : Nat} {xs bs : List Int} {c : Option (Nat × Nat)} (hb : h id = some ⟨ints .u8 xs, 1, true⟩) (s : Sl h nx c bs.length 1 (ints .u8 bs)) (ho : o + min bs.length n ≤ xs.length) :
    ∃ q, copD h (some (id, o)) n c bs.length 1 = some q ∧ (h.puts q.2.1) id = some ⟨ints .u8 (xs.take o ++ bs.take n ++ xs.drop (o + min bs.length n)), 1, true⟩ ∧ ∀ i, i ≠ id → (h.puts q.2.1) i = h i := by
  by_cases h0 : min bs.length n = 0
  · refine ⟨(0, [], []), by unfold copD; rw [if_pos h0], ?_, fun i _ => rfl⟩
    rw [puts_nil, hb, h0]
    have : bs.take n = [] := by
      rcases Nat.min_eq_zero_iff.1 h0 with e | e
      · rw [List.length_eq_zero_iff.1 e, List.take_nil]
      · rw [e]; rfl
    rw [this, List.append_nil, Nat.add_zero, List.take_append_drop]
  · obtain ⟨p, b, rfl, _, e3, e4, e5, e6⟩ := s.2 0 (by omega)
    have hsrc : (b.cells.drop p.2).take (min bs.length n * 1) = ints .u8 (bs.take n) := by
      apply List.ext_getElem?
      intro q
      rw [List.getElem?_take]
      by_cases hq : q < min bs.length n * 1
      · rw [if_pos hq, List.getElem?_drop, e6 q (by omega), ← take_ints, List.getElem?_take, if_pos (by omega)]
      · rw [if_neg hq, List.getElem?_eq_none (by simp [ints]; omega)]
    refine ⟨(min bs.length n, [(id, some ⟨splice (ints .u8 xs) o (ints .u8 (bs.take n)), 1, true⟩)], [id, p.1]), ?_, ?_, fun i hi => ?_⟩
    · unfold copD
      rw [if_neg h0, some_bind, some_bind, hb, some_bind, e3, some_bind, if_pos (by simp [e4, ints]; omega), hsrc]
    · simp only [puts_cons, puts_nil]
      rw [put_same]
      rw [splice_ints]
      simp only [List.length_take]
      rw [Nat.min_comm n bs.length]
    · simp only [puts_cons, puts_nil]
      rw [put_ne hi]

def resizeP (bs : List Int) (n : Nat) : List Int := bs.take n ++ List.replicate (n - bs.length) 0
def wideP (bs : List Int) (n : Nat) : List Int := bs ++ List.replicate (n - bs.length) 0
def writeP (bs : List Int) (o : Nat) (d : List Int) : List Int := (wideP bs (o + d.length)).take o ++ d ++ (wideP bs (o + d.length)).drop (o + d.length)
theorem resizeP_len (bs : List Int) (n : Nat) : (resizeP bs n).length = n := by simp [resizeP]; omega
theorem wideP_len (bs : List Int) (n : Nat) : (wideP bs n).length = max bs.length n := by simp [wideP]; omega
theorem writeP_len (bs : List Int) (o : Nat) (d : List Int) : (writeP bs o d).length = max bs.length (o + d.length) := by
  simp [writeP, wideP_len]; omega
theorem made_ints (n : Nat) : madeA [AV.int .u8 0] (n * 1) = ints .u8 (List.replicate n 0) := by simp [madeA, ints]

/-- What a slice of a block holds, wholly. -/
theorem Sl.block {h : AHeap} {nx id : Nat} {bs : List Int} (hb : h id = some ⟨ints .u8 bs, 1, true⟩) (hid : id < nx) : Sl h nx (some (id, 0)) bs.length 1 (ints .u8 bs) :=
  ⟨by simp [ints], fun j hj => ⟨(id, 0), _, rfl, hid, hb, rfl, by simp [ints], fun q hq => by simp⟩⟩

/-- Older than n. -/
def Old (n : Nat) : Nat → Prop := fun i => i < n
theorem Byt.block {h : AHeap} {nx n0 id : Nat} {bs : List Int} (c : Option Nat) (hb : h id = some ⟨ints .u8 bs, 1, true⟩) (hid : id < nx) (h0 : n0 ≤ id) : Byt .u8 h nx (Old n0) (.slice (some (id, 0)) bs.length c) bs :=
  ⟨_, _, rfl, Sl.block hb hid, fun _ p e q => by
    obtain rfl := Option.some.inj e
    unfold Old at q; simp only at q; omega⟩
theorem Byt.none (h : AHeap) (nx : Nat) (A : Nat → Prop) (a : Option (Nat × Nat)) (c : Option Nat) : Byt .u8 h nx A (.slice a 0 c) [] := ⟨a, c, rfl, ⟨by simp [ints], fun j hj => by simp at hj⟩, Av.none⟩

/-- Resize -/
theorem resize_spec (n : Nat) (Y : YldF) {h : AHeap} {nx : Nat} {a : Option (Nat × Nat)} (c : Option Nat) {bs : List Int} (s : Sl h nx a bs.length 1 (ints .u8 bs)) {k : Nat} (hk : k ≤ 1000000) :
    ∃ v h' nx', callP Try.prog keepT (n + 1) Y 78 [.slice a bs.length c, .int .i64 (k : Int)] h nx = some (.tuple [v, .int .i64 0], h', nx') ∧ Ext h nx h' nx' ∧ Byt .u8 h' nx' (Old nx) v (resizeP bs k) := by
  rw [F78_eq, if_pos (by simp; omega), Int.toNat_natCast, made_ints]
  have hb := put_same h (nx + 3) (some ⟨ints .u8 (List.replicate k 0), 1, true⟩)
  have x1 : Ext h nx (h.put (nx + 3) (some ⟨ints .u8 (List.replicate k 0), 1, true⟩)) (nx + 4) := (Ext.refl h nx).put (by omega) (by omega)
  obtain ⟨q, e1, e2, e3⟩ := cop_into (o := 0) (n := k) hb (s.ext x1) (by simp; omega)
  dsimp only
  rw [e1, some_bind]
  have e4 : (List.replicate k (0 : Int)).take 0 ++ bs.take k ++ (List.replicate k (0 : Int)).drop (0 + min bs.length k) = resizeP bs k := by
    simp [resizeP]; omega
  rw [e4] at e2
  have hl := resizeP_len bs k
  refine ⟨_, _, nx + 11, rfl, ⟨by omega, fun i hi => ?_⟩, ?_⟩
  · rw [e3 i (by omega)]; exact x1.2 i hi
  · have := Byt.block (n0 := nx) (nx := nx + 11) (some k) e2 (by omega) (by omega)
    rw [hl] at this; exact this

/-- Write -/
theorem write_spec (n : Nat) (Y : YldF) {h : AHeap} {nx : Nat} {a a2 : Option (Nat × Nat)} (c c2 : Option Nat) {bs d : List Int} (s : Sl h nx a bs.length 1 (ints .u8 bs)) (s2 : Sl h nx a2 d.length 1 (ints .u8 d)) {o : Nat} (ho : o ≤ 1000000) (hd : d.length ≤ 1000000) (hl : bs.length ≤ 1000000) :
    ∃ v h' nx', callP Try.prog keepT (n + 1) Y 80 [.slice a bs.length c, .int .i64 (o : Int), .slice a2 d.length c2] h nx = some (.tuple [v, .int .i64 0], h', nx') ∧ Ext h nx h' nx' ∧ Byt .u8 h' nx' (Old nx) v (writeP bs o d) := by
  have hw : wrapA .i64 ((o : Int) + ((d.length : Nat) : Int)) = ((o + d.length : Nat) : Int) := by rw [wA (by omega) (by omega)]; omega
  have hX : (if ((o + d.length : Nat) : Int) > ((bs.length : Nat) : Int) then ((o + d.length : Nat) : Int) else ((bs.length : Nat) : Int)) = ((max bs.length (o + d.length) : Nat) : Int) := by split <;> omega
  obtain ⟨N, hN⟩ : ∃ N, N = max bs.length (o + d.length) := ⟨_, rfl⟩
  rw [← hN] at hX
  rw [F80_eq, hw, hX, if_pos (by simp; omega), Int.toNat_natCast, made_ints]
  have hb := put_same h (nx + 9) (some ⟨ints .u8 (List.replicate N 0), 1, true⟩)
  have x1 : Ext h nx (h.put (nx + 9) (some ⟨ints .u8 (List.replicate N 0), 1, true⟩)) (nx + 10) := (Ext.refl h nx).put (by omega) (by omega)
  obtain ⟨q, e1, e2, e3⟩ := cop_into (o := 0) (n := N) hb (s.ext x1) (by simp; omega)
  dsimp only
  rw [e1, some_bind]
  have e4 : (List.replicate N (0 : Int)).take 0 ++ bs.take N ++ (List.replicate N (0 : Int)).drop (0 + min bs.length N) = wideP bs (o + d.length) := by
    have : min bs.length N = bs.length := by omega
    simp only [List.take_zero, List.nil_append, Nat.zero_add, this, List.drop_replicate, wideP]
    rw [List.take_of_length_le (by omega)]
    congr 2; omega
  rw [e4] at e2
  have hl2 : (wideP bs (o + d.length)).length = N := by rw [wideP_len]; exact hN.symm
  have x2 : Ext h nx ((h.put (nx + 9) (some ⟨ints .u8 (List.replicate N 0), 1, true⟩)).puts q.2.1) (nx + 10) := ⟨by omega, fun i hi => by rw [e3 i (by omega)]; exact x1.2 i hi⟩
  obtain ⟨c1, c2, _⟩ := (Sl.block (nx := nx + 10) e2 (by omega)).cut (some N) (lo := o) (hi := N) (by omega) (by rw [hl2]; exact Nat.le_refl _) (l := some (.int .i64 (o : Int))) (r := none) (bound_some (by omega)) (by rw [hl2]; rfl)
  rw [hl2] at c1
  rw [c1, some_bind]
  dsimp only
  rw [show shiftAddr (some (nx + 9, 0)) (o * 1) = some (nx + 9, 0 + o * 1) from rfl]
  obtain ⟨q2, f1, f2, f3⟩ := cop_into (o := 0 + o * 1) (n := N - o) e2 (s2.ext x2) (by rw [hl2]; omega)
  rw [f1, some_bind]
  have e5 : (wideP bs (o + d.length)).take (0 + o * 1) ++ d.take (N - o) ++ (wideP bs (o + d.length)).drop (0 + o * 1 + min d.length (N - o)) = writeP bs o d := by
    have h1 : 0 + o * 1 = o := by omega
    have h2 : min d.length (N - o) = d.length := by omega
    rw [h1, h2, List.take_of_length_le (show d.length ≤ N - o by omega)]; rfl
  rw [e5] at f2
  have hl3 := writeP_len bs o d
  refine ⟨_, _, nx + 22, rfl, ⟨by omega, fun i hi => ?_⟩, ?_⟩
  · rw [f3 i (by omega)]; exact x2.2 i hi
  · have := Byt.block (n0 := nx) (nx := nx + 22) (some N) f2 (by omega) (by omega)
    rw [hl3, ← hN] at this; exact this

/-- slices.Clone -/
theorem clone_spec (n : Nat) (Y : YldF) {h : AHeap} {nx : Nat} {a : Option (Nat × Nat)} (c : Option Nat) {bs : List Int} (s : Sl h nx a bs.length 1 (ints .u8 bs)) (hl : bs.length ≤ 1000000) :
    ∃ v h' nx', callP Try.prog keepT (n + 1) Y 81 [.slice a bs.length c] h nx = some (v, h', nx') ∧ Ext h nx h' nx' ∧ Byt .u8 h' nx' (Old nx) v bs := by
  rw [F81_eq]
  cases a with
  | none =>
    have : bs = [] := by
      cases bs with
      | nil => rfl
      | cons b l => obtain ⟨p, _, e, _⟩ := s.2 0 (by simp); cases e
    subst this
    rw [if_pos (by simp)]
    exact ⟨_, h, nx + 4, rfl, (Ext.refl h nx).le (by omega), Byt.none _ _ _ _ _⟩
  | some p =>
    rw [if_neg (by simp)]
    have x1 : Ext h nx (h.put (nx + 3) (some ⟨[], 1, true⟩)) (nx + 4) := (Ext.refl h nx).put (by omega) (by omega)
    obtain ⟨rd, e1⟩ := (s.ext x1).src'
    dsimp only
    rw [e1, some_bind]
    by_cases h0 : bs.length = 0
    · have : bs = [] := List.length_eq_zero_iff.1 h0
      subst this
      rw [show appD (h.put (nx + 3) (some ⟨[], 1, true⟩)) (some (nx + 3, 0)) 0 (some 0) 1 1 (nx + 5) (([] : List Int).length, ints .u8 [], rd) = some ⟨some (nx + 3, 0), 0, some 0, [], rd⟩ from by unfold appD; rw [if_pos (show ([] : List Int).length = 0 from rfl)], some_bind]
      exact ⟨_, _, nx + 7, rfl, x1.le (by omega), Byt.none _ _ _ _ _⟩
    · have hcap : capLt (some 0) (0 + bs.length) = true := by
        show (Nat.blt 0 CB && Nat.blt 0 (0 + bs.length)) = true
        rw [Bool.and_eq_true, Nat.blt_eq, Nat.blt_eq]; exact ⟨by decide, by omega⟩
      rw [show appD (h.put (nx + 3) (some ⟨[], 1, true⟩)) (some (nx + 3, 0)) 0 (some 0) 1 1 (nx + 5) (bs.length, ints .u8 bs, rd) = some ⟨some (nx + 5, 0), 0 + bs.length, none, [(nx + 5, some ⟨ints .u8 bs, 1, true⟩)], (nx + 3) :: rd⟩ from by
        unfold appD
        rw [if_neg h0, if_pos (growOk_of (by omega) (by omega))]
        dsimp only
        rw [put_same, some_bind, if_pos (by simp), if_pos hcap]; simp, some_bind]
      simp only [puts_cons, puts_nil]
      refine ⟨_, _, nx + 7, rfl, x1.put (by omega) (by omega), ?_⟩
      rw [Nat.zero_add]
      exact Byt.block none (put_same _ _ _) (by omega) (by omega)

/-- Read -/
theorem read_spec (n : Nat) (Y : YldF) {h : AHeap} {nx : Nat} {a : Option (Nat × Nat)} (c : Option Nat) {bs : List Int} (s : Sl h nx a bs.length 1 (ints .u8 bs)) (hl : bs.length ≤ 1000000) (o k : Nat) :
    ∃ v h' nx', callP Try.prog keepT (n + 2) Y 77 [.slice a bs.length c, .int .i64 (o : Int), .int .i64 (k : Int)] h nx = some (.tuple [v, .int .i64 0], h', nx') ∧ Ext h nx h' nx' ∧ Byt .u8 h' nx' (Old nx) v ((bs.drop o).take k) := by
  rw [F77_eq]
  by_cases ho : bs.length ≤ o
  · rw [if_pos (by simp; omega), show bs.drop o = [] from List.drop_eq_nil_of_le ho, List.take_nil]
    exact ⟨_, h, nx + 8, rfl, (Ext.refl h nx).le (by omega), Byt.none _ _ _ _ _⟩
  · rw [if_neg (by simp; omega)]
    obtain ⟨c1, c2, _⟩ := s.cut c (lo := o) (hi := bs.length) (by omega) (Nat.le_refl _) (l := some (.int .i64 (o : Int))) (r := none) (bound_some (by omega)) rfl
    have hw : wrapA .i64 (((bs.length : Nat) : Int) - (o : Int)) = ((bs.length - o : Nat) : Int) := by rw [wA (by omega) (by omega)]; omega
    have hX : (if ((bs.length - o : Nat) : Int) < (k : Int) then ((bs.length - o : Nat) : Int) else (k : Int)) = ((min k (bs.length - o) : Nat) : Int) := by split <;> omega
    rw [c1, some_bind, hw, hX]
    obtain ⟨d1, d2, _⟩ := c2.cut (some (capCut bs.length c o)) (lo := 0) (hi := min k (bs.length - o)) (by omega) (by omega) (l := none) (r := some (.int .i64 ((min k (bs.length - o) : Nat) : Int))) rfl (bound_some (by omega))
    rw [d1, some_bind]
    dsimp only
    have e : (((((ints .u8 bs).drop (o * 1)).take ((bs.length - o) * 1)).drop (0 * 1)).take ((min k (bs.length - o) - 0) * 1)) = ints .u8 ((bs.drop o).take k) := by
      simp only [Nat.mul_one, Nat.sub_zero, List.drop_zero, Nat.zero_mul, ints, ← List.map_drop, ← List.map_take]
      rw [List.take_take]
      congr 1
      rw [List.take_eq_take_iff]
      simp
    have hlen : min k (bs.length - o) - 0 = ((bs.drop o).take k).length := by simp
    rw [e, hlen] at d2
    rw [hlen]
    obtain ⟨v, h', nx', f1, f2, f3⟩ := clone_spec n Y (some (capCut (bs.length - o) (some (capCut bs.length c o)) 0)) (d2.ext ((Ext.refl h nx).le (by omega : nx ≤ nx + 19))) (by simp; omega)
    rw [f1, some_bind]
    obtain ⟨va, vc, rfl, g1, g2⟩ := f3
    simp only [mst_, mst5_]
    exact ⟨_, h', nx', rfl, ⟨by have := f2.1; omega, fun i hi => f2.2 i (by omega)⟩, va, vc, rfl, g1, g2.less fun i hi => by unfold Old at *; omega⟩

/-- Size -/
theorem size_spec (n : Nat) (Y : YldF) (a : Option (Nat × Nat)) (m : Nat) (c : Option Nat) (h : AHeap) (nx : Nat) : callP Try.prog keepT (n + 1) Y 79 [.slice a m c] h nx = some (.int .i64 (m : Int), h, nx + 4) := by rw [F79_eq]
end Go.Proofs.Ytncmdbpoceilgaa.T
