import Derived.Test.YtalfcokiooaliaaG1
set_option linter.unusedVariables false
set_option linter.unusedSimpArgs false
namespace Go.Proofs.Ytalfcokiooaliaa.T
open Go Go.RowKit Go.Proofs

/-! ### filled, padded, Block -/
def padW (W : Nat) (l : List Nat) : List Nat := l ++ List.replicate (W - l.length) 0
theorem padW_len {W : Nat} {l : List Nat} (h : l.length ≤ W) : (padW W l).length = W := by simp [padW]; omega
theorem padW_small {W : Nat} {l : List Nat} (h : Small l) : Small (padW W l) := by
  intro x hx
  rcases List.mem_append.1 hx with hx | hx
  · exact h x hx
  · rw [List.eq_of_mem_replicate hx]; omega
theorem padW_take {W m : Nat} {l : List Nat} (h : l.length = m) : (padW W l).take m = l := by
  unfold padW; subst h; simp

theorem filled_spec {f : Nat} (hf : 1 ≤ f) (sa : Option (Nat × Nat)) (N : Nat) (sc : Bool) (P : Int) {W m : Nat} (hW : W ≤ 100000) {l : List Nat} (hl : l.length = m) (hm : m ≤ W) {a : Option (Nat × Nat)} (c : Bool) {h : AHeap} {nx : Nat} (s : Sl h nx a m 1 (ints .u8 (nints l))) :
    ∃ h', callP Try.prog keepT f Y0 25 [.agg [.slice sa N sc, .int .i64 P, .int .i64 ((W : Nat) : Int)], .slice a m c] h nx = some (.slice (some (nx + 4, 0)) W true, h', nx + 11) ∧ h' (nx + 4) = some ⟨ints .u8 (nints (padW W l)), 1, true⟩ ∧ Ext h nx h' (nx + 11) := by
  obtain ⟨f, rfl⟩ : ∃ m, f = m + 1 := ⟨f - 1, by omega⟩
  have hz : madeA [AV.int .u8 0] (Int.toNat ((W : Nat) : Int) * 1) = ints .u8 (nints (List.replicate W 0)) := by
    rw [Int.toNat_natCast, Nat.mul_one, made1]; simp [ints, nints]
  rw [F25_eq]
  dsimp only
  rw [ld_at (put_same _ _ _) rfl]
  simp only [mst_]
  rw [if_pos (by simp; omega), hz, show Int.toNat ((W : Nat) : Int) = W from Int.toNat_natCast W, show (((W : Nat) : Int) == ((W : Nat) : Int)) = true from by simp]
  by_cases h0 : m = 0
  · subst h0
    have : l = [] := List.length_eq_zero_iff.1 hl
    subst this
    have e : copD (AHeap.put (AHeap.put h nx (some ⟨[.slice sa N sc, .int .i64 P, .int .i64 ((W : Nat) : Int)], 3, true⟩)) (nx + 4) (some ⟨ints .u8 (nints (List.replicate W 0)), 1, true⟩)) (some (nx + 4, 0)) W a 0 1 = some (0, [], []) := by simp [copD]
    rw [e, some_bind]
    refine ⟨_, rfl, ?_, ⟨by omega, fun j hj => ?_⟩⟩
    · rw [puts_nil, put_same]; simp [padW]
    · rw [puts_nil, put_ne (by omega), put_ne (by omega)]
  · have x : Ext h nx (AHeap.put (AHeap.put h nx (some ⟨[.slice sa N sc, .int .i64 P, .int .i64 ((W : Nat) : Int)], 3, true⟩)) (nx + 4) (some ⟨ints .u8 (nints (List.replicate W 0)), 1, true⟩)) (nx + 5) := ⟨by omega, fun j hj => by rw [put_ne (by omega), put_ne (by omega)]⟩
    obtain ⟨rd, e⟩ := copy_spec (d := nx + 4) (n := W) (k := m) (by omega) hm (put_same _ _ _) (by simp [nints_len]) (s.ext x)
    rw [e, some_bind]
    refine ⟨_, rfl, ?_, ⟨by omega, fun j hj => ?_⟩⟩
    · rw [puts_cons, puts_nil, put_same]
      congr 2
      simp only [padW, ints, nints, List.map_append, List.map_replicate, List.drop_replicate, hl]
    · rw [puts_cons, puts_nil, put_ne (by omega), put_ne (by omega), put_ne (by omega)]

theorem pad_loop (call : YldF → CallF) (lf : Nat) {l : List Nat} {m T : Nat} (hl : l.length = m) (hT : T ≤ 100000) (hT1 : T % 128 = 0) (hT2 : T < m + 128) {h0 : AHeap} {n0 : Nat} (r : Nat) :
    ∀ (f k : Nat) (a : Option (Nat × Nat)) (c : Bool) (h : AHeap) (nx : Nat), k + r = T → r < f → m ≤ k → Ext h0 n0 h nx → OwnSl h n0 nx a k 1 (ints .u8 (nints (padW k l))) →
    ∃ a' c' h' nx', F15_L1 call Y0 lf f a k c h nx = some (.slice a' T c', h', nx') ∧ Ext h0 n0 h' nx' ∧ OwnSl h' n0 nx' a' T 1 (ints .u8 (nints (padW T l))) := by
  induction r with
  | zero =>
    intro f k a c h nx e hf hk x o
    obtain ⟨f, rfl⟩ : ∃ m, f = m + 1 := ⟨f - 1, by omega⟩
    obtain rfl : k = T := by omega
    rw [F15_L1_eq, if_neg (by rw [Int.tmod_eq_emod_of_nonneg (by omega)]; simp; omega)]
    exact ⟨a, c, h, nx + 6, rfl, x.le (by omega), o.le (by omega)⟩
  | succ r ih =>
    intro f k a c h nx e hf hk x o
    obtain ⟨f, rfl⟩ : ∃ m, f = m + 1 := ⟨f - 1, by omega⟩
    have y := x.1
    obtain ⟨E, f1, f2, f3, f4⟩ := o.push (c := c) (bytes := 1) (id := nx + 5) (id2 := nx + 6) (ws := [.int .u8 0]) rfl (growOk_of (by omega) (by omega)) (by omega) (by omega) (by omega)
    rw [F15_L1_eq, if_pos (by rw [Int.tmod_eq_emod_of_nonneg (by omega)]; simp; omega)]
    dsimp only
    rw [src_lit1, some_bind, f1, some_bind, f2]
    refine ih f (k + 1) E.a E.c _ (nx + 8) (by omega) (by omega) (by omega) ((x.then f4).le (by omega)) ?_
    have : ints .u8 (nints (padW (k + 1) l)) = ints .u8 (nints (padW k l)) ++ [.int .u8 0] := by
      unfold padW
      rw [show k + 1 - l.length = (k - l.length) + 1 from by omega, List.replicate_succ']
      simp [ints, nints]
    rw [this]
    exact f3.le (by omega)

def upTo (m : Nat) : Nat := (m + 127) / 128 * 128
theorem padded_spec {f : Nat} {l : List Nat} {m : Nat} (hf : 300 ≤ f) (hl : l.length = m) (hm : m ≤ 5000) {a : Option (Nat × Nat)} (c : Bool) {h : AHeap} {nx : Nat} (s : Sl h nx a m 1 (ints .u8 (nints l))) :
    ∃ a' c' h' nx', callP Try.prog keepT f Y0 15 [.slice a m c] h nx = some (.slice a' (upTo m) c', h', nx') ∧ Ext h nx h' nx' ∧ OwnSl h' nx nx' a' (upTo m) 1 (ints .u8 (nints (padW (upTo m) l))) := by
  obtain ⟨f, rfl⟩ : ∃ m, f = m + 1 := ⟨f - 1, by omega⟩
  obtain ⟨rd, c1⟩ := s.src'
  obtain ⟨E, f1, f2, f3, f4⟩ := copyOf (h := h) (nx := nx) (n := m) (es := 1) (bytes := 1) (id := nx + 2) (rd := rd) s.1 (growOk_of (by omega) (by omega)) (by omega)
  rw [F15_eq, c1, some_bind, f1, some_bind, f2]
  have hu : upTo m % 128 = 0 ∧ m ≤ upTo m ∧ upTo m < m + 128 := by unfold upTo; omega
  exact pad_loop (callP Try.prog keepT f) f hl (by omega) hu.1 hu.2.2 (upTo m - m) f m E.a E.c _ (nx + 4) (by omega) (by omega) (by omega) (f4.le (by omega)) (by
    have : padW m l = l := by unfold padW; rw [hl, Nat.sub_self]; simp
    rw [this]; exact f3.le (by omega))

theorem Block_spec {f : Nat} (hf : 1 ≤ f) {l : List Nat} (sl : Small l) (hl : l.length ≤ 1000000000000000) {a : Option (Nat × Nat)} (c : Bool) {h : AHeap} {nx : Nat} (s : Sl h nx a l.length 1 (ints .u8 (nints l))) :
    ∃ (D : List Nat) (oa : Option (Nat × Nat)) (oc : Bool) (h' : AHeap) (nx' : Nat), Small D ∧ 1 ≤ D.length ∧ D.length ≤ 1000 ∧ callP Try.prog keepT f Y0 9 [.slice a l.length c, .int .i64 1000] h nx = some (.slice oa D.length oc, h', nx') ∧ Ext h nx h' nx' ∧ Sl h' nx' oa D.length 1 (ints .u8 (nints D)) := by
  obtain ⟨f, rfl⟩ : ∃ m, f = m + 1 := ⟨f - 1, by omega⟩
  rw [F9_eq]
  by_cases h0 : l.length = 0
  · rw [if_pos (by simp [h0])]
    refine ⟨[7], some (nx + 4, 0), true, _, nx + 6, ?_, by simp, by simp, rfl, ⟨by omega, fun j hj => put_ne (by omega)⟩, Sl.ofBlk (put_same _ _ _) (by simp [nints]) (by omega)⟩
    intro x hx; simp at hx; omega
  · rw [if_neg (by simpa using h0)]
    obtain ⟨m, hm⟩ : ∃ m : Nat, m = min l.length 1000 := ⟨_, rfl⟩
    have e : (if (1000 : Int) < ((l.length : Nat) : Int) then (1000 : Int) else ((l.length : Nat) : Int)) = ((m : Nat) : Int) := by
      split <;> omega
    rw [e]
    obtain ⟨c1, c2, _⟩ := s.cut c (lo := 0) (hi := m) (l := none) (r := some (.int .i64 ((m : Nat) : Int))) (by omega) (by omega) bound_none (bound_some (by omega))
    rw [Nat.sub_zero] at c1 c2
    obtain ⟨rd, c3⟩ := c2.src'
    obtain ⟨E, f1, f2, f3, f4⟩ := copyOf (h := h) (nx := nx) (n := m) (es := 1) (bytes := 1) (id := nx + 10) (rd := rd) c2.1 (growOk_of (by omega) (by omega)) (by omega)
    rw [c1, some_bind]
    dsimp only
    rw [c3, some_bind, f1, some_bind, f2]
    have hD : (l.take m).length = m := by rw [List.length_take]; omega
    refine ⟨l.take m, E.a, E.c, _, nx + 12, fun x hx => sl x (List.mem_of_mem_take hx), by omega, by omega, by rw [hD], f4.le (by omega), ?_⟩
    rw [hD]
    have : ((ints .u8 (nints l)).drop (0 * 1)).take (m * 1) = ints .u8 (nints (l.take m)) := by
      rw [Nat.zero_mul, List.drop_zero, Nat.mul_one, nints_take, ints, ints, List.map_take]
    rw [this] at f3
    exact (f3.le (by omega)).sl

end Go.Proofs.Ytalfcokiooaliaa.T
