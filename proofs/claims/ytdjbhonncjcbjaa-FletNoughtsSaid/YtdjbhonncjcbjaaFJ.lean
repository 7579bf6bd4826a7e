import Derived.Test.YtdjbhonncjcbjaaF6
set_option linter.unusedVariables false
set_option linter.unusedSimpArgs false
namespace Go.Proofs.Ytdjbhonncjcbjaa.T
open Go Go.RowKit Go.Proofs

def ofH (h : AHeap) (c : Nat) (s : Sm) : AHeap := ((h.put c (some ⟨s.cells, 4, true⟩)).put (c + 1) (some ⟨[(.int .i64 0), (.int .i64 0), (.int .i64 0), (.int .i64 0)], 1, true⟩)).put (c + 1) (some ⟨s.cells, 1, true⟩)
theorem of_eq {k : Nat} (hk : 1 ≤ k) (s : Sm) (h : AHeap) (nx : Nat) : callP Try.prog keepT k 38 [.agg s.cells] h nx = some (.agg s.cells, ofH h nx s, nx + 12) := by
  obtain ⟨k, rfl⟩ : ∃ m, k = m + 1 := ⟨k - 1, by omega⟩
  have ne1 : nx ≠ nx + 1 := by omega
  show callP Try.prog keepT (k + 1) 38 [.agg [.int .i64 (wrapA .i64 s.a), .int .i64 (wrapA .i64 s.b), .int .i64 (wrapA .i64 s.c), .int .i64 (wrapA .i64 s.d)]] h nx = _
  rw [F38_eq]
  rw [ld_at ((put_ne ne1).trans (put_same _ _ _)) rfl]
  simp only [bind_some', asI_int, asB_bool, asStr_str, asP_ptr, asSl_sl, asAgg_1, asAgg_2, asAgg_3, asAgg_4, asTup_0, asTup_2, asTup_3, asTup_4, if_true', if_false', if_not_true', if_not_false', getD_0, getD_1, getD_2, getD_3]
  rw [ld_at ((put_ne ne1).trans (put_same _ _ _)) rfl]
  simp only [bind_some', asI_int, asB_bool, asStr_str, asP_ptr, asSl_sl, asAgg_1, asAgg_2, asAgg_3, asAgg_4, asTup_0, asTup_2, asTup_3, asTup_4, if_true', if_false', if_not_true', if_not_false', getD_0, getD_1, getD_2, getD_3]
  rw [ld_at ((put_ne ne1).trans (put_same _ _ _)) rfl]
  simp only [bind_some', asI_int, asB_bool, asStr_str, asP_ptr, asSl_sl, asAgg_1, asAgg_2, asAgg_3, asAgg_4, asTup_0, asTup_2, asTup_3, asTup_4, if_true', if_false', if_not_true', if_not_false', getD_0, getD_1, getD_2, getD_3]
  rw [ld_at ((put_ne ne1).trans (put_same _ _ _)) rfl]
  simp only [bind_some', asI_int, asB_bool, asStr_str, asP_ptr, asSl_sl, asAgg_1, asAgg_2, asAgg_3, asAgg_4, asTup_0, asTup_2, asTup_3, asTup_4, if_true', if_false', if_not_true', if_not_false', getD_0, getD_1, getD_2, getD_3]
  rw [st_all (put_same _ _ _) (by rfl) (by rfl) (by rfl)]
  rw [ldr_all (put_same _ _ _) (by rfl)]
  rfl
theorem ofH_puts {h : AHeap} {c : Nat} {s : Sm} {ss : List (Nat × Option ABlk)} (h1 : ∀ p ∈ ss, p.1 ≠ c ∧ p.1 ≠ c + 1) : ofH (h.puts ss) c s = (ofH h c s).puts ss := by
  have a1 : c ∉ ss.map (·.1) := fun hx => by obtain ⟨p, hp, e⟩ := List.mem_map.1 hx; exact (h1 p hp).1 e
  have a2 : c + 1 ∉ ss.map (·.1) := fun hx => by obtain ⟨p, hp, e⟩ := List.mem_map.1 hx; exact (h1 p hp).2 e
  unfold ofH
  rw [put_puts _ a2, put_puts _ a2, put_puts _ a1]
theorem ofH_ext (h : AHeap) (c : Nat) (s : Sm) : Ext h c (ofH h c s) (c + 12) := ⟨by omega, fun i hi => by unfold ofH; rw [put_ne (by omega), put_ne (by omega), put_ne (by omega)]⟩

theorem wrap_mulr (x y : Int) : wrapA .i64 (x * wrapA .i64 y) = wrapA .i64 (x * y) := by
  show wrap64 (x * wrap64 y) = wrap64 (x * y)
  obtain ⟨q, hq⟩ : ∃ q, wrap64 y = y + 18446744073709551616 * q := ⟨-((y + 9223372036854775808) / 18446744073709551616), by unfold wrap64; omega⟩
  have : x * wrap64 y = x * y + 18446744073709551616 * (x * q) := by rw [hq, Int.mul_add, Int.mul_left_comm]
  rw [this]
  generalize x * y = z
  generalize x * q = r
  unfold wrap64; omega

/-- Cells of numbers, wrapped. -/
def wcells (E : List Int) : List AV := E.map fun x => .int .i64 (wrapA .i64 x)
theorem wcells_get {E : List Int} {i : Nat} (hi : i < E.length) : (wcells E)[i]? = some (.int .i64 (wrapA .i64 E[i])) := by
  simp [wcells, List.getElem?_map, List.getElem?_eq_getElem hi]

theorem join_step (call : CallF) (lf n0 r : Nat) (x6 : Option (Nat × Nat)) {i8 i9 i10 : Nat} (h89 : i8 ≠ i9) (h109 : i10 ≠ i9) {A Fa E : List Int} (hA : A.length = 4) (hF : Fa.length = 4) (hE : E.length = 4) (hFw : ∀ x ∈ Fa, wrapA .i64 x = x) {i k : Nat} (hk : k ≤ i) (hi : i < 4) (x40 : Int) (h : AHeap) (nx : Nat)
    (b8 : h i8 = some ⟨wcells A, 1, true⟩) (b9 : h i9 = some ⟨wcells E, 1, true⟩) (b10 : h i10 = some ⟨wcells Fa, 1, true⟩) :
    F25_L3 call lf n0 (r + 1) x6 (some (i8, 0)) (some (i9, 0)) (some (i10, 0)) (i : Int) (k : Int) x40 h nx =
      F25_L3 call lf n0 r x6 (some (i8, 0)) (some (i9, 0)) (some (i10, 0)) (i : Int) ((k + 1 : Nat) : Int) x40 (h.put i9 (some ⟨wcells (E.set i (E[i] + Fa[i - k] * A[k])), 1, true⟩)) (nx + 21) := by
  have w1 : wrapA .i64 ((i : Int) - (k : Int)) = ((i - k : Nat) : Int) := by rw [wA (by omega) (by omega)]; omega
  have w2 : wrapA .i64 ((k : Int) + 1) = ((k + 1 : Nat) : Int) := by clear w1; rw [wA (by omega) (by omega)]; omega
  have q1 : 0 ≤ (i : Int) ∧ (i : Int) < ((4 : Nat) : Int) := by clear w1 w2; omega
  have q2 : 0 ≤ ((i - k : Nat) : Int) ∧ ((i - k : Nat) : Int) < ((4 : Nat) : Int) := by clear w1 w2; omega
  have q3 : 0 ≤ (k : Int) ∧ (k : Int) < ((4 : Nat) : Int) := by clear w1 w2; omega
  have hki : (k : Int) ≤ (i : Int) := by clear w1 w2; omega
  have hFi : wrapA .i64 Fa[i - k] = Fa[i - k] := hFw _ (List.getElem_mem _)
  rw [F25_L3_eq, if_pos (by simpa using hk), some_bind, if_pos q1, Int.toNat_natCast, Nat.mul_one, Nat.zero_add, ld_at b9 (wcells_get (by clear w1 w2; omega))]
  simp only [bind_some', asI_int, asB_bool, asStr_str, asP_ptr, asSl_sl, asAgg_1, asAgg_2, asAgg_3, asAgg_4, asTup_0, asTup_2, asTup_3, asTup_4, if_true', if_false', if_not_true', if_not_false', getD_0, getD_1, getD_2, getD_3]
  rw [w1, if_pos q2, Int.toNat_natCast, Nat.mul_one, Nat.zero_add, ld_at b10 (wcells_get (by clear w1 w2; omega))]
  simp only [bind_some', asI_int, asB_bool, asStr_str, asP_ptr, asSl_sl, asAgg_1, asAgg_2, asAgg_3, asAgg_4, asTup_0, asTup_2, asTup_3, asTup_4, if_true', if_false', if_not_true', if_not_false', getD_0, getD_1, getD_2, getD_3]
  rw [if_pos q3, Int.toNat_natCast, Nat.mul_one, Nat.zero_add, ld_at b8 (wcells_get (by clear w1 w2; omega))]
  simp only [bind_some', asI_int, asB_bool, asStr_str, asP_ptr, asSl_sl, asAgg_1, asAgg_2, asAgg_3, asAgg_4, asTup_0, asTup_2, asTup_3, asTup_4, if_true', if_false', if_not_true', if_not_false', getD_0, getD_1, getD_2, getD_3]
  rw [if_pos q1, hFi, wrap_mulr, wrap_add, w2]
  rw [st_to (cs' := wcells (E.set i (E[i] + Fa[i - k] * A[k]))) b9 rfl (by simp [wcells]; omega) (by simp [wcells, List.map_set])]

theorem join_stepC (call : CallF) (lf n0 r : Nat) (x6 : Option (Nat × Nat)) {i8 i9 i10 : Nat} (h89 : i8 ≠ i9) (h109 : i10 ≠ i9) {A Fa E E' : List Int} (hA : A.length = 4) (hF : Fa.length = 4) (hE : E.length = 4) (hFw : ∀ x ∈ Fa, wrapA .i64 x = x) {i k : Nat} {ii kk kk' : Int} (hk : k ≤ i) (hi : i < 4) (hii : ii = (i : Int)) (hkk : kk = (k : Int)) (hkk' : kk' = ((k + 1 : Nat) : Int)) (hE' : E.set i (E[i] + Fa[i - k] * A[k]) = E') (x40 : Int) (h : AHeap) (nx : Nat)
    (b8 : h i8 = some ⟨wcells A, 1, true⟩) (b9 : h i9 = some ⟨wcells E, 1, true⟩) (b10 : h i10 = some ⟨wcells Fa, 1, true⟩) :
    F25_L3 call lf n0 (r + 1) x6 (some (i8, 0)) (some (i9, 0)) (some (i10, 0)) ii kk x40 h nx =
      F25_L3 call lf n0 r x6 (some (i8, 0)) (some (i9, 0)) (some (i10, 0)) ii kk' x40 (h.put i9 (some ⟨wcells E', 1, true⟩)) (nx + 21) := by
  subst hii; subst hkk; subst hkk'; subst hE'
  exact join_step call lf n0 r x6 h89 h109 hA hF hE hFw hk hi x40 h nx b8 b9 b10

theorem join_loop (call : CallF) (lf : Nat) (x6 : Option (Nat × Nat)) {i8 i9 i10 : Nat} (h89 : i8 ≠ i9) (h109 : i10 ≠ i9) (a b c d n t2 t3 u v w z : Int) (hFw : ∀ x ∈ [1, n, t2, t3], wrapA .i64 x = x) (h : AHeap) (nx r : Nat)
    (b8 : h i8 = some ⟨wcells [a, b, c, d], 1, true⟩) (b9 : h i9 = some ⟨wcells [u, v, w, z], 1, true⟩) (b10 : h i10 = some ⟨wcells [1, n, t2, t3], 1, true⟩) :
    ∃ nx', nx ≤ nx' ∧ F25_L2 call (lf + 5) (r + 4) x6 (some (i8, 0)) (some (i9, 0)) (some (i10, 0)) 0 h nx = F25_L2 call (lf + 5) r x6 (some (i8, 0)) (some (i9, 0)) (some (i10, 0)) 4 (h.put i9 (some ⟨wcells [(u + 1 * a), ((v + n * a) + 1 * b), (((w + t2 * a) + n * b) + 1 * c), ((((z + t3 * a) + t2 * b) + n * c) + 1 * d)], 1, true⟩)) nx' := by
  rw [F25_L2_eq, if_pos (by decide)]
  rw [join_stepC call (lf + 5) _ _ x6 h89 h109 (A := [a, b, c, d]) (Fa := [1, n, t2, t3]) (E := [u, v, w, z]) (E' := [(u + 1 * a), v, w, z]) rfl rfl rfl hFw (i := 0) (k := 0) (ii := 0) (kk := 0) (kk' := 1) (by omega) (by omega) rfl rfl rfl rfl _ _ _ b8 b9 b10]
  rw [F25_L3_eq, if_neg (by decide), w01]
  rw [F25_L2_eq, if_pos (by decide)]
  rw [join_stepC call (lf + 5) _ _ x6 h89 h109 (A := [a, b, c, d]) (Fa := [1, n, t2, t3]) (E := [(u + 1 * a), v, w, z]) (E' := [(u + 1 * a), (v + n * a), w, z]) rfl rfl rfl hFw (i := 1) (k := 0) (ii := 1) (kk := 0) (kk' := 1) (by omega) (by omega) rfl rfl rfl rfl _ _ _ ((put_ne h89).trans b8) (put_same _ _ _) ((put_ne h109).trans b10), put_put]
  rw [join_stepC call (lf + 5) _ _ x6 h89 h109 (A := [a, b, c, d]) (Fa := [1, n, t2, t3]) (E := [(u + 1 * a), (v + n * a), w, z]) (E' := [(u + 1 * a), ((v + n * a) + 1 * b), w, z]) rfl rfl rfl hFw (i := 1) (k := 1) (ii := 1) (kk := 1) (kk' := 2) (by omega) (by omega) rfl rfl rfl rfl _ _ _ ((put_ne h89).trans b8) (put_same _ _ _) ((put_ne h109).trans b10), put_put]
  rw [F25_L3_eq, if_neg (by decide), w12]
  rw [F25_L2_eq, if_pos (by decide)]
  rw [join_stepC call (lf + 5) _ _ x6 h89 h109 (A := [a, b, c, d]) (Fa := [1, n, t2, t3]) (E := [(u + 1 * a), ((v + n * a) + 1 * b), w, z]) (E' := [(u + 1 * a), ((v + n * a) + 1 * b), (w + t2 * a), z]) rfl rfl rfl hFw (i := 2) (k := 0) (ii := 2) (kk := 0) (kk' := 1) (by omega) (by omega) rfl rfl rfl rfl _ _ _ ((put_ne h89).trans b8) (put_same _ _ _) ((put_ne h109).trans b10), put_put]
  rw [join_stepC call (lf + 5) _ _ x6 h89 h109 (A := [a, b, c, d]) (Fa := [1, n, t2, t3]) (E := [(u + 1 * a), ((v + n * a) + 1 * b), (w + t2 * a), z]) (E' := [(u + 1 * a), ((v + n * a) + 1 * b), ((w + t2 * a) + n * b), z]) rfl rfl rfl hFw (i := 2) (k := 1) (ii := 2) (kk := 1) (kk' := 2) (by omega) (by omega) rfl rfl rfl rfl _ _ _ ((put_ne h89).trans b8) (put_same _ _ _) ((put_ne h109).trans b10), put_put]
  rw [join_stepC call (lf + 5) _ _ x6 h89 h109 (A := [a, b, c, d]) (Fa := [1, n, t2, t3]) (E := [(u + 1 * a), ((v + n * a) + 1 * b), ((w + t2 * a) + n * b), z]) (E' := [(u + 1 * a), ((v + n * a) + 1 * b), (((w + t2 * a) + n * b) + 1 * c), z]) rfl rfl rfl hFw (i := 2) (k := 2) (ii := 2) (kk := 2) (kk' := 3) (by omega) (by omega) rfl rfl rfl rfl _ _ _ ((put_ne h89).trans b8) (put_same _ _ _) ((put_ne h109).trans b10), put_put]
  rw [F25_L3_eq, if_neg (by decide), w23]
  rw [F25_L2_eq, if_pos (by decide)]
  rw [join_stepC call (lf + 5) _ _ x6 h89 h109 (A := [a, b, c, d]) (Fa := [1, n, t2, t3]) (E := [(u + 1 * a), ((v + n * a) + 1 * b), (((w + t2 * a) + n * b) + 1 * c), z]) (E' := [(u + 1 * a), ((v + n * a) + 1 * b), (((w + t2 * a) + n * b) + 1 * c), (z + t3 * a)]) rfl rfl rfl hFw (i := 3) (k := 0) (ii := 3) (kk := 0) (kk' := 1) (by omega) (by omega) rfl rfl rfl rfl _ _ _ ((put_ne h89).trans b8) (put_same _ _ _) ((put_ne h109).trans b10), put_put]
  rw [join_stepC call (lf + 5) _ _ x6 h89 h109 (A := [a, b, c, d]) (Fa := [1, n, t2, t3]) (E := [(u + 1 * a), ((v + n * a) + 1 * b), (((w + t2 * a) + n * b) + 1 * c), (z + t3 * a)]) (E' := [(u + 1 * a), ((v + n * a) + 1 * b), (((w + t2 * a) + n * b) + 1 * c), ((z + t3 * a) + t2 * b)]) rfl rfl rfl hFw (i := 3) (k := 1) (ii := 3) (kk := 1) (kk' := 2) (by omega) (by omega) rfl rfl rfl rfl _ _ _ ((put_ne h89).trans b8) (put_same _ _ _) ((put_ne h109).trans b10), put_put]
  rw [join_stepC call (lf + 5) _ _ x6 h89 h109 (A := [a, b, c, d]) (Fa := [1, n, t2, t3]) (E := [(u + 1 * a), ((v + n * a) + 1 * b), (((w + t2 * a) + n * b) + 1 * c), ((z + t3 * a) + t2 * b)]) (E' := [(u + 1 * a), ((v + n * a) + 1 * b), (((w + t2 * a) + n * b) + 1 * c), (((z + t3 * a) + t2 * b) + n * c)]) rfl rfl rfl hFw (i := 3) (k := 2) (ii := 3) (kk := 2) (kk' := 3) (by omega) (by omega) rfl rfl rfl rfl _ _ _ ((put_ne h89).trans b8) (put_same _ _ _) ((put_ne h109).trans b10), put_put]
  rw [join_stepC call (lf + 5) _ _ x6 h89 h109 (A := [a, b, c, d]) (Fa := [1, n, t2, t3]) (E := [(u + 1 * a), ((v + n * a) + 1 * b), (((w + t2 * a) + n * b) + 1 * c), (((z + t3 * a) + t2 * b) + n * c)]) (E' := [(u + 1 * a), ((v + n * a) + 1 * b), (((w + t2 * a) + n * b) + 1 * c), ((((z + t3 * a) + t2 * b) + n * c) + 1 * d)]) rfl rfl rfl hFw (i := 3) (k := 3) (ii := 3) (kk := 3) (kk' := 4) (by omega) (by omega) rfl rfl rfl rfl _ _ _ ((put_ne h89).trans b8) (put_same _ _ _) ((put_ne h109).trans b10), put_put]
  rw [F25_L3_eq, if_neg (by decide), w34]
  exact ⟨_, by omega, rfl⟩

end Go.Proofs.Ytdjbhonncjcbjaa.T
