import Derived.Test.YtdjbhonncjcbjaaFJ
set_option linter.unusedVariables false
set_option linter.unusedSimpArgs false
namespace Go.Proofs.Ytdjbhonncjcbjaa.T
open Go Go.RowKit Go.Proofs

def T2 : Nat → Int | 0 => 0 | n + 1 => T2 n + (n + 1)
def T3 : Nat → Int | 0 => 0 | n + 1 => T3 n + T2 (n + 1)
theorem tt_all : ((List.range 201).all fun n => decide ((n : Int) * ((n : Int) + 1) / 2 = T2 n) && decide ((n : Int) * ((n : Int) + 1) / 2 * ((n : Int) + 2) / 3 = T3 n) && decide (0 ≤ T2 n) && decide (T2 n ≤ 100000) && decide (0 ≤ T3 n) && decide (T3 n ≤ 10000000)) = true := by decide +kernel
theorem tt (n : Nat) (hn : n ≤ 200) : (n : Int) * ((n : Int) + 1) / 2 = T2 n ∧ T2 n * ((n : Int) + 2) / 3 = T3 n ∧ 0 ≤ T2 n ∧ T2 n ≤ 100000 ∧ 0 ≤ T3 n ∧ T3 n ≤ 10000000 := by
  have h := List.all_eq_true.1 tt_all n (List.mem_range.2 (by omega))
  simp only [Bool.and_eq_true, decide_eq_true_eq] at h
  obtain ⟨⟨⟨⟨⟨a, b⟩, c⟩, d⟩, e⟩, f⟩ := h
  exact ⟨a, by rw [← a]; exact b, c, d, e, f⟩

def Jn (s t : Sm) (n : Nat) : Sm := ⟨t.a + 1 * s.a, t.b + n * s.a + 1 * s.b, t.c + T2 n * s.a + n * s.b + 1 * s.c, t.d + T3 n * s.a + T2 n * s.b + n * s.c + 1 * s.d⟩

theorem Jn_step (s v : Sm) (n : Nat) (w : Int) : (Jn s v n).step w = Jn s (v.step w) (n + 1) := by
  have e1 : ((n + 1 : Nat) : Int) = (n : Int) + 1 := by omega
  simp only [Jn, Sm.step, T2, T3, e1, Int.add_mul, Int.one_mul, Sm.mk.injEq]
  refine ⟨by omega, by omega, by omega, by omega⟩
theorem Jn_fold (s : Sm) (ws : List Int) : ∀ (v : Sm) (n : Nat), (Jn s v n).fold ws = Jn s (v.fold ws) (n + ws.length) := by
  induction ws with
  | nil => intro v n; rfl
  | cons w ws ih =>
    intro v n
    show ((Jn s v n).step w).fold ws = Jn s ((v.step w).fold ws) _
    rw [Jn_step, ih, List.length_cons]
    congr 1; omega
theorem join_law (s : Sm) (ws : List Int) : s.fold ws = Jn s (Sm.zero.fold ws) ws.length := by
  have := Jn_fold s ws Sm.zero 0
  rw [Nat.zero_add] at this
  rw [← this]
  congr 1
  simp [Jn, Sm.zero, T2, T3]

theorem join_loop' (call : CallF) (lf r : Nat) (hlf : 5 ≤ lf) (hr : 4 < r) (x6 : Option (Nat × Nat)) {i8 i9 i10 : Nat} (h89 : i8 ≠ i9) (h109 : i10 ≠ i9) (s t : Sm) (n : Nat) (hFw : ∀ x ∈ [1, (n : Int), T2 n, T3 n], wrapA .i64 x = x) (h : AHeap) (nx : Nat)
    (b8 : h i8 = some ⟨s.cells, 1, true⟩) (b9 : h i9 = some ⟨t.cells, 1, true⟩) (b10 : h i10 = some ⟨wcells [1, n, T2 n, T3 n], 1, true⟩) :
    ∃ r' nx', nx ≤ nx' ∧ F25_L2 call lf r x6 (some (i8, 0)) (some (i9, 0)) (some (i10, 0)) 0 h nx = F25_L2 call lf (r' + 1) x6 (some (i8, 0)) (some (i9, 0)) (some (i10, 0)) 4 (h.put i9 (some ⟨(Jn s t n).cells, 1, true⟩)) nx' := by
  obtain ⟨lf, rfl⟩ : ∃ m, lf = m + 5 := ⟨lf - 5, by omega⟩
  obtain ⟨r, rfl⟩ : ∃ m, r = m + 1 + 4 := ⟨r - 5, by omega⟩
  obtain ⟨nx', l, e⟩ := join_loop call lf x6 h89 h109 s.a s.b s.c s.d n (T2 n) (T3 n) t.a t.b t.c t.d hFw h nx (r + 1) b8 b9 b10
  exact ⟨r, nx', l, e⟩

theorem join_spec {k : Nat} (hk : 40 ≤ k) (s t : Sm) (n : Nat) (hn : n ≤ 200) (h : AHeap) (nx : Nat) :
    ∃ h' nx', callP Try.prog keepT k 25 [.agg s.cells, .agg t.cells, .int .i64 (n : Int)] h nx = some (.tuple [.agg (Jn s t n).cells, .int .i64 0], h', nx') ∧ Ext h nx h' nx' := by
  obtain ⟨k, rfl⟩ : ∃ m, k = m + 1 := ⟨k - 1, by omega⟩
  obtain ⟨f1, f2, f3, f4, f5, f6⟩ := tt n hn
  have hnn : 0 ≤ (n : Int) * ((n : Int) + 1) := Int.mul_nonneg (by omega) (by omega)
  have hnb : (n : Int) * ((n : Int) + 1) ≤ 200 * 201 := Int.mul_le_mul (by omega) (by omega) (by omega) (by omega)
  have hm0 : 0 ≤ T2 n * ((n : Int) + 2) := Int.mul_nonneg f3 (by omega)
  have hm1 : T2 n * ((n : Int) + 2) ≤ 100000 * 202 := Int.mul_le_mul f4 (by omega) (by omega) (by omega)
  have w1 : wrapA .i64 ((n : Int) + 1) = (n : Int) + 1 := wA (by omega) (by omega)
  have w2 : wrapA .i64 ((n : Int) + 2) = (n : Int) + 2 := by clear w1; exact wA (by omega) (by omega)
  have w3 : wrapA .i64 (Int.tdiv (wrapA .i64 ((n : Int) * ((n : Int) + 1))) 2) = T2 n := by
    clear w1 w2; rw [wA (x := (n : Int) * ((n : Int) + 1)) (by omega) (by omega), Int.tdiv_eq_ediv_of_nonneg hnn, f1, wA (by omega) (by omega)]
  have w4 : wrapA .i64 (Int.tdiv (wrapA .i64 (T2 n * ((n : Int) + 2))) 3) = T3 n := by
    clear w1 w2 w3; rw [wA (x := T2 n * ((n : Int) + 2)) (by omega) (by omega), Int.tdiv_eq_ediv_of_nonneg hm0, f2, wA (by omega) (by omega)]
  show ∃ h' nx', callP Try.prog keepT (k + 1) 25 [.agg [.int .i64 (wrapA .i64 s.a), .int .i64 (wrapA .i64 s.b), .int .i64 (wrapA .i64 s.c), .int .i64 (wrapA .i64 s.d)], .agg [.int .i64 (wrapA .i64 t.a), .int .i64 (wrapA .i64 t.b), .int .i64 (wrapA .i64 t.c), .int .i64 (wrapA .i64 t.d)], .int .i64 (n : Int)] h nx = _ ∧ _
  rw [F25_eq, if_neg (by simp), if_neg (by simp; clear w1 w2 w3 w4; omega)]
  generalize hH : ((h.put nx (some ⟨[.int .i64 (wrapA .i64 s.a), .int .i64 (wrapA .i64 s.b), .int .i64 (wrapA .i64 s.c), .int .i64 (wrapA .i64 s.d)], 4, true⟩)).put (nx + 1) (some ⟨[.int .i64 (wrapA .i64 t.a), .int .i64 (wrapA .i64 t.b), .int .i64 (wrapA .i64 t.c), .int .i64 (wrapA .i64 t.d)], 4, true⟩)).put (nx + 2) (some ⟨[.int .i64 0, .int .i64 0, .int .i64 0, .int .i64 0], 4, true⟩) = H
  have b0 : H nx = some ⟨s.cells, 4, true⟩ := by rw [← hH, put_ne (by clear w1 w2 w3 w4; omega), put_ne (by clear w1 w2 w3 w4; omega), put_same]; rfl
  have b1 : H (nx + 1) = some ⟨t.cells, 4, true⟩ := by rw [← hH, put_ne (by clear w1 w2 w3 w4; omega), put_same]; rfl
  have b2 : H (nx + 2) = some ⟨[.int .i64 0, .int .i64 0, .int .i64 0, .int .i64 0], 4, true⟩ := by rw [← hH, put_same]
  have hxH : Ext h nx H (nx + 10) := ⟨by clear w1 w2 w3 w4; omega, fun i hi => by rw [← hH, put_ne (by clear w1 w2 w3 w4; omega), put_ne (by clear w1 w2 w3 w4; omega), put_ne (by clear w1 w2 w3 w4; omega)]⟩
  clear hH
  rw [F25_J1_eq, some_bind, ldr_all b0 (by rfl), asAgg_sm]
  simp only [bind_some', asI_int, asB_bool, asStr_str, asP_ptr, asSl_sl, asAgg_1, asAgg_2, asAgg_3, asAgg_4, asTup_0, asTup_2, asTup_3, asTup_4, if_true', if_false', if_not_true', if_not_false', getD_0, getD_1, getD_2, getD_3]
  have o1 := fun hh cc => of_eq (k := k) (by clear w1 w2 w3 w4; omega) s hh cc
  have o2 := fun hh cc => of_eq (k := k) (by clear w1 w2 w3 w4; omega) t hh cc
  have o1' : ∀ hh cc, callP Try.prog keepT k 38 [.agg [.int .i64 (wrapA .i64 s.a), .int .i64 (wrapA .i64 s.b), .int .i64 (wrapA .i64 s.c), .int .i64 (wrapA .i64 s.d)]] hh cc = some (.agg s.cells, ofH hh cc s, cc + 12) := o1
  have o2' : ∀ hh cc, callP Try.prog keepT k 38 [.agg [.int .i64 (wrapA .i64 t.a), .int .i64 (wrapA .i64 t.b), .int .i64 (wrapA .i64 t.c), .int .i64 (wrapA .i64 t.d)]] hh cc = some (.agg t.cells, ofH hh cc t, cc + 12) := o2
  rw [o1']
  simp only [bind_some', asI_int, asB_bool, asStr_str, asP_ptr, asSl_sl, asAgg_1, asAgg_2, asAgg_3, asAgg_4, asTup_0, asTup_2, asTup_3, asTup_4, if_true', if_false', if_not_true', if_not_false', getD_0, getD_1, getD_2, getD_3]
  rw [show asRow (AV.agg s.cells) = some s.cells from rfl, some_bind]
  have x1 := ofH_ext H (nx + 10 + 8) s
  rw [ldr_all ((x1.2 (nx + 1) (by clear w1 w2 w3 w4; omega)).trans b1) (by rfl), asAgg_sm]
  simp only [bind_some', asI_int, asB_bool, asStr_str, asP_ptr, asSl_sl, asAgg_1, asAgg_2, asAgg_3, asAgg_4, asTup_0, asTup_2, asTup_3, asTup_4, if_true', if_false', if_not_true', if_not_false', getD_0, getD_1, getD_2, getD_3]
  rw [o2']
  simp only [bind_some', asI_int, asB_bool, asStr_str, asP_ptr, asSl_sl, asAgg_1, asAgg_2, asAgg_3, asAgg_4, asTup_0, asTup_2, asTup_3, asTup_4, if_true', if_false', if_not_true', if_not_false', getD_0, getD_1, getD_2, getD_3]
  rw [show asRow (AV.agg t.cells) = some t.cells from rfl, some_bind]
  have x2 := ofH_ext (ofH H (nx + 10 + 8) s) (nx + 10 + 8 + 12) t
  have k1 : AllKept [(H, ofH H (nx + 10 + 8) s, [nx + 1])] := ⟨fun x hx => by simp at hx; subst hx; exact x1.2 _ (by clear w1 w2 w3 w4; omega), trivial⟩
  have r1 : AllRob (callP Try.prog keepT k) [⟨38, [.agg [.int .i64 (wrapA .i64 s.a), .int .i64 (wrapA .i64 s.b), .int .i64 (wrapA .i64 s.c), .int .i64 (wrapA .i64 s.d)]], .agg s.cells, H, ofH H (nx + 10 + 8) s, nx + 10 + 8, nx + 10 + 8 + 12, [nx + 10 + 4, nx + 10 + 5]⟩, ⟨38, [.agg [.int .i64 (wrapA .i64 t.a), .int .i64 (wrapA .i64 t.b), .int .i64 (wrapA .i64 t.c), .int .i64 (wrapA .i64 t.d)]], .agg t.cells, ofH H (nx + 10 + 8) s, ofH (ofH H (nx + 10 + 8) s) (nx + 10 + 8 + 12) t, nx + 10 + 8 + 12, nx + 10 + 8 + 12 + 12, [nx + 10 + 4, nx + 10 + 5]⟩] :=
    ⟨fun ss hss => by
      have hs : ∀ p ∈ ss, p.1 ≠ nx + 10 + 8 ∧ p.1 ≠ nx + 10 + 8 + 1 := fun p hp => by have := hss p hp; simp at this; clear w1 w2 w3 w4; omega
      rw [o1', ofH_puts hs], fun ss hss => by
      have hs : ∀ p ∈ ss, p.1 ≠ nx + 10 + 8 + 12 ∧ p.1 ≠ nx + 10 + 8 + 12 + 1 := fun p hp => by have := hss p hp; simp at this; clear w1 w2 w3 w4; omega
      rw [o2', ofH_puts hs], trivial⟩
  generalize hG : ofH (ofH H (nx + 10 + 8) s) (nx + 10 + 8 + 12) t = G at *
  have hxG : ∀ j, j < nx + 10 → G j = H j := fun j hj => by rw [x2.2 j (by clear w1 w2 w3 w4; omega), x1.2 j (by clear w1 w2 w3 w4; omega)]
  rw [st_all ((put_ne (by clear w1 w2 w3 w4; omega)).trans (put_same _ _ _)) (by rfl) (by rfl) (by rfl)]
  rw [st_all ((put_ne (by clear w1 w2 w3 w4; omega)).trans (put_same _ _ _)) (by rfl) (by rfl) (by rfl)]
  rw [ifApart_pos (by exact ⟨fun x h1 h2 => by simp at h1 h2; clear w1 w2 w3 w4; omega, fun x h1 h2 => by simp at h1 h2; clear w1 w2 w3 w4; omega, fun x h1 h2 => by simp at h1 h2; clear w1 w2 w3 w4; omega, fun x h1 h2 => by simp at h1 h2; clear w1 w2 w3 w4; omega, trivial⟩)]
  rw [ifKept_pos k1, ifRob_pos r1]
  rw [w1, w2, w3, w4, st_all (put_same _ _ _) (by rfl) (by rfl) (by rfl)]
  have fw : ∀ x ∈ [1, (n : Int), T2 n, T3 n], wrapA .i64 x = x := by
    intro x hx
    clear w1 w2 w3 w4
    refine wA ?_ ?_ <;> · simp at hx; omega
  have hc : [AV.int .i64 1, .int .i64 (n : Int), .int .i64 (T2 n), .int .i64 (T3 n)] = wcells [1, n, T2 n, T3 n] := by
    simp only [wcells, List.map_cons, List.map_nil, fw 1 (by simp), fw n (by simp), fw (T2 n) (by simp), fw (T3 n) (by simp)]
  rw [hc]
  clear w1 w2 w3 w4 hc
  rw [show ([.int .i64 (wrapA .i64 s.a), .int .i64 (wrapA .i64 s.b), .int .i64 (wrapA .i64 s.c), .int .i64 (wrapA .i64 s.d)] : List AV) = s.cells from rfl] at *
  clear o1 o2 o1' o2' r1 k1
  have fin : ∀ (B : AHeap) (nn : Nat), B (nx + 10 + 4) = some ⟨s.cells, 1, true⟩ → B (nx + 10 + 5) = some ⟨t.cells, 1, true⟩ → B (nx + 10 + 8 + 12 + 12 + 16) = some ⟨wcells [1, n, T2 n, T3 n], 1, true⟩ → (∀ j, j < nx + 10 → B j = H j) → nx + 60 ≤ nn →
      ∃ h' nx', F25_L2 (callP Try.prog keepT k) k k (some (nx + 2, 0)) (some (nx + 10 + 4, 0)) (some (nx + 10 + 5, 0)) (some (nx + 10 + 8 + 12 + 12 + 16, 0)) 0 B nn = some (.tuple [.agg (Jn s t n).cells, .int .i64 0], h', nx') ∧ Ext h nx h' nx' := by
    intro B nn q8 q9 q10 qo hnn
    obtain ⟨r', n1, l1, e1⟩ := join_loop' (callP Try.prog keepT k) k k (by omega) (by omega) (some (nx + 2, 0)) (i8 := nx + 10 + 4) (i9 := nx + 10 + 5) (i10 := nx + 10 + 8 + 12 + 12 + 16) (by omega) (by omega) s t n fw B nn q8 q9 q10
    generalize Jn s t n = J at *
    obtain ⟨h1, n2, e2, x3⟩ := sum_spec (k := k) (by omega) J (B.put (nx + 10 + 5) (some ⟨J.cells, 1, true⟩)) (n1 + 5)
    have y3 := x3.1
    rw [e1, F25_L2_eq, if_neg (by decide), some_bind, ldr_all (put_same _ _ _) (by rfl), e2]
    simp only [bind_some', asI_int, asB_bool, asStr_str, asP_ptr, asSl_sl, asAgg_1, asAgg_2, asAgg_3, asAgg_4, asTup_0, asTup_2, asTup_3, asTup_4, if_true', if_false', if_not_true', if_not_false', getD_0, getD_1, getD_2, getD_3]
    rw [asAgg_sm]
    simp only [bind_some', asI_int, asB_bool, asStr_str, asP_ptr, asSl_sl, asAgg_1, asAgg_2, asAgg_3, asAgg_4, asTup_0, asTup_2, asTup_3, asTup_4, if_true', if_false', if_not_true', if_not_false', getD_0, getD_1, getD_2, getD_3]
    rw [st_all ((x3.2 _ (by omega)).trans ((put_ne (by omega)).trans ((qo _ (by omega)).trans b2))) (by rfl) (by rfl) (by rfl), ldr_all (put_same _ _ _) (by rfl), asAgg_4]
    simp only [bind_some', asI_int, asB_bool, asStr_str, asP_ptr, asSl_sl, asAgg_1, asAgg_2, asAgg_3, asAgg_4, asTup_0, asTup_2, asTup_3, asTup_4, if_true', if_false', if_not_true', if_not_false', getD_0, getD_1, getD_2, getD_3]
    exact ⟨_, _, rfl, by omega, fun j hj => by rw [put_ne (by omega), x3.2 j (by omega), put_ne (by omega), qo j (by omega), hxH.2 j hj]⟩
  refine fin _ _ ?_ ?_ ?_ ?_ (by omega)
  · rw [put_ne (by omega), put_ne (by omega), put_ne (by omega), put_same]
  · rw [put_ne (by omega), put_ne (by omega), put_same]
  · rw [put_same]
  · intro j hj
    rw [put_ne (by omega), put_ne (by omega), put_ne (by omega), put_ne (by omega), put_ne (by omega), put_ne (by omega), hxG j hj]

end Go.Proofs.Ytdjbhonncjcbjaa.T
