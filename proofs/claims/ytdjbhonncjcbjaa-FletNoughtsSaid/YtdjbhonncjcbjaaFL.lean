import Derived.Test.YtdjbhonncjcbjaaS8
set_option linter.unusedVariables false
set_option linter.unusedSimpArgs false
namespace Go.Proofs.Ytdjbhonncjcbjaa.T
open Go Go.RowKit Go.Proofs

/-- The four sums, exact. -/
structure Sm where
  a : Int
  b : Int
  c : Int
  d : Int
def Sm.step (s : Sm) (w : Int) : Sm := ⟨s.a + w, s.b + (s.a + w), s.c + (s.b + (s.a + w)), s.d + (s.c + (s.b + (s.a + w)))⟩
/-- Their cells, wrapped. -/
def Sm.cells (s : Sm) : List AV := [.int .i64 (wrapA .i64 s.a), .int .i64 (wrapA .i64 s.b), .int .i64 (wrapA .i64 s.c), .int .i64 (wrapA .i64 s.d)]
theorem wrap_add (x y : Int) : wrapA .i64 (wrapA .i64 x + wrapA .i64 y) = wrapA .i64 (x + y) := by
  show wrap64 (wrap64 x + wrap64 y) = wrap64 (x + y); unfold wrap64; omega
theorem wrap_addl (x y : Int) : wrapA .i64 (wrapA .i64 x + y) = wrapA .i64 (x + y) := by
  show wrap64 (wrap64 x + y) = wrap64 (x + y); unfold wrap64; omega
theorem wrap_addr (x y : Int) : wrapA .i64 (x + wrapA .i64 y) = wrapA .i64 (x + y) := by
  show wrap64 (x + wrap64 y) = wrap64 (x + y); unfold wrap64; omega
theorem w01 : wrapA .i64 (0 + 1) = 1 := by decide
theorem w12 : wrapA .i64 (1 + 1) = 2 := by decide
theorem w23 : wrapA .i64 (2 + 1) = 3 := by decide
theorem w34 : wrapA .i64 (3 + 1) = 4 := by decide
theorem n0 : Int.toNat 0 * 1 = 0 := by decide
theorem n1 : Int.toNat 1 * 1 = 1 := by decide
theorem n2 : Int.toNat 2 * 1 = 2 := by decide
theorem n3 : Int.toNat 3 * 1 = 3 := by decide

theorem word_spec {k : Nat} (hk : 6 ≤ k) (s : Sm) (w : Int) (h : AHeap) (nx : Nat) :
    ∃ h' nx', callP Try.prog keepT k 39 [.agg s.cells, .int .i64 w] h nx = some (.agg (s.step w).cells, h', nx') ∧ Ext h nx h' nx' := by
  obtain ⟨k, rfl⟩ : ∃ m, k = m + 1 := ⟨k - 1, by omega⟩
  obtain ⟨lf, hlf⟩ : ∃ m, k = m + 5 := ⟨k - 5, by omega⟩
  rw [F39_eq, if_pos (by simp [Sm.cells, allOne, AV.one])]
  dsimp only
  generalize callP Try.prog keepT k = call
  rw [hlf]
  have ne1 : nx ≠ nx + 1 := by omega
  rw [F39_L1_eq, if_pos (by decide), some_bind, if_pos (by decide), n0, ld_at ((put_ne ne1).trans (put_same _ _ _)) rfl]
  simp only [bind_some', asI_int, asB_bool, asStr_str, asP_ptr, asSl_sl, asAgg_1, asAgg_2, asAgg_3, asAgg_4, asTup_0, asTup_2, asTup_3, asTup_4, if_true', if_false', if_not_true', if_not_false', getD_0, getD_1, getD_2, getD_3]
  rw [if_pos (by decide), st_one ((put_ne ne1).trans (put_same _ _ _)) rfl (by simp [Sm.cells])]
  rw [if_pos (by decide), ld_at (put_same _ _ _) rfl]
  simp only [bind_some', asI_int, asB_bool, asStr_str, asP_ptr, asSl_sl, asAgg_1, asAgg_2, asAgg_3, asAgg_4, asTup_0, asTup_2, asTup_3, asTup_4, if_true', if_false', if_not_true', if_not_false', getD_0, getD_1, getD_2, getD_3]
  rw [w01]
  rw [F39_L1_eq, if_pos (by decide), some_bind, if_pos (by decide), n1, ld_at (put_same _ _ _) rfl]
  simp only [bind_some', asI_int, asB_bool, asStr_str, asP_ptr, asSl_sl, asAgg_1, asAgg_2, asAgg_3, asAgg_4, asTup_0, asTup_2, asTup_3, asTup_4, if_true', if_false', if_not_true', if_not_false', getD_0, getD_1, getD_2, getD_3]
  rw [if_pos (by decide), st_one (put_same _ _ _) rfl (by simp [Sm.cells]), put_put]
  rw [if_pos (by decide), ld_at (put_same _ _ _) rfl]
  simp only [bind_some', asI_int, asB_bool, asStr_str, asP_ptr, asSl_sl, asAgg_1, asAgg_2, asAgg_3, asAgg_4, asTup_0, asTup_2, asTup_3, asTup_4, if_true', if_false', if_not_true', if_not_false', getD_0, getD_1, getD_2, getD_3]
  rw [w12]
  rw [F39_L1_eq, if_pos (by decide), some_bind, if_pos (by decide), n2, ld_at (put_same _ _ _) rfl]
  simp only [bind_some', asI_int, asB_bool, asStr_str, asP_ptr, asSl_sl, asAgg_1, asAgg_2, asAgg_3, asAgg_4, asTup_0, asTup_2, asTup_3, asTup_4, if_true', if_false', if_not_true', if_not_false', getD_0, getD_1, getD_2, getD_3]
  rw [if_pos (by decide), st_one (put_same _ _ _) rfl (by simp [Sm.cells]), put_put]
  rw [if_pos (by decide), ld_at (put_same _ _ _) rfl]
  simp only [bind_some', asI_int, asB_bool, asStr_str, asP_ptr, asSl_sl, asAgg_1, asAgg_2, asAgg_3, asAgg_4, asTup_0, asTup_2, asTup_3, asTup_4, if_true', if_false', if_not_true', if_not_false', getD_0, getD_1, getD_2, getD_3]
  rw [w23]
  rw [F39_L1_eq, if_pos (by decide), some_bind, if_pos (by decide), n3, ld_at (put_same _ _ _) rfl]
  simp only [bind_some', asI_int, asB_bool, asStr_str, asP_ptr, asSl_sl, asAgg_1, asAgg_2, asAgg_3, asAgg_4, asTup_0, asTup_2, asTup_3, asTup_4, if_true', if_false', if_not_true', if_not_false', getD_0, getD_1, getD_2, getD_3]
  rw [if_pos (by decide), st_to (cs' := (s.step w).cells) (put_same _ _ _) rfl (by simp [Sm.cells]) (by simp [Sm.cells, Sm.step, wrap_add, wrap_addl, wrap_addr]), put_put]
  rw [if_pos (by decide), ld_at (put_same _ _ _) rfl]
  simp only [bind_some', asI_int, asB_bool, asStr_str, asP_ptr, asSl_sl, asAgg_1, asAgg_2, asAgg_3, asAgg_4, asTup_0, asTup_2, asTup_3, asTup_4, if_true', if_false', if_not_true', if_not_false', getD_0, getD_1, getD_2, getD_3]
  rw [w34]
  rw [F39_L1_eq, if_neg (by decide), some_bind, ldr_all (put_same _ _ _) (by rfl), some_bind, st_all ((put_ne (by omega)).trans (put_same _ _ _)) (by rfl) (by rfl) (by rfl), some_bind, ldr_all (put_same _ _ _) (by rfl)]
  refine ⟨_, _, rfl, by omega, ?_⟩
  intro i hi
  rw [put_ne (by omega), put_ne (by omega), put_ne (by omega), put_ne (by omega)]

theorem sum_spec {k : Nat} (hk : 1 ≤ k) (s : Sm) (h : AHeap) (nx : Nat) : ∃ h' nx', callP Try.prog keepT k 40 [.agg s.cells] h nx = some (.agg s.cells, h', nx') ∧ Ext h nx h' nx' := by
  obtain ⟨k, rfl⟩ : ∃ m, k = m + 1 := ⟨k - 1, by omega⟩
  have ne1 : nx ≠ nx + 1 := by omega
  rw [F40_eq, if_pos (by simp [Sm.cells, allOne, AV.one])]
  rw [if_pos (by decide), n0, ld_at ((put_ne ne1).trans (put_same _ _ _)) rfl]
  simp only [bind_some', asI_int, asB_bool, asStr_str, asP_ptr, asSl_sl, asAgg_1, asAgg_2, asAgg_3, asAgg_4, asTup_0, asTup_2, asTup_3, asTup_4, if_true', if_false', if_not_true', if_not_false', getD_0, getD_1, getD_2, getD_3]
  rw [if_pos (by decide), n1, ld_at ((put_ne ne1).trans (put_same _ _ _)) rfl]
  simp only [bind_some', asI_int, asB_bool, asStr_str, asP_ptr, asSl_sl, asAgg_1, asAgg_2, asAgg_3, asAgg_4, asTup_0, asTup_2, asTup_3, asTup_4, if_true', if_false', if_not_true', if_not_false', getD_0, getD_1, getD_2, getD_3]
  rw [if_pos (by decide), n2, ld_at ((put_ne ne1).trans (put_same _ _ _)) rfl]
  simp only [bind_some', asI_int, asB_bool, asStr_str, asP_ptr, asSl_sl, asAgg_1, asAgg_2, asAgg_3, asAgg_4, asTup_0, asTup_2, asTup_3, asTup_4, if_true', if_false', if_not_true', if_not_false', getD_0, getD_1, getD_2, getD_3]
  rw [if_pos (by decide), n3, ld_at ((put_ne ne1).trans (put_same _ _ _)) rfl]
  simp only [bind_some', asI_int, asB_bool, asStr_str, asP_ptr, asSl_sl, asAgg_1, asAgg_2, asAgg_3, asAgg_4, asTup_0, asTup_2, asTup_3, asTup_4, if_true', if_false', if_not_true', if_not_false', getD_0, getD_1, getD_2, getD_3]
  rw [st_all (put_same _ _ _) (by rfl) (by rfl) (by rfl)]
  rw [ldr_all (put_same _ _ _) (by rfl)]
  simp only [bind_some', asI_int, asB_bool, asStr_str, asP_ptr, asSl_sl, asAgg_1, asAgg_2, asAgg_3, asAgg_4, asTup_0, asTup_2, asTup_3, asTup_4, if_true', if_false', if_not_true', if_not_false', getD_0, getD_1, getD_2, getD_3]
  refine ⟨_, _, rfl, by omega, ?_⟩
  intro i hi
  rw [put_ne (by omega), put_ne (by omega), put_ne (by omega)]

theorem of_spec {k : Nat} (hk : 1 ≤ k) (s : Sm) (h : AHeap) (nx : Nat) : ∃ h', callP Try.prog keepT k 38 [.agg s.cells] h nx = some (.agg s.cells, h', nx + 12) ∧ Ext h nx h' (nx + 12) := by
  obtain ⟨k, rfl⟩ : ∃ m, k = m + 1 := ⟨k - 1, by omega⟩
  have ne1 : nx ≠ nx + 1 := by omega
  show ∃ h', callP Try.prog keepT (k + 1) 38 [.agg [.int .i64 (wrapA .i64 s.a), .int .i64 (wrapA .i64 s.b), .int .i64 (wrapA .i64 s.c), .int .i64 (wrapA .i64 s.d)]] h nx = _ ∧ _
  rw [F38_eq]
  rw [ld_at ((put_ne ne1).trans (put_same _ _ _)) rfl]
  simp only [bind_some', asI_int, asB_bool, asStr_str, asP_ptr, asSl_sl, asAgg_1, asAgg_2, asAgg_3, asAgg_4, asTup_0, asTup_2, asTup_3, asTup_4, if_true', if_false', if_not_true', if_not_false', getD_0, getD_1, getD_2, getD_3]
  rw [ld_at ((put_ne ne1).trans (put_same _ _ _)) rfl]
  simp only [bind_some', asI_int, asB_bool, asStr_str, asP_ptr, asSl_sl, asAgg_1, asAgg_2, asAgg_3, asAgg_4, asTup_0, asTup_2, asTup_3, asTup_4, if_true', if_false', if_not_true', if_not_false', getD_0, getD_1, getD_2, getD_3]
  rw [ld_at ((put_ne ne1).trans (put_same _ _ _)) rfl]
  simp only [bind_some', asI_int, asB_bool, asStr_str, asP_ptr, asSl_sl, asAgg_1, asAgg_2, asAgg_3, asAgg_4, asTup_0, asTup_2, asTup_3, asTup_4, if_true', if_false', if_not_true', if_not_false', getD_0, getD_1, getD_2, getD_3]
  rw [ld_at ((put_ne ne1).trans (put_same _ _ _)) rfl]
  simp only [bind_some', asI_int, asB_bool, asStr_str, asP_ptr, asSl_sl, asAgg_1, asAgg_2, asAgg_3, asAgg_4, asTup_0, asTup_2, asTup_3, asTup_4, if_true', if_false', if_not_true', if_not_false', getD_0, getD_1, getD_2, getD_3]
  rw [st_all (put_same _ _ _) (by rfl) (by rfl) (by rfl)]
  rw [ldr_all (put_same _ _ _) (by rfl)]
  refine ⟨_, rfl, by omega, ?_⟩
  intro i hi
  rw [put_ne (by omega), put_ne (by omega), put_ne (by omega)]

end Go.Proofs.Ytdjbhonncjcbjaa.T
