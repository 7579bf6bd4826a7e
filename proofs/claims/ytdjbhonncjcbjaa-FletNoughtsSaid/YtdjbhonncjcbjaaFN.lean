import Derived.Test.YtdjbhonncjcbjaaF9
set_option linter.unusedVariables false
set_option linter.unusedSimpArgs false
namespace Go.Proofs.Ytdjbhonncjcbjaa.T
open Go Go.RowKit Go.Proofs

theorem words_zero : ∀ n : Nat, wordsOf (List.replicate (4 * n) 0) = List.replicate n 0
  | 0 => rfl
  | n + 1 => by
    rw [show 4 * (n + 1) = 4 * n + 1 + 1 + 1 + 1 by omega, List.replicate_succ, List.replicate_succ, List.replicate_succ, List.replicate_succ, wordsOf, words_zero n, List.replicate_succ]
    rfl
theorem fold_zero : ∀ n : Nat, Sm.zero.fold (List.replicate n 0) = Sm.zero
  | 0 => rfl
  | n + 1 => by
    rw [List.replicate_succ]
    show (Sm.zero.step 0).fold _ = _
    exact fold_zero n
theorem fold_zeros_a (s : Sm) (n : Nat) : (s.fold (List.replicate n 0)).a = s.a := by
  rw [fold_a]; simp

theorem FletNoughts_run (h : AHeap) (nx : Nat) (l : List Int) (hl : l.length * 1 ≤ 140737488351232) (hw : ∀ n ∈ l, (Lit.int .u8 n).wf = true) (a : Option (Nat × Nat)) (hs : Sl h nx a l.length 1 (l.map (AV.int .u8)))
    (x1 : Int) (_ : (Lit.int .i64 x1).wf = true) :
    ∃ f h' nx', callP Try.prog keepT f 10 [.slice a l.length false, .int .i64 x1] h nx = some (.bool true, h', nx') := by
  refine ⟨2000 + 1, ?_⟩
  obtain ⟨k, hk⟩ : ∃ k, k = 2000 := ⟨_, rfl⟩
  rw [← hk]
  obtain ⟨X, m, xa, xc, h1, n1, e1, o1, y1, hX, hm, bX⟩ := words_arg (k := k) (by omega) l hl hw false (h := h) (nx := nx + 4) (hs.ext ⟨by omega, fun _ _ => rfl⟩)
  have yy1 := y1.1
  rw [F10_eq, e1]
  simp only [bind_some', asI_int, asB_bool, asStr_str, asP_ptr, asSl_sl, asAgg_1, asAgg_2, asAgg_3, asAgg_4, asTup_0, asTup_2, asTup_3, asTup_4, if_true', if_false', if_not_true', if_not_false', getD_0, getD_1, getD_2, getD_3]
  obtain ⟨n2, e2, l2⟩ := picked_spec (k := k) (by omega) x1 60 h1 (n1 + 5) (by omega) (by omega)
  rw [e2]
  simp only [bind_some', asI_int, asB_bool, asStr_str, asP_ptr, asSl_sl, asAgg_1, asAgg_2, asAgg_3, asAgg_4, asTup_0, asTup_2, asTup_3, asTup_4, if_true', if_false', if_not_true', if_not_false', getD_0, getD_1, getD_2, getD_3]
  have q0 := Int.emod_nonneg x1 (show (60 : Int) ≠ 0 by omega)
  have q1 := Int.emod_lt_of_pos x1 (show (0 : Int) < 60 by omega)
  obtain ⟨z, hz⟩ : ∃ z : Nat, x1 % 60 = (z : Int) := ⟨(x1 % 60).toNat, by omega⟩
  rw [hz] at q0 q1 ⊢
  rw [wA (x := 4 * (z : Int)) (by omega) (by omega), show (4 * (z : Int)) = ((4 * z : Nat) : Int) by omega]
  have sx : Sl h1 n1 xa X.length 1 (ints .u8 X) := o1.sl
  clear e1 e2 o1 hs
  rw [if_pos (by simp; omega)]
  -- the noughts
  have hmade : madeA [AV.int .u8 0] (Int.toNat ((4 * z : Nat) : Int) * 1) = ints .u8 (List.replicate (4 * z) 0) := by
    rw [Int.toNat_natCast, Nat.mul_one]; simp [madeA, ints]
  rw [hmade, Int.toNat_natCast]
  generalize hO : h1.put (n1 + 3) (some ⟨ints .u8 (List.replicate (4 * z) 0), 1, true⟩) = O
  have hZl : (List.replicate (4 * z) (0 : Int)).length = 4 * z := by simp
  have sO : Sl O (n1 + 4) (some (n1 + 3, 0)) (4 * z) 1 (ints .u8 (List.replicate (4 * z) 0)) :=
    ⟨by simp [ints], fun j hj => ⟨(n1 + 3, 0), _, rfl, by simp, by rw [← hO]; exact put_same _ _ _, rfl, by simp [ints], fun q hq => by simp⟩⟩
  have sxO : Sl O (n1 + 4) xa X.length 1 (ints .u8 X) := sx.ext ⟨by omega, fun j hj => by rw [← hO, put_ne (by omega)]⟩
  clear hO
  obtain ⟨h3, n3, e3, x3⟩ := ofb_spec (k := k) X m hX (by omega) bX xc (sxO.ext (show Ext O (n1 + 4) O (n2 + 8) from ⟨by omega, fun _ _ => rfl⟩))
  have yy3 := x3.1
  have eall : Sm.zero.fold (wordsOf (List.replicate (4 * z) 0 ++ X)) = Sm.zero.fold (wordsOf X) := by
    rw [wordsOf_append z _ X hZl, words_zero, show ∀ p q : List Int, Sm.zero.fold (p ++ q) = (Sm.zero.fold p).fold q from fun p q => by simp [Sm.fold], fold_zero]
  have ejoin : ∀ S : Sm, S.fold (wordsOf (List.replicate (4 * z) 0)) = Jn S Sm.zero z := fun S => by
    rw [join_law, words_zero, fold_zero, List.length_replicate]
  have ea : ∀ S : Sm, (S.fold (wordsOf (List.replicate (4 * z) 0))).a = S.a := fun S => by rw [words_zero, fold_zeros_a]
  generalize hS : Sm.zero.fold (wordsOf X) = S at *
  rw [e3]
  simp only [bind_some', asI_int, asB_bool, asStr_str, asP_ptr, asSl_sl, asAgg_1, asAgg_2, asAgg_3, asAgg_4, asTup_0, asTup_2, asTup_3, asTup_4, if_true', if_false', if_not_true', if_not_false', getD_0, getD_1, getD_2, getD_3]
  rw [asAgg_sm]
  simp only [bind_some', asI_int, asB_bool, asStr_str, asP_ptr, asSl_sl, asAgg_1, asAgg_2, asAgg_3, asAgg_4, asTup_0, asTup_2, asTup_3, asTup_4, if_true', if_false', if_not_true', if_not_false', getD_0, getD_1, getD_2, getD_3]
  rw [st_all (put_same _ _ _) (by rfl) (by rfl) (by rfl), put_put, Sm.cells_eq]
  generalize hA : h3.put (n2 + 5) (some ⟨S.cells, 4, true⟩) = A
  have bA : A (n2 + 5) = some ⟨S.cells, 4, true⟩ := by rw [← hA, put_same]
  have xA : Ext O (n1 + 4) A n3 := ⟨by omega, fun j hj => by rw [← hA, put_ne (by omega), x3.2 j (by omega)]⟩
  have xA' : ∀ j, j < n2 + 5 → A j = O j := fun j hj => by rw [← hA, put_ne (by omega), x3.2 j (by omega)]
  clear hA e3 x3
  obtain ⟨rd1, u1⟩ := (sO.ext xA).src'
  rw [u1]
  simp only [bind_some', asI_int, asB_bool, asStr_str, asP_ptr, asSl_sl, asAgg_1, asAgg_2, asAgg_3, asAgg_4, asTup_0, asTup_2, asTup_3, asTup_4, if_true', if_false', if_not_true', if_not_false', getD_0, getD_1, getD_2, getD_3]
  obtain ⟨e18, f1, f2, f3, f4⟩ := copyOf (h := A) (nx := n3) (n := 4 * z) (es := 1) (bytes := 1) (id := n3 + 1) (rd := rd1) sO.1 (growOk_of (by omega) (by omega)) (by omega)
  rw [f1]
  simp only [bind_some', asI_int, asB_bool, asStr_str, asP_ptr, asSl_sl, asAgg_1, asAgg_2, asAgg_3, asAgg_4, asTup_0, asTup_2, asTup_3, asTup_4, if_true', if_false', if_not_true', if_not_false', getD_0, getD_1, getD_2, getD_3]
  rw [f2]
  obtain ⟨rd2, u2⟩ := ((sxO.ext xA).ext f4).src'
  rw [u2]
  simp only [bind_some', asI_int, asB_bool, asStr_str, asP_ptr, asSl_sl, asAgg_1, asAgg_2, asAgg_3, asAgg_4, asTup_0, asTup_2, asTup_3, asTup_4, if_true', if_false', if_not_true', if_not_false', getD_0, getD_1, getD_2, getD_3]
  obtain ⟨e21, g1, g2, g3, g4, g5⟩ := f3.appendS e18.c (bytes := 1) (id := n3 + 3) (k := X.length) (rd := rd2) sxO.1 (growOk_of (by omega) (by omega)) (by omega) (by omega)
  rw [g1]
  simp only [bind_some', asI_int, asB_bool, asStr_str, asP_ptr, asSl_sl, asAgg_1, asAgg_2, asAgg_3, asAgg_4, asTup_0, asTup_2, asTup_3, asTup_4, if_true', if_false', if_not_true', if_not_false', getD_0, getD_1, getD_2, getD_3]
  rw [g2]
  have xC := f4.then g4
  have yyC := xC.1
  have hXY : ints .u8 (List.replicate (4 * z) 0) ++ ints .u8 X = ints .u8 (List.replicate (4 * z) 0 ++ X) := by simp [ints]
  have hXYl : (List.replicate (4 * z) 0 ++ X).length = 4 * z + X.length := by simp
  rw [hXY, ← hXYl] at g3
  rw [← hXYl]
  generalize (A.puts e18.sets).puts e21.sets = C at *
  obtain ⟨h5, n5, e5, x5⟩ := ofb_spec (k := k) (List.replicate (4 * z) 0 ++ X) (z + m) (by rw [hXYl]; omega) (by omega) (fun x hx => by
    rcases List.mem_append.1 hx with q | q
    · have := List.eq_of_mem_replicate q; omega
    · exact bX x q) e21.c (g3.sl.ext (show Ext C (n3 + 3 + 1) C (n3 + 11) from ⟨by omega, fun _ _ => rfl⟩))
  have yy5 := x5.1
  rw [eall] at e5
  rw [e5]
  simp only [bind_some', asI_int, asB_bool, asStr_str, asP_ptr, asSl_sl, asAgg_1, asAgg_2, asAgg_3, asAgg_4, asTup_0, asTup_2, asTup_3, asTup_4, if_true', if_false', if_not_true', if_not_false', getD_0, getD_1, getD_2, getD_3]
  rw [asAgg_sm]
  simp only [bind_some', asI_int, asB_bool, asStr_str, asP_ptr, asSl_sl, asAgg_1, asAgg_2, asAgg_3, asAgg_4, asTup_0, asTup_2, asTup_3, asTup_4, if_true', if_false', if_not_true', if_not_false', getD_0, getD_1, getD_2, getD_3]
  rw [st_all (put_same _ _ _) (by rfl) (by rfl) (by rfl), put_put, Sm.cells_eq]
  generalize hD : h5.put (n3 + 8) (some ⟨S.cells, 4, true⟩) = D
  have bD0 : D (n2 + 5) = some ⟨S.cells, 4, true⟩ := by rw [← hD, put_ne (by omega), x5.2 _ (by omega), xC.2 _ (by omega), bA]
  have bD2 : D (n3 + 8) = some ⟨S.cells, 4, true⟩ := by rw [← hD, put_same]
  have xD : Ext O (n1 + 4) D n5 := ⟨by omega, fun j hj => by rw [← hD, put_ne (by omega), x5.2 j (by omega), xC.2 j (by omega), xA.2 j hj]⟩
  clear hD e5 x5
  rw [ldr_all bD0 (by rfl), asAgg_sm]
  simp only [bind_some', asI_int, asB_bool, asStr_str, asP_ptr, asSl_sl, asAgg_1, asAgg_2, asAgg_3, asAgg_4, asTup_0, asTup_2, asTup_3, asTup_4, if_true', if_false', if_not_true', if_not_false', getD_0, getD_1, getD_2, getD_3]
  rw [Sm.cells_eq]
  have sOz : Sl O (n1 + 4) (some (n1 + 3, 0)) (List.replicate (4 * z) (0 : Int)).length 1 (ints .u8 (List.replicate (4 * z) 0)) := by rw [hZl]; exact sO
  obtain ⟨h6, n6, e6, x6⟩ := more_spec (k := k) S (List.replicate (4 * z) 0) z hZl (by omega) (fun x hx => by have := List.eq_of_mem_replicate hx; omega) (((4 * z : Nat) : Int) == ((4 * z : Nat) : Int)) (sOz.ext (xD.le (show n5 ≤ n5 + 9 by omega)))
  have yy6 := x6.1
  rw [hZl] at e6
  have ea' := ea S
  have ejoin' := ejoin S
  generalize hU : S.fold (wordsOf (List.replicate (4 * z) 0)) = U at *
  rw [e6]
  simp only [bind_some', asI_int, asB_bool, asStr_str, asP_ptr, asSl_sl, asAgg_1, asAgg_2, asAgg_3, asAgg_4, asTup_0, asTup_2, asTup_3, asTup_4, if_true', if_false', if_not_true', if_not_false', getD_0, getD_1, getD_2, getD_3]
  rw [asAgg_sm]
  simp only [bind_some', asI_int, asB_bool, asStr_str, asP_ptr, asSl_sl, asAgg_1, asAgg_2, asAgg_3, asAgg_4, asTup_0, asTup_2, asTup_3, asTup_4, if_true', if_false', if_not_true', if_not_false', getD_0, getD_1, getD_2, getD_3]
  rw [st_all (put_same _ _ _) (by rfl) (by rfl) (by rfl), put_put, Sm.cells_eq]
  generalize hE : h6.put (n5 + 6) (some ⟨U.cells, 4, true⟩) = E
  have bE0 : E (n2 + 5) = some ⟨S.cells, 4, true⟩ := by rw [← hE, put_ne (by omega), x6.2 _ (by omega), bD0]
  have bE2 : E (n3 + 8) = some ⟨S.cells, 4, true⟩ := by rw [← hE, put_ne (by omega), x6.2 _ (by omega), bD2]
  have bE3 : E (n5 + 6) = some ⟨U.cells, 4, true⟩ := by rw [← hE, put_same]
  clear hE e6 x6
  rw [ldr_all bE0 (by rfl), asAgg_sm]
  simp only [bind_some', asI_int, asB_bool, asStr_str, asP_ptr, asSl_sl, asAgg_1, asAgg_2, asAgg_3, asAgg_4, asTup_0, asTup_2, asTup_3, asTup_4, if_true', if_false', if_not_true', if_not_false', getD_0, getD_1, getD_2, getD_3]
  rw [Sm.cells_eq]
  have hdv : Int.tdiv ((4 * z : Nat) : Int) 4 = (z : Int) := by rw [Int.tdiv_eq_ediv_of_nonneg (by omega)]; omega
  rw [hdv, wA (x := (z : Int)) (by omega) (by omega)]
  obtain ⟨h7, n7, e7, x7⟩ := join_spec (k := k) (by omega) S Sm.zero z (by omega) E (n6 + 12)
  have yy7 := x7.1
  rw [← ejoin'] at e7
  rw [show ([.int .i64 0, .int .i64 0, .int .i64 0, .int .i64 0] : List AV) = Sm.zero.cells from rfl, e7]
  simp only [bind_some', asI_int, asB_bool, asStr_str, asP_ptr, asSl_sl, asAgg_1, asAgg_2, asAgg_3, asAgg_4, asTup_0, asTup_2, asTup_3, asTup_4, if_true', if_false', if_not_true', if_not_false', getD_0, getD_1, getD_2, getD_3]
  rw [asAgg_sm]
  simp only [bind_some', asI_int, asB_bool, asStr_str, asP_ptr, asSl_sl, asAgg_1, asAgg_2, asAgg_3, asAgg_4, asTup_0, asTup_2, asTup_3, asTup_4, if_true', if_false', if_not_true', if_not_false', getD_0, getD_1, getD_2, getD_3]
  rw [st_all (put_same _ _ _) (by rfl) (by rfl) (by rfl), put_put, Sm.cells_eq]
  generalize hF : h7.put (n6 + 9) (some ⟨U.cells, 4, true⟩) = F
  have bF0 : F (n2 + 5) = some ⟨S.cells, 4, true⟩ := by rw [← hF, put_ne (by omega), x7.2 _ (by omega), bE0]
  have bF2 : F (n3 + 8) = some ⟨S.cells, 4, true⟩ := by rw [← hF, put_ne (by omega), x7.2 _ (by omega), bE2]
  have bF3 : F (n5 + 6) = some ⟨U.cells, 4, true⟩ := by rw [← hF, put_ne (by omega), x7.2 _ (by omega), bE3]
  have bF4 : F (n6 + 9) = some ⟨U.cells, 4, true⟩ := by rw [← hF, put_same]
  clear hF e7 x7
  obtain ⟨h8, n8, e8, x8⟩ := sure_spec (k := k) (by omega) F (n7 + 35)
  rw [e8]
  simp only [bind_some', asI_int, asB_bool, asStr_str, asP_ptr, asSl_sl, asAgg_1, asAgg_2, asAgg_3, asAgg_4, asTup_0, asTup_2, asTup_3, asTup_4, if_true', if_false', if_not_true', if_not_false', getD_0, getD_1, getD_2, getD_3]
  have c0 := (x8.2 (n2 + 5) (by omega)).trans bF0
  have c2 := (x8.2 (n3 + 8) (by omega)).trans bF2
  have c3 := (x8.2 (n5 + 6) (by omega)).trans bF3
  have c4 := (x8.2 (n6 + 9) (by omega)).trans bF4
  rw [if_pos (by decide), if_pos (by decide), if_pos (by decide), if_pos (by decide), if_pos (by decide), ldr_all c0 (by rfl), asAgg_sm]
  simp only [bind_some', asI_int, asB_bool, asStr_str, asP_ptr, asSl_sl, asAgg_1, asAgg_2, asAgg_3, asAgg_4, asTup_0, asTup_2, asTup_3, asTup_4, if_true', if_false', if_not_true', if_not_false', getD_0, getD_1, getD_2, getD_3]
  rw [ldr_all c2 (by rfl), asAgg_sm]
  simp only [bind_some', asI_int, asB_bool, asStr_str, asP_ptr, asSl_sl, asAgg_1, asAgg_2, asAgg_3, asAgg_4, asTup_0, asTup_2, asTup_3, asTup_4, if_true', if_false', if_not_true', if_not_false', getD_0, getD_1, getD_2, getD_3]
  rw [eqSm, smEq_self, if_pos rfl, ldr_all c3 (by rfl), asAgg_sm]
  simp only [bind_some', asI_int, asB_bool, asStr_str, asP_ptr, asSl_sl, asAgg_1, asAgg_2, asAgg_3, asAgg_4, asTup_0, asTup_2, asTup_3, asTup_4, if_true', if_false', if_not_true', if_not_false', getD_0, getD_1, getD_2, getD_3]
  rw [ldr_all c4 (by rfl), asAgg_sm]
  simp only [bind_some', asI_int, asB_bool, asStr_str, asP_ptr, asSl_sl, asAgg_1, asAgg_2, asAgg_3, asAgg_4, asTup_0, asTup_2, asTup_3, asTup_4, if_true', if_false', if_not_true', if_not_false', getD_0, getD_1, getD_2, getD_3]
  rw [eqSm, smEq_self, if_pos rfl, ld_at c3 (by rfl)]
  simp only [bind_some', asI_int, asB_bool, asStr_str, asP_ptr, asSl_sl, asAgg_1, asAgg_2, asAgg_3, asAgg_4, asTup_0, asTup_2, asTup_3, asTup_4, if_true', if_false', if_not_true', if_not_false', getD_0, getD_1, getD_2, getD_3]
  rw [ld_at c0 (by rfl)]
  simp only [bind_some', asI_int, asB_bool, asStr_str, asP_ptr, asSl_sl, asAgg_1, asAgg_2, asAgg_3, asAgg_4, asTup_0, asTup_2, asTup_3, asTup_4, if_true', if_false', if_not_true', if_not_false', getD_0, getD_1, getD_2, getD_3]
  rw [ea', beq_self_eq_true]
  exact ⟨_, _, rfl⟩

end Go.Proofs.Ytdjbhonncjcbjaa.T
