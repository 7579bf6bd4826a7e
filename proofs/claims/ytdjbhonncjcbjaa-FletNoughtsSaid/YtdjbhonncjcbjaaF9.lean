import Derived.Test.YtdjbhonncjcbjaaFK
set_option linter.unusedVariables false
set_option linter.unusedSimpArgs false
namespace Go.Proofs.Ytdjbhonncjcbjaa.T
open Go Go.RowKit Go.Proofs

theorem Sm.cells_eq (s : Sm) : [AV.int .i64 (wrapA .i64 s.a), .int .i64 (wrapA .i64 s.b), .int .i64 (wrapA .i64 s.c), .int .i64 (wrapA .i64 s.d)] = s.cells := rfl
theorem smEq_self (s : Sm) : smEq s s = true := by simp [smEq]

/-- The words of an argument: as many as are taken, and what they are. -/
theorem words_arg {k : Nat} (hk : 1 ≤ k) (l : List Int) (hl : l.length * 1 ≤ 140737488351232) (hw : ∀ n ∈ l, (Lit.int .u8 n).wf = true) {a : Option (Nat × Nat)} (c : Bool) {h : AHeap} {nx : Nat} (hs : Sl h nx a l.length 1 (ints .u8 l)) :
    ∃ (X : List Int) (m : Nat) (a' : Option (Nat × Nat)) (c' : Bool) (h' : AHeap) (nx' : Nat), callP Try.prog keepT k 19 [.slice a l.length c, .int .i64 400] h nx = some (.slice a' X.length c', h', nx') ∧ OwnSl h' nx nx' a' X.length 1 (ints .u8 X) ∧ Ext h nx h' nx' ∧ X.length = 4 * m ∧ m ≤ 100 ∧ Bytes X := by
  obtain ⟨xa, xc, h1, n1, e1, o1, y1⟩ := words_spec (k := k) hk l 400 (by omega) (by omega) c hs
  have hwl : wlen l.length 400 ≤ l.length ∧ wlen l.length 400 ≤ 400 ∧ wlen l.length 400 % 4 = 0 := by unfold wlen; omega
  have hX : (l.take (wlen l.length 400)).length = wlen l.length 400 := by rw [List.length_take]; omega
  refine ⟨l.take (wlen l.length 400), wlen l.length 400 / 4, xa, xc, h1, n1, ?_, ?_, y1, by omega, by omega, fun x hx => wf_byte (hw x (List.mem_of_mem_take hx))⟩
  · rw [hX]; exact e1
  · rw [hX]; exact o1

theorem FletParts_run (h : AHeap) (nx : Nat) (l : List Int) (hl : l.length * 1 ≤ 140737488351232) (hw : ∀ n ∈ l, (Lit.int .u8 n).wf = true) (a : Option (Nat × Nat)) (hs : Sl h nx a l.length 1 (l.map (AV.int .u8)))
    (r : List Int) (hr : r.length * 1 ≤ 140737488351232) (hv : ∀ n ∈ r, (Lit.int .u8 n).wf = true) (b : Option (Nat × Nat)) (ht : Sl h nx b r.length 1 (r.map (AV.int .u8))) :
    ∃ f h' nx', callP Try.prog keepT f 9 [.slice a l.length false, .slice b r.length false] h nx = some (.bool true, h', nx') := by
  refine ⟨2000 + 1, ?_⟩
  obtain ⟨k, hk⟩ : ∃ k, k = 2000 := ⟨_, rfl⟩
  rw [← hk]
  obtain ⟨X, m, xa, xc, h1, n1, e1, o1, y1, hX, hm, bX⟩ := words_arg (k := k) (by omega) l hl hw false (h := h) (nx := nx + 4) (hs.ext ⟨by omega, fun _ _ => rfl⟩)
  have yy1 := y1.1
  rw [F9_eq, e1]
  simp only [bind_some', asI_int, asB_bool, asStr_str, asP_ptr, asSl_sl, asAgg_1, asAgg_2, asAgg_3, asAgg_4, asTup_0, asTup_2, asTup_3, asTup_4, if_true', if_false', if_not_true', if_not_false', getD_0, getD_1, getD_2, getD_3]
  obtain ⟨Y, m2, ya, yc, h2, n2, e2, o2, y2, hY, hm2, bY⟩ := words_arg (k := k) (by omega) r hr hv false (h := h1) (nx := n1 + 3) ((show Sl h nx b r.length 1 (ints .u8 r) from ht).ext ⟨by omega, fun j hj => y1.2 j (by omega)⟩)
  have yy2 := y2.1
  rw [e2]
  simp only [bind_some', asI_int, asB_bool, asStr_str, asP_ptr, asSl_sl, asAgg_1, asAgg_2, asAgg_3, asAgg_4, asTup_0, asTup_2, asTup_3, asTup_4, if_true', if_false', if_not_true', if_not_false', getD_0, getD_1, getD_2, getD_3]
  have sx : Sl h2 n2 xa X.length 1 (ints .u8 X) := o1.sl.ext (y2.from (by omega))
  have sy : Sl h2 n2 ya Y.length 1 (ints .u8 Y) := o2.sl
  clear e1 e2 o1 o2 y1 y2 hs ht
  obtain ⟨h3, n3, e3, x3⟩ := ofb_spec (k := k) X m hX (by omega) bX xc (sx.ext (show Ext h2 n2 h2 (n2 + 8) from ⟨by omega, fun _ _ => rfl⟩))
  have yy3 := x3.1
  have eall : Sm.zero.fold (wordsOf (X ++ Y)) = (Sm.zero.fold (wordsOf X)).fold (wordsOf Y) := by rw [wordsOf_append m X Y hX]; simp [Sm.fold]
  have ejoin : (Sm.zero.fold (wordsOf X)).fold (wordsOf Y) = Jn (Sm.zero.fold (wordsOf X)) (Sm.zero.fold (wordsOf Y)) m2 := by rw [join_law, wordsOf_length m2 Y hY]
  generalize hS : Sm.zero.fold (wordsOf X) = S at *
  rw [e3]
  simp only [bind_some', asI_int, asB_bool, asStr_str, asP_ptr, asSl_sl, asAgg_1, asAgg_2, asAgg_3, asAgg_4, asTup_0, asTup_2, asTup_3, asTup_4, if_true', if_false', if_not_true', if_not_false', getD_0, getD_1, getD_2, getD_3]
  rw [asAgg_sm]
  simp only [bind_some', asI_int, asB_bool, asStr_str, asP_ptr, asSl_sl, asAgg_1, asAgg_2, asAgg_3, asAgg_4, asTup_0, asTup_2, asTup_3, asTup_4, if_true', if_false', if_not_true', if_not_false', getD_0, getD_1, getD_2, getD_3]
  rw [st_all (put_same _ _ _) (by rfl) (by rfl) (by rfl), put_put, Sm.cells_eq]
  generalize hA : h3.put (n2 + 5) (some ⟨S.cells, 4, true⟩) = A
  have bA : A (n2 + 5) = some ⟨S.cells, 4, true⟩ := by rw [← hA, put_same]
  have xA : Ext h2 n2 A (n3 + 8) := ⟨by omega, fun j hj => by rw [← hA, put_ne (by omega), x3.2 j (by omega)]⟩
  clear hA e3 x3
  obtain ⟨h4, n4, e4, x4⟩ := ofb_spec (k := k) Y m2 hY (by omega) bY yc (sy.ext xA)
  have yy4 := x4.1
  generalize hT : Sm.zero.fold (wordsOf Y) = T at *
  rw [e4]
  simp only [bind_some', asI_int, asB_bool, asStr_str, asP_ptr, asSl_sl, asAgg_1, asAgg_2, asAgg_3, asAgg_4, asTup_0, asTup_2, asTup_3, asTup_4, if_true', if_false', if_not_true', if_not_false', getD_0, getD_1, getD_2, getD_3]
  rw [asAgg_sm]
  simp only [bind_some', asI_int, asB_bool, asStr_str, asP_ptr, asSl_sl, asAgg_1, asAgg_2, asAgg_3, asAgg_4, asTup_0, asTup_2, asTup_3, asTup_4, if_true', if_false', if_not_true', if_not_false', getD_0, getD_1, getD_2, getD_3]
  rw [st_all (put_same _ _ _) (by rfl) (by rfl) (by rfl), put_put, Sm.cells_eq]
  generalize hB : h4.put (n3 + 5) (some ⟨T.cells, 4, true⟩) = B
  have bB0 : B (n2 + 5) = some ⟨S.cells, 4, true⟩ := by rw [← hB, put_ne (by omega), x4.2 _ (by omega), bA]
  have bB1 : B (n3 + 5) = some ⟨T.cells, 4, true⟩ := by rw [← hB, put_same]
  have xB : Ext h2 n2 B n4 := ⟨by omega, fun j hj => by rw [← hB, put_ne (by omega), x4.2 j (by omega), xA.2 j hj]⟩
  clear hB e4 x4 bA xA
  -- the two, one behind the other
  obtain ⟨rd1, u1⟩ := (sx.ext xB).src'
  rw [u1]
  simp only [bind_some', asI_int, asB_bool, asStr_str, asP_ptr, asSl_sl, asAgg_1, asAgg_2, asAgg_3, asAgg_4, asTup_0, asTup_2, asTup_3, asTup_4, if_true', if_false', if_not_true', if_not_false', getD_0, getD_1, getD_2, getD_3]
  obtain ⟨e28, f1, f2, f3, f4⟩ := copyOf (h := B) (nx := n4) (n := X.length) (es := 1) (bytes := 1) (id := n4 + 1) (rd := rd1) sx.1 (growOk_of (by omega) (by omega)) (by omega)
  rw [f1]
  simp only [bind_some', asI_int, asB_bool, asStr_str, asP_ptr, asSl_sl, asAgg_1, asAgg_2, asAgg_3, asAgg_4, asTup_0, asTup_2, asTup_3, asTup_4, if_true', if_false', if_not_true', if_not_false', getD_0, getD_1, getD_2, getD_3]
  rw [f2]
  obtain ⟨rd2, u2⟩ := ((sy.ext xB).ext f4).src'
  rw [u2]
  simp only [bind_some', asI_int, asB_bool, asStr_str, asP_ptr, asSl_sl, asAgg_1, asAgg_2, asAgg_3, asAgg_4, asTup_0, asTup_2, asTup_3, asTup_4, if_true', if_false', if_not_true', if_not_false', getD_0, getD_1, getD_2, getD_3]
  obtain ⟨e31, g1, g2, g3, g4, g5⟩ := f3.appendS e28.c (bytes := 1) (id := n4 + 3) (k := Y.length) (rd := rd2) sy.1 (growOk_of (by omega) (by omega)) (by omega) (by omega)
  rw [g1]
  simp only [bind_some', asI_int, asB_bool, asStr_str, asP_ptr, asSl_sl, asAgg_1, asAgg_2, asAgg_3, asAgg_4, asTup_0, asTup_2, asTup_3, asTup_4, if_true', if_false', if_not_true', if_not_false', getD_0, getD_1, getD_2, getD_3]
  rw [g2]
  have xC := f4.then g4
  have yyC := xC.1
  have hXY : ints .u8 X ++ ints .u8 Y = ints .u8 (X ++ Y) := by simp [ints]
  have hXYl : (X ++ Y).length = X.length + Y.length := by simp
  rw [hXY, ← hXYl] at g3
  rw [← hXYl]
  generalize (B.puts e28.sets).puts e31.sets = C at *
  obtain ⟨h5, n5, e5, x5⟩ := ofb_spec (k := k) (X ++ Y) (m + m2) (by rw [hXYl]; omega) (by omega) (fun x hx => by rcases List.mem_append.1 hx with q | q; exact bX x q; exact bY x q) e31.c (g3.sl.ext (show Ext C (n4 + 3 + 1) C (n4 + 11) from ⟨by omega, fun _ _ => rfl⟩))
  have yy5 := x5.1
  rw [eall] at e5
  generalize hU : S.fold (wordsOf Y) = U at *
  rw [e5]
  simp only [bind_some', asI_int, asB_bool, asStr_str, asP_ptr, asSl_sl, asAgg_1, asAgg_2, asAgg_3, asAgg_4, asTup_0, asTup_2, asTup_3, asTup_4, if_true', if_false', if_not_true', if_not_false', getD_0, getD_1, getD_2, getD_3]
  rw [asAgg_sm]
  simp only [bind_some', asI_int, asB_bool, asStr_str, asP_ptr, asSl_sl, asAgg_1, asAgg_2, asAgg_3, asAgg_4, asTup_0, asTup_2, asTup_3, asTup_4, if_true', if_false', if_not_true', if_not_false', getD_0, getD_1, getD_2, getD_3]
  rw [st_all (put_same _ _ _) (by rfl) (by rfl) (by rfl), put_put, Sm.cells_eq]
  generalize hD : h5.put (n4 + 8) (some ⟨U.cells, 4, true⟩) = D
  have bD0 : D (n2 + 5) = some ⟨S.cells, 4, true⟩ := by rw [← hD, put_ne (by omega), x5.2 _ (by omega), xC.2 _ (by omega), bB0]
  have bD1 : D (n3 + 5) = some ⟨T.cells, 4, true⟩ := by rw [← hD, put_ne (by omega), x5.2 _ (by omega), xC.2 _ (by omega), bB1]
  have bD2 : D (n4 + 8) = some ⟨U.cells, 4, true⟩ := by rw [← hD, put_same]
  have xD : Ext h2 n2 D n5 := ⟨by omega, fun j hj => by rw [← hD, put_ne (by omega), x5.2 j (by omega), xC.2 j (by omega), xB.2 j hj]⟩
  clear hD e5 x5
  rw [ldr_all bD0 (by rfl), asAgg_sm]
  simp only [bind_some', asI_int, asB_bool, asStr_str, asP_ptr, asSl_sl, asAgg_1, asAgg_2, asAgg_3, asAgg_4, asTup_0, asTup_2, asTup_3, asTup_4, if_true', if_false', if_not_true', if_not_false', getD_0, getD_1, getD_2, getD_3]
  rw [Sm.cells_eq]
  obtain ⟨h6, n6, e6, x6⟩ := more_spec (k := k) S Y m2 hY (by omega) bY yc (sy.ext (xD.le (show n5 ≤ n5 + 9 by omega)))
  have yy6 := x6.1
  rw [hU] at e6
  rw [e6]
  simp only [bind_some', asI_int, asB_bool, asStr_str, asP_ptr, asSl_sl, asAgg_1, asAgg_2, asAgg_3, asAgg_4, asTup_0, asTup_2, asTup_3, asTup_4, if_true', if_false', if_not_true', if_not_false', getD_0, getD_1, getD_2, getD_3]
  rw [asAgg_sm]
  simp only [bind_some', asI_int, asB_bool, asStr_str, asP_ptr, asSl_sl, asAgg_1, asAgg_2, asAgg_3, asAgg_4, asTup_0, asTup_2, asTup_3, asTup_4, if_true', if_false', if_not_true', if_not_false', getD_0, getD_1, getD_2, getD_3]
  rw [st_all (put_same _ _ _) (by rfl) (by rfl) (by rfl), put_put, Sm.cells_eq]
  generalize hE : h6.put (n5 + 6) (some ⟨U.cells, 4, true⟩) = E
  have bE0 : E (n2 + 5) = some ⟨S.cells, 4, true⟩ := by rw [← hE, put_ne (by omega), x6.2 _ (by omega), bD0]
  have bE1 : E (n3 + 5) = some ⟨T.cells, 4, true⟩ := by rw [← hE, put_ne (by omega), x6.2 _ (by omega), bD1]
  have bE2 : E (n4 + 8) = some ⟨U.cells, 4, true⟩ := by rw [← hE, put_ne (by omega), x6.2 _ (by omega), bD2]
  have bE3 : E (n5 + 6) = some ⟨U.cells, 4, true⟩ := by rw [← hE, put_same]
  clear hE e6 x6
  rw [ldr_all bE0 (by rfl), asAgg_sm]
  simp only [bind_some', asI_int, asB_bool, asStr_str, asP_ptr, asSl_sl, asAgg_1, asAgg_2, asAgg_3, asAgg_4, asTup_0, asTup_2, asTup_3, asTup_4, if_true', if_false', if_not_true', if_not_false', getD_0, getD_1, getD_2, getD_3]
  rw [ldr_all bE1 (by rfl), asAgg_sm]
  simp only [bind_some', asI_int, asB_bool, asStr_str, asP_ptr, asSl_sl, asAgg_1, asAgg_2, asAgg_3, asAgg_4, asTup_0, asTup_2, asTup_3, asTup_4, if_true', if_false', if_not_true', if_not_false', getD_0, getD_1, getD_2, getD_3]
  rw [Sm.cells_eq, Sm.cells_eq]
  have hdv : Int.tdiv ((Y.length : Nat) : Int) 4 = (m2 : Int) := by rw [Int.tdiv_eq_ediv_of_nonneg (by omega)]; omega
  rw [hdv, wA (x := (m2 : Int)) (by omega) (by omega)]
  obtain ⟨h7, n7, e7, x7⟩ := join_spec (k := k) (by omega) S T m2 (by omega) E (n6 + 12)
  have yy7 := x7.1
  rw [← ejoin] at e7
  rw [e7]
  simp only [bind_some', asI_int, asB_bool, asStr_str, asP_ptr, asSl_sl, asAgg_1, asAgg_2, asAgg_3, asAgg_4, asTup_0, asTup_2, asTup_3, asTup_4, if_true', if_false', if_not_true', if_not_false', getD_0, getD_1, getD_2, getD_3]
  rw [asAgg_sm]
  simp only [bind_some', asI_int, asB_bool, asStr_str, asP_ptr, asSl_sl, asAgg_1, asAgg_2, asAgg_3, asAgg_4, asTup_0, asTup_2, asTup_3, asTup_4, if_true', if_false', if_not_true', if_not_false', getD_0, getD_1, getD_2, getD_3]
  rw [st_all (put_same _ _ _) (by rfl) (by rfl) (by rfl), put_put, Sm.cells_eq]
  generalize hF : h7.put (n6 + 9) (some ⟨U.cells, 4, true⟩) = F
  have bF2 : F (n4 + 8) = some ⟨U.cells, 4, true⟩ := by rw [← hF, put_ne (by omega), x7.2 _ (by omega), bE2]
  have bF3 : F (n5 + 6) = some ⟨U.cells, 4, true⟩ := by rw [← hF, put_ne (by omega), x7.2 _ (by omega), bE3]
  have bF4 : F (n6 + 9) = some ⟨U.cells, 4, true⟩ := by rw [← hF, put_same]
  clear hF e7 x7
  obtain ⟨h8, n8, e8, x8⟩ := sure_spec (k := k) (by omega) F (n7 + 32)
  rw [e8]
  simp only [bind_some', asI_int, asB_bool, asStr_str, asP_ptr, asSl_sl, asAgg_1, asAgg_2, asAgg_3, asAgg_4, asTup_0, asTup_2, asTup_3, asTup_4, if_true', if_false', if_not_true', if_not_false', getD_0, getD_1, getD_2, getD_3]
  have c2 := (x8.2 (n4 + 8) (by omega)).trans bF2
  have c3 := (x8.2 (n5 + 6) (by omega)).trans bF3
  have c4 := (x8.2 (n6 + 9) (by omega)).trans bF4
  rw [if_pos (by decide), if_pos (by decide), if_pos (by decide), if_pos (by decide), if_pos (by decide), if_pos (by decide), ldr_all c2 (by rfl), asAgg_sm]
  simp only [bind_some', asI_int, asB_bool, asStr_str, asP_ptr, asSl_sl, asAgg_1, asAgg_2, asAgg_3, asAgg_4, asTup_0, asTup_2, asTup_3, asTup_4, if_true', if_false', if_not_true', if_not_false', getD_0, getD_1, getD_2, getD_3]
  rw [ldr_all c3 (by rfl), asAgg_sm]
  simp only [bind_some', asI_int, asB_bool, asStr_str, asP_ptr, asSl_sl, asAgg_1, asAgg_2, asAgg_3, asAgg_4, asTup_0, asTup_2, asTup_3, asTup_4, if_true', if_false', if_not_true', if_not_false', getD_0, getD_1, getD_2, getD_3]
  rw [eqSm, smEq_self, if_pos rfl, ldr_all c2 (by rfl), asAgg_sm]
  simp only [bind_some', asI_int, asB_bool, asStr_str, asP_ptr, asSl_sl, asAgg_1, asAgg_2, asAgg_3, asAgg_4, asTup_0, asTup_2, asTup_3, asTup_4, if_true', if_false', if_not_true', if_not_false', getD_0, getD_1, getD_2, getD_3]
  rw [ldr_all c4 (by rfl), asAgg_sm]
  simp only [bind_some', asI_int, asB_bool, asStr_str, asP_ptr, asSl_sl, asAgg_1, asAgg_2, asAgg_3, asAgg_4, asTup_0, asTup_2, asTup_3, asTup_4, if_true', if_false', if_not_true', if_not_false', getD_0, getD_1, getD_2, getD_3]
  rw [eqSm, smEq_self]
  exact ⟨_, _, rfl⟩

end Go.Proofs.Ytdjbhonncjcbjaa.T
