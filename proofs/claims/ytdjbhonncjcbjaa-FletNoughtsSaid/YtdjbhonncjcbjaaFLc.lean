import Derived.Test.YtdjbhonncjcbjaaFLb
set_option linter.unusedVariables false
set_option linter.unusedSimpArgs false
namespace Go.Proofs.Ytdjbhonncjcbjaa.T
open Go Go.RowKit Go.Proofs

theorem sure_spec {k : Nat} (hk : 40 ≤ k) (h : AHeap) (nx : Nat) : ∃ h' nx', callP Try.prog keepT k 20 [] h nx = some (.bool true, h', nx') ∧ Ext h nx h' nx' := by
  obtain ⟨k, rfl⟩ : ∃ m, k = m + 1 := ⟨k - 1, by omega⟩
  have sl : Sl (h.put (nx + 1) (some ⟨[(.int .u8 1), (.int .u8 0), (.int .u8 0), (.int .u8 0)], 1, true⟩)) (nx + 9) (some (nx + 1, 0)) [1, 0, 0, 0].length 1 (ints .u8 [1, 0, 0, 0]) :=
    ⟨rfl, fun j hj => ⟨(nx + 1, 0), _, rfl, by simp, put_same _ _ _, rfl, by simp, fun q hq => by simp [ints]⟩⟩
  obtain ⟨h1, n1, e1, x1⟩ := ofb_spec (k := k) [1, 0, 0, 0] 1 rfl (by omega) (by intro x hx; simp at hx; omega) true sl
  have x1' := x1.1
  have e1' : callP Try.prog keepT k 21 [.slice (some (nx + 1, 0)) 4 true] (h.put (nx + 1) (some ⟨[(.int .u8 1), (.int .u8 0), (.int .u8 0), (.int .u8 0)], 1, true⟩)) (nx + 9) = _ := e1
  have hs : (Sm.zero.fold (wordsOf [1, 0, 0, 0])).cells = [.int .i64 1, .int .i64 1, .int .i64 1, .int .i64 1] := by
    have : Sm.zero.fold (wordsOf [1, 0, 0, 0]) = ⟨1, 1, 1, 1⟩ := by simp [Sm.fold, wordsOf, wordOf, Sm.step, Sm.zero]
    rw [this]; rfl
  rw [hs] at e1'
  rw [F20_eq]
  dsimp only
  rw [e1']
  simp only [bind_some', asI_int, asB_bool, asStr_str, asP_ptr, asSl_sl, asAgg_1, asAgg_2, asAgg_3, asAgg_4, asTup_0, asTup_2, asTup_3, asTup_4, if_true', if_false', if_not_true', if_not_false', getD_0, getD_1, getD_2, getD_3]
  rw [st_all (put_same _ _ _) (by rfl) (by rfl) (by rfl), if_pos (by decide), ldr_all (put_same _ _ _) (by rfl), asAgg_4]
  simp only [bind_some', asI_int, asB_bool, asStr_str, asP_ptr, asSl_sl, asAgg_1, asAgg_2, asAgg_3, asAgg_4, asTup_0, asTup_2, asTup_3, asTup_4, if_true', if_false', if_not_true', if_not_false', getD_0, getD_1, getD_2, getD_3]
  rw [show eqCells [(.int .i64 1), (.int .i64 1), (.int .i64 1), (.int .i64 1)] [(.int .i64 1), (.int .i64 1), (.int .i64 1), (.int .i64 1)] = true from by simp [eqCells, eqA1]]
  exact ⟨_, _, rfl, by omega, fun i hi => by rw [put_ne (by omega), put_ne (by omega), x1.2 i (by omega), put_ne (by omega)]⟩

/-- As many words as fit. -/
def wlen (n most : Nat) : Nat := min n most - min n most % 4
theorem words_spec {k : Nat} (hk : 1 ≤ k) (l : List Int) (most : Nat) (hm : most ≤ 100000) (hl : l.length ≤ 1000000000000000) {a : Option (Nat × Nat)} (c : Bool) {h : AHeap} {nx : Nat} (hs : Sl h nx a l.length 1 (ints .u8 l)) :
    ∃ a' c' h' nx', callP Try.prog keepT k 19 [.slice a l.length c, .int .i64 (most : Int)] h nx = some (.slice a' (wlen l.length most) c', h', nx') ∧ OwnSl h' nx nx' a' (wlen l.length most) 1 (ints .u8 (l.take (wlen l.length most))) ∧ Ext h nx h' nx' := by
  obtain ⟨k, rfl⟩ : ∃ m, k = m + 1 := ⟨k - 1, by omega⟩
  have hmin : (if (most : Int) < ((l.length : Nat) : Int) then (most : Int) else ((l.length : Nat) : Int)) = ((min l.length most : Nat) : Int) := by split <;> omega
  have hw : wrapA .i64 (((min l.length most : Nat) : Int) - Int.tmod ((min l.length most : Nat) : Int) 4) = ((wlen l.length most : Nat) : Int) := by
    rw [Int.tmod_eq_emod_of_nonneg (by omega), wA (by omega) (by omega)]; unfold wlen; omega
  have hle : wlen l.length most ≤ l.length := by unfold wlen; omega
  obtain ⟨ce, cs, _⟩ := hs.cut c (lo := 0) (hi := wlen l.length most) (by omega) hle (l := none) (r := some (.int .i64 ((wlen l.length most : Nat) : Int))) bound_none (bound_some hle)
  rw [F19_eq, hmin, hw, ce]
  simp only [bind_some', asI_int, asB_bool, asStr_str, asP_ptr, asSl_sl, asAgg_1, asAgg_2, asAgg_3, asAgg_4, asTup_0, asTup_2, asTup_3, asTup_4, if_true', if_false', if_not_true', if_not_false', getD_0, getD_1, getD_2, getD_3]
  rw [Nat.sub_zero] at cs ⊢
  rw [show ((ints .u8 l).drop (0 * 1)).take (wlen l.length most * 1) = ints .u8 (l.take (wlen l.length most)) from by simp [ints, List.map_take]] at cs
  obtain ⟨rd, sr⟩ := cs.src'
  rw [sr]
  simp only [bind_some', asI_int, asB_bool, asStr_str, asP_ptr, asSl_sl, asAgg_1, asAgg_2, asAgg_3, asAgg_4, asTup_0, asTup_2, asTup_3, asTup_4, if_true', if_false', if_not_true', if_not_false', getD_0, getD_1, getD_2, getD_3]
  have hwl : wlen l.length most ≤ 100000 := by unfold wlen; omega
  obtain ⟨e, f1, f2, f3, f4⟩ := copyOf (h := h) (nx := nx) (n := wlen l.length most) (es := 1) (bytes := 1) (id := nx + 12) (rd := rd) cs.1 (growOk_of (by omega) (by omega)) (by omega)
  rw [f1]
  simp only [bind_some', asI_int, asB_bool, asStr_str, asP_ptr, asSl_sl, asAgg_1, asAgg_2, asAgg_3, asAgg_4, asTup_0, asTup_2, asTup_3, asTup_4, if_true', if_false', if_not_true', if_not_false', getD_0, getD_1, getD_2, getD_3]
  rw [f2]
  exact ⟨_, _, _, _, rfl, f3.le (by omega), ⟨by have := f4.1; omega, f4.2⟩⟩

theorem sameB_loop (call : CallF) (lf : Nat) (l r : List Int) (hlr : l.length = r.length) (hl : l.length ≤ 1000000000000000) {sa ta : Option (Nat × Nat)} (sc tc : Bool) {h : AHeap} {n1 n2 : Nat} (hs : Sl h n1 sa l.length 1 (ints .u8 l)) (ht : Sl h n2 ta r.length 1 (ints .u8 r)) (m : Nat) :
    ∀ (f i nx : Nat), i + m = l.length → m < f → ∃ nx', nx ≤ nx' ∧ F22_L1 call lf f sa l.length sc ta r.length tc (i : Int) h nx = some (.bool (decide (l.drop i = r.drop i)), h, nx') := by
  induction m with
  | zero =>
    intro f i nx e hf
    obtain ⟨f, rfl⟩ : ∃ m, f = m + 1 := ⟨f - 1, by omega⟩
    obtain rfl : i = l.length := by omega
    rw [F22_L1_eq, if_neg (by simp)]
    refine ⟨nx + 5, by omega, ?_⟩
    rw [List.drop_of_length_le (Nat.le_refl _), List.drop_of_length_le (by omega)]
    rfl
  | succ m ih =>
    intro f i nx e hf
    obtain ⟨f, rfl⟩ : ∃ m, f = m + 1 := ⟨f - 1, by omega⟩
    have hi : i < l.length := by omega
    have hir : i < r.length := by omega
    have he : i + 1 + m = l.length := by omega
    have hmf : m < f := by omega
    have d1 : l.drop i = l[i] :: l.drop (i + 1) := List.drop_eq_getElem_cons hi
    have d2 : r.drop i = r[i] :: r.drop (i + 1) := List.drop_eq_getElem_cons hir
    have w1 : wrapA .i64 ((i : Int) + 1) = ((i + 1 : Nat) : Int) := by rw [wA (by omega) (by omega)]; omega
    rw [F22_L1_eq, if_pos (by simpa using hi), hs.readI hi]
    simp only [bind_some', asI_int, asB_bool, asStr_str, asP_ptr, asSl_sl, asAgg_1, asAgg_2, asAgg_3, asAgg_4, asTup_0, asTup_2, asTup_3, asTup_4, if_true', if_false', if_not_true', if_not_false', getD_0, getD_1, getD_2, getD_3]
    rw [ht.readI hir]
    simp only [bind_some', asI_int, asB_bool, asStr_str, asP_ptr, asSl_sl, asAgg_1, asAgg_2, asAgg_3, asAgg_4, asTup_0, asTup_2, asTup_3, asTup_4, if_true', if_false', if_not_true', if_not_false', getD_0, getD_1, getD_2, getD_3]
    rw [d1, d2]
    by_cases hh : l[i] = r[i]
    · rw [if_neg (by simpa using hh), w1]
      obtain ⟨nx', l2, e2⟩ := ih f (i + 1) (nx + 16) he hmf
      refine ⟨nx', by clear w1; omega, ?_⟩
      rw [e2, decide_eq_decide.2 (show l.drop (i + 1) = r.drop (i + 1) ↔ l[i] :: l.drop (i + 1) = r[i] :: r.drop (i + 1) by rw [List.cons.injEq]; exact ⟨fun q => ⟨hh, q⟩, fun q => q.2⟩)]
    · rw [if_pos (by simpa using hh)]
      exact ⟨nx + 14, by clear w1; omega, by rw [decide_eq_false (fun q => hh (List.cons.inj q).1)]⟩

theorem sameB_spec {f : Nat} (l r : List Int) (hf : l.length + 2 ≤ f) (hl : l.length ≤ 1000000000000000) (hlr : l.length = r.length) {sa ta : Option (Nat × Nat)} (sc tc : Bool) {h : AHeap} {n1 n2 : Nat} (hs : Sl h n1 sa l.length 1 (ints .u8 l)) (ht : Sl h n2 ta r.length 1 (ints .u8 r)) (nx : Nat) :
    ∃ nx', nx ≤ nx' ∧ callP Try.prog keepT f 22 [.slice sa l.length sc, .slice ta r.length tc] h nx = some (.bool (decide (l = r)), h, nx') := by
  obtain ⟨f, rfl⟩ : ∃ m, f = m + 1 := ⟨f - 1, by omega⟩
  rw [F22_eq, if_neg (by simp [hlr])]
  obtain ⟨nx', l2, e⟩ := sameB_loop (callP Try.prog keepT f) f l r hlr hl sc tc hs ht l.length f 0 (nx + 7) (by omega) (by omega)
  exact ⟨nx', by omega, e⟩

end Go.Proofs.Ytdjbhonncjcbjaa.T
