/- comb.All: all picks, in order. -/
import Derived.Test.YtdjbhonncjcbjaaC2
set_option linter.unusedVariables false
set_option linter.unusedSimpArgs false
namespace Go.Proofs.Ytdjbhonncjcbjaa.T
open Go Go.RowKit Go.Proofs

/-- A slice of slices of picks. -/
def PickRows (h : AHeap) (nx : Nat) (a : Option (Nat × Nat)) (L : List (List Nat)) : Prop :=
  ∃ vs, Sl h nx a L.length 1 vs ∧ ∀ (i : Nat) (P : List Nat), L[i]? = some P → ∃ b c, vs[i]? = some (.slice b P.length c) ∧ Sl h nx b P.length 1 (ints .i64 (natInts P))
theorem PickRows.ext {h h' : AHeap} {nx nx' : Nat} {a : Option (Nat × Nat)} {L : List (List Nat)} (p : PickRows h nx a L) (x : Ext h nx h' nx') : PickRows h' nx' a L := by
  obtain ⟨vs, s, q⟩ := p
  exact ⟨vs, s.ext x, fun i P hi => by obtain ⟨b, c, e, s⟩ := q i P hi; exact ⟨b, c, e, s.ext x⟩⟩

theorem each_spec {f k n l N kb nb : Nat} {Y : YldF} {A : List (List Nat) → (Nat → Prop) → AHeap → Nat → Prop} (hA : YSpec Y l A) (hf : k + 18 ≤ f) (hk : k ≤ 12) (hn : n ≤ 12) {O : Nat → Prop} {h : AHeap}
    (a : A [] O h N) (hkb : h kb = some ⟨[.int .i64 (k : Int)], 1, true⟩) (hnb : h nb = some ⟨[.int .i64 (n : Int)], 1, true⟩) (lk : kb < N) (ln : nb < N) (ok : ¬ O kb) (on : ¬ O nb) (hp : (picks n k 0).length ≤ 1000) :
    ∃ O' h' nx', callP Try.prog keepT f Y 44 [.yld l, .ptr (some (kb, 0)), .ptr (some (nb, 0))] h N = some (.tuple [], h', nx') ∧ N ≤ nx' ∧ A (picks n k 0) O' h' nx' ∧ (∀ i, O' i → O i ∨ N ≤ i) ∧ ∀ i, i < N → ¬ O i → h' i = h i := by
  obtain ⟨f, rfl⟩ : ∃ m, f = m + 1 := ⟨f - 1, by omega⟩
  rw [F44_eq, if_pos (by simp [AV.cells, allOne, AV.one])]
  dsimp only [Option.bind_some]
  have hO := hA.lt _ _ _ _ a
  have hc : AV.cells (.yld l) = [.yld l] := rfl
  rw [hc]
  rw [ld_at ((put_ne (by omega)).trans hkb) (v := .int .i64 (k : Int)) rfl]
  simp only [bind_some', asI_int, asB_bool, asStr_str, asP_ptr, asSl_sl, asAgg_1, asAgg_2, asAgg_3, asAgg_4, asTup_0, asTup_2, asTup_3, asTup_4, if_true', if_false', if_not_true', if_not_false', getD_0, getD_1, getD_2, getD_3]
  rw [if_pos (by simp; omega)]
  have hm : madeA [AV.int .i64 0] (Int.toNat 0 * 1) = [] := by simp [madeA]
  rw [hm]
  generalize hh1 : AHeap.put (AHeap.put h N (some ⟨[.yld l], 1, true⟩)) (N + 2) (some ⟨[], 1, true⟩) = h1
  rw [st_at (put_same h1 (N + 3) _) (n := 1) (v := .slice (some (N + 2, 0)) (Int.toNat 0) (0 == (k : Int))) rfl (by simp [AV.cells]) rfl, put_put]
  rw [st_at (put_same _ (N + 5) _) (n := 1) (v := .fn 45 [] [.ptr (some (N + 3, 0)), .ptr (some (kb, 0)), .ptr (some (N, 0)), .ptr (some (nb, 0)), .ptr (some (N + 5, 0))]) rfl (by simp [AV.cells]) rfl, put_put]
  generalize hh2 : AHeap.put (AHeap.put h1 (N + 3) _) (N + 5) _ = h2
  have hi : ∀ i, i < N → h2 i = h i := fun i hi => by rw [← hh2, put_ne (by omega), put_ne (by omega), ← hh1, put_ne (by omega), put_ne (by omega)]
  have e5 : h2 (N + 5) = some ⟨[.fn 45 [] [.ptr (some (N + 3, 0)), .ptr (some (kb, 0)), .ptr (some (N, 0)), .ptr (some (nb, 0)), .ptr (some (N + 5, 0))]], 1, true⟩ := by rw [← hh2, put_same]; simp [splice, AV.cells]
  have e3 : h2 (N + 3) = some ⟨[.slice (some (N + 2, 0)) ([] : List Nat).length (0 == (k : Int))], 1, true⟩ := by rw [← hh2, put_ne (by omega), put_same]; simp [splice, AV.cells]
  have e2 : h2 (N + 2) = some ⟨[], 1, true⟩ := by rw [← hh2, put_ne (by omega), put_ne (by omega), ← hh1, put_same]
  have e0 : h2 N = some ⟨[.yld l], 1, true⟩ := by rw [← hh2, put_ne (by omega), put_ne (by omega), ← hh1, put_ne (by omega), put_same]
  rw [ld_at e5 (v := .fn 45 [] _) rfl, asCal_fn]
  simp only [bind_some', asI_int, asB_bool, asStr_str, asP_ptr, asSl_sl, asAgg_1, asAgg_2, asAgg_3, asAgg_4, asTup_0, asTup_2, asTup_3, asTup_4, if_true', if_false', if_not_true', if_not_false', getD_0, getD_1, getD_2, getD_3]
  rw [callC_fn, nil_app]
  have oN : ∀ i, N ≤ i → ¬ O i := fun i hi e => by have := hO i e; omega
  obtain ⟨O', id', c', h', nx', g1, g2, g3, g4, g5, g6, g7, g8⟩ := walk_spec (p1 := N + 3) (kb := kb) (yb := N) (nb := nb) (wb := N + 5) (k := k) (n := n) hk hn hA k f [] 0 [] O (N + 2) (0 == (k : Int)) h2 (N + 10) (by omega) (by simp) (by omega) (by simpa using hp)
    ⟨(hi _ lk).trans hkb, (hi _ ln).trans hnb, e0, e5, by omega, by omega, by omega, by omega, by omega, by omega, by omega, by omega⟩
    ⟨e3, ⟨[], e2, by simp, rfl⟩, by omega, by omega, by omega, by omega, by omega, by omega, by omega⟩
    ⟨oN _ (by omega), ok, oN _ (by omega), on, oN _ (by omega), oN _ (by omega)⟩
    (hA.keeps _ _ _ _ _ _ a (by omega) (fun i hio => hi i (hO i hio)))
  simp only [List.singleton_append]
  rw [show ((0 : Nat) : Int) = 0 from rfl] at g1
  rw [g1]
  simp only [bind_some', asI_int, asB_bool, asStr_str, asP_ptr, asSl_sl, asAgg_1, asAgg_2, asAgg_3, asAgg_4, asTup_0, asTup_2, asTup_3, asTup_4, if_true', if_false', if_not_true', if_not_false', getD_0, getD_1, getD_2, getD_3]
  refine ⟨O', h', nx', rfl, by omega, by simpa using g3, fun i hi' => by rcases g6 i hi' with e | e; exact .inl e; exact .inr (by omega), fun i hi1 hi2 => (g8 i (by omega) hi2 (by omega) (by omega)).trans (hi i hi1)⟩

theorem gather_spec {f k n kb nb : Nat} {Y : YldF} (hf : k + 21 ≤ f) (hk : k ≤ 12) (hn : n ≤ 12) {h : AHeap} {nx : Nat} (hkb : h kb = some ⟨[.int .i64 (k : Int)], 1, true⟩) (hnb : h nb = some ⟨[.int .i64 (n : Int)], 1, true⟩) (lk : kb < nx) (ln : nb < nx) (hp : (picks n k 0).length ≤ 1000) :
    ∃ a c h' nx', callP Try.prog keepT f Y 43 [.slice none 0 false, .fn 44 [] [.ptr (some (kb, 0)), .ptr (some (nb, 0))]] h nx = some (.slice a (picks n k 0).length c, h', nx') ∧ Ext h nx h' nx' ∧ PickRows h' nx' a (picks n k 0) := by
  obtain ⟨f, rfl⟩ : ∃ m, f = m + 1 := ⟨f - 1, by omega⟩
  rw [F43_eq]
  dsimp only
  rw [show asFn (.fn 44 [] [.ptr (some (kb, 0)), .ptr (some (nb, 0))]) = some (44, [], [.ptr (some (kb, 0)), .ptr (some (nb, 0))]) from rfl]
  simp only [bind_some', asI_int, asB_bool, asStr_str, asP_ptr, asSl_sl, asAgg_1, asAgg_2, asAgg_3, asAgg_4, asTup_0, asTup_2, asTup_3, asTup_4, if_true', if_false', if_not_true', if_not_false', getD_0, getD_1, getD_2, getD_3]
  generalize hh0 : AHeap.put (AHeap.put h nx (some ⟨[.slice none 0 false], 1, true⟩)) (nx + 3) (some ⟨[], LB, true⟩) = h0
  have hi : ∀ i, i < nx → h0 i = h i := fun i hi => by rw [← hh0, put_ne (by omega), put_ne (by omega)]
  have e3 : h0 (nx + 3) = some ⟨[], LB, true⟩ := by rw [← hh0, put_same]
  have e0 : h0 nx = some ⟨[.slice none 0 false], 1, true⟩ := by rw [← hh0, put_ne (by omega), put_same]
  obtain ⟨O', h', nx', g1, g2, g3, g4, g5⟩ := each_spec (gath_spec f f Y nx (nx + 3)) (O := fun i => i = nx ∨ i = nx + 3) (N := nx + 4) (f := f) (by omega) hk hn
    (h := h0) ⟨.inl rfl, .inr rfl, by omega, fun i hi => by omega, e3, .inl ⟨rfl, e0⟩⟩ ((hi _ lk).trans hkb) ((hi _ ln).trans hnb) (by omega) (by omega) (by omega) (by omega) hp
  simp only [List.nil_append, List.singleton_append]
  rw [g1]
  simp only [bind_some', asI_int, asB_bool, asStr_str, asP_ptr, asSl_sl, asAgg_1, asAgg_2, asAgg_3, asAgg_4, asTup_0, asTup_2, asTup_3, asTup_4, if_true', if_false', if_not_true', if_not_false', getD_0, getD_1, getD_2, getD_3]
  obtain ⟨q1, q2, q3, q4, q5, q6⟩ := g3
  rw [q5]
  simp only [bind_some', asI_int, asB_bool, asStr_str, asP_ptr, asSl_sl, asAgg_1, asAgg_2, asAgg_3, asAgg_4, asTup_0, asTup_2, asTup_3, asTup_4, if_true', if_false', if_not_true', if_not_false', getD_0, getD_1, getD_2, getD_3]
  rw [if_pos (by simp)]
  have hx : ∀ i, i < nx → h' i = h i := fun i hi' => (g5 i (by omega) (by omega)).trans (hi i hi')
  generalize hh9 : AHeap.put h' (nx + 3) none = h9
  have h9i : ∀ i, i ≠ nx + 3 → h9 i = h' i := fun i hi => by rw [← hh9, put_ne hi]
  rcases q6 with ⟨e, q6⟩ | ⟨rb, rc, vs, q6, q7, q8, q9, q10, q11⟩
  · rw [ld_at ((h9i _ (by omega)).trans q6) (v := .slice none 0 false) rfl]
    simp only [bind_some', asI_int, asB_bool, asStr_str, asP_ptr, asSl_sl, asAgg_1, asAgg_2, asAgg_3, asAgg_4, asTup_0, asTup_2, asTup_3, asTup_4, if_true', if_false', if_not_true', if_not_false', getD_0, getD_1, getD_2, getD_3]
    rw [e]
    exact ⟨none, false, h9, nx' + 2, rfl, ⟨by omega, fun i hi => (h9i i (by omega)).trans (hx i hi)⟩, [], ⟨by simp, fun j hj => by simp at hj⟩, fun i P hi => by simp at hi⟩
  · rw [ld_at ((h9i _ (by omega)).trans q6) (v := .slice (some (rb, 0)) (picks n k 0).length rc) rfl]
    simp only [bind_some', asI_int, asB_bool, asStr_str, asP_ptr, asSl_sl, asAgg_1, asAgg_2, asAgg_3, asAgg_4, asTup_0, asTup_2, asTup_3, asTup_4, if_true', if_false', if_not_true', if_not_false', getD_0, getD_1, getD_2, getD_3]
    refine ⟨some (rb, 0), rc, h9, nx' + 2, rfl, ⟨by omega, fun i hi => (h9i i (by omega)).trans (hx i hi)⟩, vs, ⟨by rw [q11.len, Nat.mul_one], fun j hj => ⟨(rb, 0), _, rfl, by have := q4 _ q7; show rb < _; omega, (h9i _ q9).trans q10, rfl, by simp [q11.len], fun u hu => by simp⟩⟩, fun i P hi => ?_⟩
    obtain ⟨v, hv, a, c, rfl, r⟩ := q11.get i P hi
    refine ⟨a, c, hv, ?_⟩
    rcases r with rfl | ⟨j, rfl, oj, n1, n2, n3, hj⟩
    · exact ⟨by simp [ints, natInts], fun j hj => by simp at hj⟩
    · exact ⟨by simp [ints, natInts], fun u hu => ⟨(j, 0), _, rfl, by have := q4 _ oj; show j < _; omega, (h9i _ n2).trans hj, rfl, by simp [ints, natInts], fun w hw => by simp⟩⟩

theorem picks_len_all : ((List.range 13).all fun n => (List.range 13).all fun k => decide ((picks n k 0).length ≤ 1000)) = true := by decide +kernel
theorem picks_len {n k : Nat} (hn : n ≤ 12) (hk : k ≤ 12) : (picks n k 0).length ≤ 1000 := by
  have h := List.all_eq_true.1 (List.all_eq_true.1 picks_len_all n (List.mem_range.2 (by omega))) k (List.mem_range.2 (by omega))
  simpa using h

theorem all_spec {f n k : Nat} (hf : 40 ≤ f) (hn : n ≤ 12) (hk : k ≤ n) (h : AHeap) (nx : Nat) :
    ∃ a c h' nx', callP Try.prog keepT f Y0 30 [.int .i64 (n : Int), .int .i64 (k : Int)] h nx = some (.tuple [.slice a (picks n k 0).length c, .int .i64 0], h', nx') ∧ Ext h nx h' nx' ∧ PickRows h' nx' a (picks n k 0) := by
  obtain ⟨f, rfl⟩ : ∃ m, f = m + 1 := ⟨f - 1, by omega⟩
  rw [F30_eq, fine_spec (by omega) n k hn hk]
  simp only [bind_some', asI_int, asB_bool, asStr_str, asP_ptr, asSl_sl, asAgg_1, asAgg_2, asAgg_3, asAgg_4, asTup_0, asTup_2, asTup_3, asTup_4, if_true', if_false', if_not_true', if_not_false', getD_0, getD_1, getD_2, getD_3]
  obtain ⟨f, rfl⟩ : ∃ m, f = m + 1 := ⟨f - 1, by omega⟩
  rw [F42_eq]
  dsimp only
  simp only [bind_some', asI_int, asB_bool, asStr_str, asP_ptr, asSl_sl, asAgg_1, asAgg_2, asAgg_3, asAgg_4, asTup_0, asTup_2, asTup_3, asTup_4, if_true', if_false', if_not_true', if_not_false', getD_0, getD_1, getD_2, getD_3]
  rw [F41_eq]
  obtain ⟨a, c, h', nx', g1, g2, g3⟩ := gather_spec (f := f) (k := k) (n := n) (Y := Y0) (by omega) (by omega) hn (h := (h.put (nx + 6 + 17 + 6) (some ⟨[.int .i64 (n : Int)], 1, true⟩)).put (nx + 6 + 17 + 6 + 1) (some ⟨[.int .i64 (k : Int)], 1, true⟩)) (nx := nx + 6 + 17 + 6 + 5 + 4) (kb := nx + 6 + 17 + 6 + 1) (nb := nx + 6 + 17 + 6) (put_same _ _ _) ((put_ne (by omega)).trans (put_same _ _ _)) (by omega) (by omega) (picks_len hn (by omega))
  rw [g1]
  simp only [bind_some', asI_int, asB_bool, asStr_str, asP_ptr, asSl_sl, asAgg_1, asAgg_2, asAgg_3, asAgg_4, asTup_0, asTup_2, asTup_3, asTup_4, if_true', if_false', if_not_true', if_not_false', getD_0, getD_1, getD_2, getD_3]
  exact ⟨a, c, h', nx', rfl, ⟨by have := g2.1; omega, fun i hi => (g2.2 i (by omega)).trans ((put_ne (by omega)).trans (put_ne (by omega)))⟩, g3⟩

end Go.Proofs.Ytdjbhonncjcbjaa.T
