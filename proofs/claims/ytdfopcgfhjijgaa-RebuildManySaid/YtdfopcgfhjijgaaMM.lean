import Derived.Test.YtdfopcgfhjijgaaMO
set_option linter.unusedVariables false
set_option linter.unusedSimpArgs false
namespace Go.Proofs.Ytdfopcgfhjijgaa.T
open Go Go.RowKit Go.Proofs

theorem elem_spec {f : Nat} (hf : 2 ≤ f) (x : Nat) (hx : x < 256) (h : AHeap) (nx : Nat) : callP Try.prog keepT f Y0 60 [.int .i64 (x : Int)] h nx = some (.bool false, h, nx + 13) := by
  obtain ⟨f, rfl⟩ : ∃ m, f = m + 2 := ⟨f - 2, by omega⟩
  have hlt : (x : Int) < 256 := by omega
  rw [F60_eq, F61_eq, if_pos (by simp), decide_eq_true hlt]
  simp only [bind_some', asI_int, asB_bool, asStr_str, asP_ptr, asSl_sl, asAgg_1, asAgg_2, asAgg_3, asAgg_4, asTup_0, asTup_2, asTup_3, asTup_4, if_true', if_false', if_not_true', if_not_false', getD_0, getD_1, getD_2, getD_3]
  rfl

theorem all_loop {k0 : Nat} (hk0 : 2 ≤ k0) (lf : Nat) {l : List Nat} (hl : l.length ≤ 1000000) (hs : Small l) {a : Option (Nat × Nat)} (c : Bool) {h : AHeap} {n1 : Nat} (sl : Sl h n1 a l.length 1 (ints .i64 (nints l))) (m : Nat) :
    ∀ (f i nx : Nat), i + m = l.length → m < f → ∃ nx', nx ≤ nx' ∧ F70_L1 (callP Try.prog keepT k0) Y0 lf f a l.length c (.fn 60 [] []) ((l.length : Nat) : Int) (i : Int) h nx = some (.int .i64 (-1), h, nx') := by
  induction m with
  | zero =>
    intro f i nx e hf
    obtain ⟨f, rfl⟩ : ∃ m, f = m + 1 := ⟨f - 1, by omega⟩
    obtain rfl : i = l.length := by omega
    rw [F70_L1_eq, if_neg (by simp)]
    exact ⟨nx + 2, by omega, rfl⟩
  | succ m ih =>
    intro f i nx e hf
    obtain ⟨f, rfl⟩ : ∃ m, f = m + 1 := ⟨f - 1, by omega⟩
    have hi : i < l.length := by omega
    rw [F70_L1_eq, if_pos (by simpa using hi), sl.readN rfl hi]
    simp only [bind_some', asI_int, asB_bool, asStr_str, asP_ptr, asSl_sl, asAgg_1, asAgg_2, asAgg_3, asAgg_4, asTup_0, asTup_2, asTup_3, asTup_4, if_true', if_false', if_not_true', if_not_false', getD_0, getD_1, getD_2, getD_3]
    rw [asCal_fn, some_bind, callC_fn, List.nil_append, List.append_nil, elem_spec hk0 l[i] (hs _ (List.getElem_mem _))]
    simp only [bind_some', asI_int, asB_bool, asStr_str, asP_ptr, asSl_sl, asAgg_1, asAgg_2, asAgg_3, asAgg_4, asTup_0, asTup_2, asTup_3, asTup_4, if_true', if_false', if_not_true', if_not_false', getD_0, getD_1, getD_2, getD_3]
    rw [wsucc (by omega)]
    obtain ⟨nx', l', e'⟩ := ih f (i + 1) (nx + 9 + 13 + 2) (by omega) (by omega)
    exact ⟨nx', by omega, e'⟩

theorem all_spec {f : Nat} {l : List Nat} (hf : l.length + 8 ≤ f) (hl : l.length ≤ 1000000) (hs : Small l) {a : Option (Nat × Nat)} (c : Bool) {h : AHeap} {n1 : Nat} (sl : Sl h n1 a l.length 1 (ints .i64 (nints l))) (nx : Nat) :
    ∃ nx', nx ≤ nx' ∧ callP Try.prog keepT f Y0 46 [.slice a l.length c] h nx = some (.bool true, h, nx') := by
  obtain ⟨f, rfl⟩ : ∃ m, f = m + 3 := ⟨f - 3, by omega⟩
  obtain ⟨n2, l2, e2⟩ := all_loop (k0 := f) (by omega) f hl hs c sl l.length f 0 (nx + 5 + 6 + 4) (by omega) (by omega)
  rw [show ((0 : Nat) : Int) = 0 from rfl] at e2
  rw [F46_eq, F59_eq, F70_eq, e2]
  simp only [bind_some', asI_int, asB_bool, asStr_str, asP_ptr, asSl_sl, asAgg_1, asAgg_2, asAgg_3, asAgg_4, asTup_0, asTup_2, asTup_3, asTup_4, if_true', if_false', if_not_true', if_not_false', getD_0, getD_1, getD_2, getD_3]
  exact ⟨n2, by omega, rfl⟩

theorem may_loop {k0 : Nat} (hk0 : 20 ≤ k0) (lf : Nat) {M : List (List Nat)} {w : Nat} (hM : M.length ≤ 8) (hw : 1 ≤ w) (hw' : w ≤ 8) (hs : SmallM M) {a : Option (Nat × Nat)} (c : Bool) {h : AHeap} {n1 : Nat} (mt : Mat h n1 .i64 a M w) (m : Nat) :
    ∀ (f i nx : Nat), i + m = M.length → m < f → ∃ nx', nx ≤ nx' ∧ F43_L2 (callP Try.prog keepT k0) Y0 lf f a M.length c a M.length c ((M.length : Nat) : Int) (i : Int) h nx = some (.bool true, h, nx') := by
  induction m with
  | zero =>
    intro f i nx e hf
    obtain ⟨f, rfl⟩ : ∃ m, f = m + 1 := ⟨f - 1, by omega⟩
    obtain rfl : i = M.length := by omega
    rw [F43_L2_eq, if_neg (by simp)]
    exact ⟨nx + 2, by omega, rfl⟩
  | succ m ih =>
    intro f i nx e hf
    obtain ⟨f, rfl⟩ : ∃ m, f = m + 1 := ⟨f - 1, by omega⟩
    have hi : i < M.length := by omega
    obtain ⟨q, q1, q2, q3⟩ := mt.row (R := AV × AHeap × Nat) hi
    obtain ⟨r, r1, r2, r3⟩ := mt.row (R := AV × AHeap × Nat) (i := 0) (by omega)
    rw [show ((0 : Nat) : Int) = 0 from rfl] at r3
    obtain ⟨n2, l2, e2⟩ := all_spec (f := k0) (l := M[i]) (by omega) (by omega) (hs _ (List.getElem_mem _)) q.2 (by rw [q1]; exact q2) (nx + 26)
    rw [q1] at e2
    rw [F43_L2_eq, if_pos (by simpa using hi), q3]
    simp only [bind_some', asI_int, asB_bool, asStr_str, asP_ptr, asSl_sl, asAgg_1, asAgg_2, asAgg_3, asAgg_4, asTup_0, asTup_2, asTup_3, asTup_4, if_true', if_false', if_not_true', if_not_false', getD_0, getD_1, getD_2, getD_3]
    rw [r3]
    simp only [bind_some', asI_int, asB_bool, asStr_str, asP_ptr, asSl_sl, asAgg_1, asAgg_2, asAgg_3, asAgg_4, asTup_0, asTup_2, asTup_3, asTup_4, if_true', if_false', if_not_true', if_not_false', getD_0, getD_1, getD_2, getD_3]
    rw [if_neg (by simp), if_neg (by simp; omega), if_neg (by simp; omega), e2]
    simp only [bind_some', asI_int, asB_bool, asStr_str, asP_ptr, asSl_sl, asAgg_1, asAgg_2, asAgg_3, asAgg_4, asTup_0, asTup_2, asTup_3, asTup_4, if_true', if_false', if_not_true', if_not_false', getD_0, getD_1, getD_2, getD_3]
    rw [wsucc (by omega)]
    obtain ⟨nx', l', e'⟩ := ih f (i + 1) (n2 + 2) (by omega) (by omega)
    exact ⟨nx', by omega, e'⟩

theorem may_spec {f : Nat} (hf : 40 ≤ f) {M : List (List Nat)} {w : Nat} (h1 : 1 ≤ M.length) (hM : M.length ≤ 8) (hw : 1 ≤ w) (hw' : w ≤ 8) (hs : SmallM M) {a : Option (Nat × Nat)} (c : Bool) {h : AHeap} {n1 : Nat} (mt : Mat h n1 .i64 a M w) (nx : Nat) :
    ∃ nx', nx ≤ nx' ∧ callP Try.prog keepT f Y0 43 [.slice a M.length c] h nx = some (.bool true, h, nx') := by
  obtain ⟨f, rfl⟩ : ∃ m, f = m + 1 := ⟨f - 1, by omega⟩
  obtain ⟨n2, l2, e2⟩ := may_loop (k0 := f) (by omega) f hM hw hw' hs c mt M.length f 0 (nx + 9 + 3) (by omega) (by omega)
  rw [show ((0 : Nat) : Int) = 0 from rfl] at e2
  rw [F43_eq, if_neg (by simp; omega), if_neg (by simp; omega), F43_J1_eq]
  exact ⟨n2, by omega, e2⟩

/-- Sums in the field. -/
def xsum : Nat → (Nat → Nat) → Nat
  | 0, _ => 0
  | n + 1, f => xsum n f ^^^ f n
theorem xsum_lt {f : Nat → Nat} : ∀ n, (∀ i, i < n → f i < 256) → xsum n f < 256
  | 0, _ => by simp [xsum]
  | n + 1, h => Gf.xor_lt (xsum_lt n fun i hi => h i (by omega)) (h n (by omega))

theorem dot_spec {f : Nat} {g : Nat} {caps : List AV} (n : Nat) (hn : n ≤ 100) (hf : n + 20 ≤ f) (u v : Nat → Nat) (hu : ∀ i, i < n → u i < 256) (hv : ∀ i, i < n → v i < 256) (h : AHeap) (nx : Nat)
    (hg : ∀ i, i < n → ∀ (h' : AHeap) (nx' : Nat), Ext h nx h' nx' → ∀ k, f ≤ k + 1 → ∃ n2, nx' ≤ n2 ∧ callP Try.prog keepT k Y0 g ([.int .i64 (i : Int)] ++ caps) h' nx' = some (.tuple [.int .i64 ((u i : Nat) : Int), .int .i64 ((v i : Nat) : Int)], h', n2)) :
    ∃ h' nx', callP Try.prog keepT f Y0 44 [.int .i64 (n : Int), .fn g [] caps] h nx = some (.int .i64 ((xsum n (fun i => Gf.gm (u i) (v i)) : Nat) : Int), h', nx') ∧ Ext h nx h' nx' := by
  obtain ⟨f, rfl⟩ : ∃ m, f = m + 1 := ⟨f - 1, by omega⟩
  have loop : ∀ (m r i : Nat) (hh : AHeap) (nn : Nat), i + m = n → m < r → Ext h nx hh nn →
      ∃ h' nx', F44_L1 (callP Try.prog keepT f) Y0 f r (.fn g [] caps) ((xsum i (fun i => Gf.gm (u i) (v i)) : Nat) : Int) (n : Int) (i : Int) hh nn = some (.int .i64 ((xsum n (fun i => Gf.gm (u i) (v i)) : Nat) : Int), h', nx') ∧ Ext h nx h' nx' := by
    intro m
    induction m with
    | zero =>
      intro r i hh nn e hr hx
      obtain ⟨r, rfl⟩ : ∃ m, r = m + 1 := ⟨r - 1, by omega⟩
      obtain rfl : i = n := by omega
      rw [F44_L1_eq, if_neg (by simp)]
      exact ⟨hh, _, rfl, hx.le (by omega)⟩
    | succ m ih =>
      intro r i hh nn e hr hx
      obtain ⟨r, rfl⟩ : ∃ m, r = m + 1 := ⟨r - 1, by omega⟩
      have hi : i < n := by omega
      obtain ⟨n2, l2, e2⟩ := hg i hi hh (nn + 12) (hx.le (by omega)) f (by omega)
      obtain ⟨h3, n3, e3, x3⟩ := mtimes_spec (f := f) (by omega) (u i) (v i) (hu i hi) (hv i hi) hh n2
      have y3 := x3.1
      have y0 := hx.1
      have hlt := xsum_lt (f := fun i => Gf.gm (u i) (v i)) i (fun j hj => Gf.gm_lt (hu j (by omega)))
      have hgl := Gf.gm_lt (b := v i) (hu i hi)
      rw [F44_L1_eq, if_pos (by simpa using hi), asCal_fn, some_bind, callC_fn, List.nil_append, e2]
      simp only [bind_some', asI_int, asB_bool, asStr_str, asP_ptr, asSl_sl, asAgg_1, asAgg_2, asAgg_3, asAgg_4, asTup_0, asTup_2, asTup_3, asTup_4, if_true', if_false', if_not_true', if_not_false', getD_0, getD_1, getD_2, getD_3]
      rw [e3]
      simp only [bind_some', asI_int, asB_bool, asStr_str, asP_ptr, asSl_sl, asAgg_1, asAgg_2, asAgg_3, asAgg_4, asTup_0, asTup_2, asTup_3, asTup_4, if_true', if_false', if_not_true', if_not_false', getD_0, getD_1, getD_2, getD_3]
      rw [g_xor _ _ (by omega) (by omega), wsucc (by omega)]
      exact ih r (i + 1) h3 (n3 + 2) (by omega) (by omega) ⟨by omega, fun j hj => by rw [x3.2 j (by omega), hx.2 j hj]⟩
  obtain ⟨h', nx', e', x'⟩ := loop n f 0 h (nx + 4) (by omega) (by omega) ⟨by omega, fun _ _ => rfl⟩
  rw [F44_eq]
  exact ⟨h', nx', e', x'⟩

end Go.Proofs.Ytdfopcgfhjijgaa.T
