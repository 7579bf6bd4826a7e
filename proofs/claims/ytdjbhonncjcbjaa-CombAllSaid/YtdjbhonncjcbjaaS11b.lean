import Derived.Test.YtdjbhonncjcbjaaS11
set_option linter.unusedVariables false
set_option linter.unusedSimpArgs false
namespace Go.Proofs.Ytdjbhonncjcbjaa.T
open Go Go.RowKit Go.Proofs

theorem at_loop {k0 : Nat} (hk0 : 20 ≤ k0) (lf : Nat) (n : Nat) (hn : n ≤ 12) (P : List Nat) (hP : P.length ≤ 12) {h0 : AHeap} {nx0 : Nat} (m : Nat) : ∀ (rest : List Nat) (r i y : Nat) (oa : Option (Nat × Nat)) (oc : Bool) (h : AHeap) (nx : Nat),
    P.drop i = rest → i + rest.length = P.length → y + m = n → m < r → ValidFrom n y rest → Ext h0 nx0 h nx → OwnSl h nx0 nx oa i 1 (ints .i64 (natInts (P.take i))) →
    ∃ (oa' : Option (Nat × Nat)) (oc' : Bool) (h' : AHeap) (nx' : Nat), F28_L2 (callP Try.prog keepT k0) Y0 lf r (n : Int) ((P.length : Nat) : Int) ((number n y rest : Nat) : Int) oa i oc (y : Int) h nx = some (.tuple [.slice oa' P.length oc', .int .i64 0], h', nx') ∧
      Ext h0 nx0 h' nx' ∧ OwnSl h' nx0 nx' oa' P.length 1 (ints .i64 (natInts P)) := by
  have done : ∀ (r i y : Nat) (num : Int) (oa : Option (Nat × Nat)) (oc : Bool) (h : AHeap) (nx : Nat), i = P.length → 0 < r → Ext h0 nx0 h nx → OwnSl h nx0 nx oa i 1 (ints .i64 (natInts (P.take i))) →
      ∃ (oa' : Option (Nat × Nat)) (oc' : Bool) (h' : AHeap) (nx' : Nat), F28_L2 (callP Try.prog keepT k0) Y0 lf r (n : Int) ((P.length : Nat) : Int) num oa i oc (y : Int) h nx = some (.tuple [.slice oa' P.length oc', .int .i64 0], h', nx') ∧
      Ext h0 nx0 h' nx' ∧ OwnSl h' nx0 nx' oa' P.length 1 (ints .i64 (natInts P)) := by
    intro r i y num oa oc h nx e hr hx ho
    obtain ⟨r, rfl⟩ : ∃ m, r = m + 1 := ⟨r - 1, by omega⟩
    subst e
    rw [List.take_length] at ho
    rw [F28_L2_eq, if_neg (by simp)]
    exact ⟨oa, oc, h, _, rfl, hx.le (by omega), ho.le (by omega)⟩
  induction m with
  | zero =>
    intro rest r i y oa oc h nx hd e ey hr v hx ho
    cases rest with
    | nil => exact done r i y _ oa oc h nx (by simpa using e) hr hx ho
    | cons x rest => have := v.1; have := v.2.1; omega
  | succ m ih =>
    intro rest r i y oa oc h nx hd e ey hr v hx ho
    cases rest with
    | nil => exact done r i y _ oa oc h nx (by simpa using e) (by omega) hx ho
    | cons x rest =>
      obtain ⟨r, rfl⟩ : ∃ m, r = m + 1 := ⟨r - 1, by omega⟩
      rw [List.length_cons] at e
      have hi : i < P.length := by omega
      have hPi : P[i] = x := by
        have := List.drop_eq_getElem_cons hi
        rw [hd] at this; exact (List.cons.inj this).1.symm
      have hrest : P.drop (i + 1) = rest := by
        have := List.drop_eq_getElem_cons hi
        rw [hd] at this; exact (List.cons.inj this).2.symm
      have he : i + 1 + rest.length = P.length := by omega
      have ey' : y + 1 + m = n := by omega
      have hmr : m < r := by omega
      have v0 := v
      obtain ⟨v1, v2, v3⟩ := v
      have hvl := valid_len v3 (by omega)
      have hcl := ch_le (n := n - y - 1) (k := rest.length) (by omega) (by omega)
      obtain ⟨n1, l1, e1⟩ := choose_spec (f := k0) (n - y - 1) rest.length (by omega) (by omega) (by omega) h (nx + 15)
      have w1 : wrapA .i64 (wrapA .i64 ((n : Int) - (y : Int)) - 1) = ((n - y - 1 : Nat) : Int) := by clear hcl; rw [wA (x := (n : Int) - y) (by omega) (by omega), wA (by omega) (by omega)]; omega
      have w2 : wrapA .i64 (wrapA .i64 ((P.length : Int) - (i : Int)) - 1) = ((rest.length : Nat) : Int) := by clear hcl w1; rw [wA (x := (P.length : Int) - i) (by omega) (by omega), wA (by omega) (by omega)]; omega
      have w3 : wrapA .i64 ((y : Int) + 1) = ((y + 1 : Nat) : Int) := by clear hcl w1 w2; rw [wA (by omega) (by omega)]; omega
      rw [F28_L2_eq, if_pos (by simpa using hi), w1, w2, e1]
      simp only [bind_some', asI_int, asB_bool, asStr_str, asP_ptr, asSl_sl, asAgg_1, asAgg_2, asAgg_3, asAgg_4, asTup_0, asTup_2, asTup_3, asTup_4, if_true', if_false', if_not_true', if_not_false', getD_0, getD_1, getD_2, getD_3]
      rw [w3]
      have hx1 := hx.1
      by_cases hxy : x = y
      · subst hxy
        have hnum : number n x (x :: rest) = number n (x + 1) rest := by rw [number, Nat.sub_self, run, Nat.zero_add]
        have hlt := number_lt m (x + 1) rest ey' v3
        have e3 : n - x - 1 = n - (x + 1) := by clear w1 w2 w3; omega
        rw [hnum, if_neg (by simp; rw [e3]; exact hlt)]
        obtain ⟨ee, f1, f2, f3, f4⟩ := ho.push (c := oc) (bytes := 8) (id := n1 + 5) (id2 := n1 + 6) (ws := [.int .i64 (x : Int)]) rfl (growOk_of (by clear w1 w2 w3; omega) (by omega)) hx1 (by clear w1 w2 w3; omega) (by clear w1 w2 w3; omega)
        have tk : P.take (i + 1) = P.take i ++ [x] := by rw [List.take_succ_eq_append_getElem hi, hPi]
        have mi : ints .i64 (natInts (P.take i)) ++ [.int .i64 (x : Int)] = ints .i64 (natInts (P.take (i + 1))) := by rw [tk]; simp [natInts]
        rw [src_lit1, bind_some', f1, bind_some', f2]
        rw [mi] at f3
        exact ih rest r (i + 1) (x + 1) ee.a ee.c _ _ hrest he ey' hmr v3 ((hx.then f4).le (by clear w1 w2 w3; omega)) (f3.le (by clear w1 w2 w3; omega))
      · have hlt : y < x := by clear w1 w2 w3; omega
        have hnum := number_step (n := n) (r := rest) hlt
        have hnl := number_lt (m + 1) y (x :: rest) ey v0
        have w4 : wrapA .i64 (((number n y (x :: rest) : Nat) : Int) - ((ch (n - y - 1) rest.length : Nat) : Int)) = ((number n (y + 1) (x :: rest) : Nat) : Int) := by
          have hcl2 := ch_le (n := n - y) (k := (x :: rest).length) (by clear w1 w2 w3; omega) (by rw [List.length_cons]; clear w1 w2 w3; omega)
          rw [hnum] at hnl ⊢
          clear w1 w2 w3 e1 hnum
          generalize ch (n - y - 1) rest.length = A at *
          generalize number n (y + 1) (x :: rest) = B at *
          generalize ch (n - y) (x :: rest).length = C at *
          rw [wA (by omega) (by omega)]; omega
        have ge : ((number n y (x :: rest) : Nat) : Int) ≥ ((ch (n - y - 1) rest.length : Nat) : Int) := by rw [hnum]; clear w1 w2 w3 w4; omega
        rw [if_pos (by rw [decide_eq_true ge]), w4]
        exact ih (x :: rest) r i (y + 1) oa oc h (n1 + 10) hd (by rw [List.length_cons]; clear w1 w2 w3 w4; omega) ey' hmr ⟨hlt, v2, v3⟩ (hx.le (by clear w1 w2 w3 w4; omega)) (ho.le (by clear w1 w2 w3 w4; omega))

theorem at_spec {f : Nat} (n : Nat) (P : List Nat) (hf : 40 ≤ f) (hn : n ≤ 12) (hP : P.length ≤ 12) (v : ValidFrom n 0 P) (h : AHeap) (nx : Nat) :
    ∃ (oa' : Option (Nat × Nat)) (oc' : Bool) (h' : AHeap) (nx' : Nat), callP Try.prog keepT f Y0 28 [.int .i64 (n : Int), .int .i64 ((P.length : Nat) : Int), .int .i64 ((number n 0 P : Nat) : Int)] h nx = some (.tuple [.slice oa' P.length oc', .int .i64 0], h', nx') ∧
      Ext h nx h' nx' ∧ OwnSl h' nx nx' oa' P.length 1 (ints .i64 (natInts P)) := by
  obtain ⟨f, rfl⟩ : ∃ m, f = m + 1 := ⟨f - 1, by omega⟩
  have hvl := valid_len v (by omega)
  obtain ⟨n1, l1, e1⟩ := choose_spec (f := f) n P.length (by omega) hn (by omega) h (nx + 17 + 17)
  have hlt := number_lt n 0 P (by omega) v
  obtain ⟨oa, oc, h', nx', e2, x2, o2⟩ := at_loop (k0 := f) (by omega) f n hn P hP (h0 := h) (nx0 := nx) n P f 0 0 none false h (n1 + 2) rfl (by omega) (by omega) (by omega) v ((Ext.refl h nx).le (by omega)) (OwnSl.nil _ _ _ _)
  rw [F28_eq, fine_spec (by omega) n P.length hn (by omega)]
  simp only [bind_some', asI_int, asB_bool, asStr_str, asP_ptr, asSl_sl, asAgg_1, asAgg_2, asAgg_3, asAgg_4, asTup_0, asTup_2, asTup_3, asTup_4, if_true', if_false', if_not_true', if_not_false', getD_0, getD_1, getD_2, getD_3]
  rw [if_neg (by simp), e1]
  simp only [bind_some', asI_int, asB_bool, asStr_str, asP_ptr, asSl_sl, asAgg_1, asAgg_2, asAgg_3, asAgg_4, asTup_0, asTup_2, asTup_3, asTup_4, if_true', if_false', if_not_true', if_not_false', getD_0, getD_1, getD_2, getD_3]
  rw [if_neg (by simpa using hlt), F28_J1_eq]
  exact ⟨oa, oc, h', nx', e2, x2, o2⟩

theorem at_none {f : Nat} (n k : Nat) (hf : 40 ≤ f) (hn : n ≤ 12) (hk : k ≤ n) (h : AHeap) (nx : Nat) :
    ∃ nx', nx ≤ nx' ∧ callP Try.prog keepT f Y0 28 [.int .i64 (n : Int), .int .i64 (k : Int), .int .i64 ((ch n k : Nat) : Int)] h nx = some (.tuple [.slice none 0 false, .int .i64 2], h, nx') := by
  obtain ⟨f, rfl⟩ : ∃ m, f = m + 1 := ⟨f - 1, by omega⟩
  obtain ⟨n1, l1, e1⟩ := choose_spec (f := f) n k (by omega) hn hk h (nx + 17 + 17)
  rw [F28_eq, fine_spec (by omega) n k hn hk]
  simp only [bind_some', asI_int, asB_bool, asStr_str, asP_ptr, asSl_sl, asAgg_1, asAgg_2, asAgg_3, asAgg_4, asTup_0, asTup_2, asTup_3, asTup_4, if_true', if_false', if_not_true', if_not_false', getD_0, getD_1, getD_2, getD_3]
  rw [if_neg (by simp), e1]
  simp only [bind_some', asI_int, asB_bool, asStr_str, asP_ptr, asSl_sl, asAgg_1, asAgg_2, asAgg_3, asAgg_4, asTup_0, asTup_2, asTup_3, asTup_4, if_true', if_false', if_not_true', if_not_false', getD_0, getD_1, getD_2, getD_3]
  rw [if_pos (by simp)]
  exact ⟨_, by omega, rfl⟩

theorem same_loop (call : YldF → CallF) (lf : Nat) (l : List Int) (hl : l.length ≤ 1000000000000000) {sa ta : Option (Nat × Nat)} (sc tc : Bool) {h : AHeap} {n1 n2 : Nat} (hs : Sl h n1 sa l.length 1 (ints .i64 l)) (ht : Sl h n2 ta l.length 1 (ints .i64 l)) (m : Nat) :
    ∀ (r i nx : Nat), i + m = l.length → m < r → ∃ nx', nx ≤ nx' ∧ F29_L1 call Y0 lf r sa l.length sc ta l.length tc (i : Int) h nx = some (.bool true, h, nx') := by
  induction m with
  | zero =>
    intro r i nx e hr
    obtain ⟨r, rfl⟩ : ∃ m, r = m + 1 := ⟨r - 1, by omega⟩
    obtain rfl : i = l.length := by omega
    rw [F29_L1_eq, if_neg (by simp)]
    exact ⟨_, by omega, rfl⟩
  | succ m ih =>
    intro r i nx e hr
    obtain ⟨r, rfl⟩ : ∃ m, r = m + 1 := ⟨r - 1, by omega⟩
    have hi : i < l.length := by omega
    have he : i + 1 + m = l.length := by omega
    have hmr : m < r := by omega
    have w1 : wrapA .i64 ((i : Int) + 1) = ((i + 1 : Nat) : Int) := by rw [wA (by omega) (by omega)]; omega
    rw [F29_L1_eq, if_pos (by simpa using hi), hs.readI hi]
    simp only [bind_some', asI_int, asB_bool, asStr_str, asP_ptr, asSl_sl, asAgg_1, asAgg_2, asAgg_3, asAgg_4, asTup_0, asTup_2, asTup_3, asTup_4, if_true', if_false', if_not_true', if_not_false', getD_0, getD_1, getD_2, getD_3]
    rw [ht.readI hi]
    simp only [bind_some', asI_int, asB_bool, asStr_str, asP_ptr, asSl_sl, asAgg_1, asAgg_2, asAgg_3, asAgg_4, asTup_0, asTup_2, asTup_3, asTup_4, if_true', if_false', if_not_true', if_not_false', getD_0, getD_1, getD_2, getD_3]
    rw [if_neg (by simp), w1]
    obtain ⟨nx', l, e⟩ := ih r (i + 1) (nx + 16) he hmr
    exact ⟨nx', by omega, e⟩

theorem same_spec {f : Nat} (l : List Int) (hf : l.length + 2 ≤ f) (hl : l.length ≤ 1000000000000000) {sa ta : Option (Nat × Nat)} (sc tc : Bool) {h : AHeap} {n1 n2 : Nat} (hs : Sl h n1 sa l.length 1 (ints .i64 l)) (ht : Sl h n2 ta l.length 1 (ints .i64 l)) (nx : Nat) :
    ∃ nx', nx ≤ nx' ∧ callP Try.prog keepT f Y0 29 [.slice sa l.length sc, .slice ta l.length tc] h nx = some (.bool true, h, nx') := by
  obtain ⟨f, rfl⟩ : ∃ m, f = m + 1 := ⟨f - 1, by omega⟩
  rw [F29_eq, if_neg (by simp)]
  obtain ⟨nx', l, e⟩ := same_loop (callP Try.prog keepT f) f l hl sc tc hs ht l.length f 0 (nx + 7) (by omega) (by omega)
  exact ⟨nx', by omega, e⟩

theorem valid_marked (n : Nat) (P : Nat → Bool) : ∀ (d y : Nat), y + d = n → ValidFrom n y ((List.range' y d).filter P)
  | 0, y, _ => by simp [ValidFrom]
  | d + 1, y, e => by
    have ih := valid_marked n P d (y + 1) (by omega)
    rw [List.range'_succ, List.filter_cons]
    split
    · exact ⟨Nat.le_refl _, by omega, ih⟩
    · have low : ∀ {l : List Nat} {y z : Nat}, ValidFrom n z l → y ≤ z → ValidFrom n y l := by
        intro l y z v hz
        cases l with
        | nil => trivial
        | cons x l => exact ⟨by have := v.1; omega, v.2⟩
      exact low ih (by omega)

theorem CombBack_run (h : AHeap) (nx : Nat) (x0 : Int) (_ : (Lit.int .i64 x0).wf = true) (l : List Int) (hl : l.length * 8 ≤ 140737488351232) (_ : ∀ n ∈ l, (Lit.int .i64 n).wf = true) (a : Option (Nat × Nat)) (hs : Sl h nx a l.length 1 (l.map (AV.int .i64))) :
    ∃ f h' nx', callP Try.prog keepT f Y0 11 [.int .i64 x0, .slice a l.length false] h nx = some (.bool true, h', nx') := by
  obtain ⟨k, hk⟩ : ∃ k, k = l.length + 100 := ⟨_, rfl⟩
  refine ⟨k + 1, ?_⟩
  have q0 := Int.emod_nonneg x0 (show (12 : Int) ≠ 0 by omega)
  have q1 := Int.emod_lt_of_pos x0 (show (0 : Int) < 12 by omega)
  obtain ⟨n, hn⟩ : ∃ n : Nat, 1 + x0 % 12 = (n : Int) := ⟨(1 + x0 % 12).toNat, by omega⟩
  have hn1 : 1 ≤ n := by omega
  have hn2 : n ≤ 12 := by omega
  obtain ⟨n1, e1, l1⟩ := picked_spec (k := k) (by omega) x0 12 h (nx + 5) (by omega) (by omega)
  rw [F11_eq, e1]
  simp only [bind_some', asI_int, asB_bool, asStr_str, asP_ptr, asSl_sl, asAgg_1, asAgg_2, asAgg_3, asAgg_4, asTup_0, asTup_2, asTup_3, asTup_4, if_true', if_false', if_not_true', if_not_false', getD_0, getD_1, getD_2, getD_3]
  rw [wA (x := 1 + x0 % 12) (by omega) (by omega), hn]
  obtain ⟨bs, oa, oc, h2, n2, e2, b1, b2, x2, o2⟩ := several_spec (k := k) l (n : Int) n (by omega) (by omega) hn1 (by omega) (by omega) false (hs.ext (show Ext h nx h (n1 + 5) from ⟨by omega, fun _ _ => rfl⟩))
  rw [e2]
  simp only [bind_some', asI_int, asB_bool, asStr_str, asP_ptr, asSl_sl, asAgg_1, asAgg_2, asAgg_3, asAgg_4, asTup_0, asTup_2, asTup_3, asTup_4, if_true', if_false', if_not_true', if_not_false', getD_0, getD_1, getD_2, getD_3]
  have v : ValidFrom n 0 (marked bs n) := by unfold marked; rw [List.range_eq_range']; exact valid_marked n _ n 0 (by omega)
  generalize marked bs n = P at *
  have hP : P.length ≤ 12 := by omega
  have hPn : P.length ≤ n := by omega
  obtain ⟨rd, src⟩ := o2.sl.src'
  rw [src]
  simp only [bind_some', asI_int, asB_bool, asStr_str, asP_ptr, asSl_sl, asAgg_1, asAgg_2, asAgg_3, asAgg_4, asTup_0, asTup_2, asTup_3, asTup_4, if_true', if_false', if_not_true', if_not_false', getD_0, getD_1, getD_2, getD_3]
  obtain ⟨e6, f1, f2, f3, f4⟩ := copyOf (h := h2) (nx := n2) (n := P.length) (es := 1) (bytes := 8) (id := n2 + 2) (rd := rd) o2.1 (growOk_of (by omega) (by omega)) (by omega)
  rw [f1]
  simp only [bind_some', asI_int, asB_bool, asStr_str, asP_ptr, asSl_sl, asAgg_1, asAgg_2, asAgg_3, asAgg_4, asTup_0, asTup_2, asTup_3, asTup_4, if_true', if_false', if_not_true', if_not_false', getD_0, getD_1, getD_2, getD_3]
  rw [f2]
  obtain ⟨n3, l3, e3⟩ := number_spec (f := k) n P (by omega) hn2 hP v e6.c f3.sl (n2 + 9)
  rw [e3]
  simp only [bind_some', asI_int, asB_bool, asStr_str, asP_ptr, asSl_sl, asAgg_1, asAgg_2, asAgg_3, asAgg_4, asTup_0, asTup_2, asTup_3, asTup_4, if_true', if_false', if_not_true', if_not_false', getD_0, getD_1, getD_2, getD_3]
  obtain ⟨n4, l4, e4⟩ := count_spec (f := k) n P.length (by omega) hn2 hPn (h2.puts e6.sets) (n3 + 9)
  rw [e4]
  simp only [bind_some', asI_int, asB_bool, asStr_str, asP_ptr, asSl_sl, asAgg_1, asAgg_2, asAgg_3, asAgg_4, asTup_0, asTup_2, asTup_3, asTup_4, if_true', if_false', if_not_true', if_not_false', getD_0, getD_1, getD_2, getD_3]
  obtain ⟨oa5, oc5, h5, n5, e5, x5, o5⟩ := at_spec (f := k) n P (by omega) hn2 hP v (h2.puts e6.sets) (n4 + 10)
  rw [e5]
  simp only [bind_some', asI_int, asB_bool, asStr_str, asP_ptr, asSl_sl, asAgg_1, asAgg_2, asAgg_3, asAgg_4, asTup_0, asTup_2, asTup_3, asTup_4, if_true', if_false', if_not_true', if_not_false', getD_0, getD_1, getD_2, getD_3]
  obtain ⟨n6, l6, e6'⟩ := at_none (f := k) n P.length (by omega) hn2 hPn h5 (n5 + 10)
  rw [e6']
  simp only [bind_some', asI_int, asB_bool, asStr_str, asP_ptr, asSl_sl, asAgg_1, asAgg_2, asAgg_3, asAgg_4, asTup_0, asTup_2, asTup_3, asTup_4, if_true', if_false', if_not_true', if_not_false', getD_0, getD_1, getD_2, getD_3]
  have hlt := number_lt n 0 P (by omega) v
  have sP : Sl h5 (n6 + 29) oa P.length 1 (ints .i64 (natInts P)) := o2.sl.ext ((f4.trans (show Ext (h2.puts e6.sets) (n2 + 2 + 1) h5 (n6 + 29) from ⟨by have := x5.1; omega, fun i hi => x5.2 i (by omega)⟩)))
  have hlen : (natInts P).length = P.length := by simp [natInts]
  obtain ⟨n7, _, e7⟩ := same_spec (f := k) (natInts P) (by omega) (by omega) (sa := oa) (ta := oa5) oc oc5 (h := h5) (by rw [hlen]; exact sP) (by rw [hlen]; exact o5.sl) (n6 + 29)
  rw [hlen] at e7
  rw [if_pos (by simp), if_pos (by simp), if_pos (by simp), if_pos (by simp), if_pos (by simp), if_pos (by simpa using hlt), e7]
  exact ⟨_, _, rfl⟩

end Go.Proofs.Ytdjbhonncjcbjaa.T
