/- The law CombAll over the machine. -/
import Derived.Test.YtdjbhonncjcbjaaC3
import Derived.Test.YtdjbhonncjcbjaaTI
set_option linter.unusedVariables false
set_option linter.unusedSimpArgs false
namespace Go.Proofs.Ytdjbhonncjcbjaa.T
open Go Go.RowKit Go.Proofs

def validB (n : Nat) : Nat → List Nat → Bool
  | _, [] => true
  | y, x :: r => decide (y ≤ x) && decide (x < n) && validB n (x + 1) r
theorem valid_of {n : Nat} : ∀ {P : List Nat} {y : Nat}, validB n y P = true → ValidFrom n y P
  | [], _, _ => trivial
  | x :: r, y, h => by
    simp only [validB, Bool.and_eq_true, decide_eq_true_eq] at h
    exact ⟨h.1.1, h.1.2, valid_of h.2⟩
def oneOk (n k i : Nat) (L : List (List Nat)) : Bool :=
  let P := L.getD i []
  decide (P.length = k) && validB n 0 P && decide (number n 0 P = i) &&
  ((List.range k).all fun a => decide (P.getD a 0 < n) && (decide (a = 0) || decide (P.getD (a - 1) 0 < P.getD a 0))) &&
  (decide (i = 0) || (List.range k).any fun d => decide ((L.getD (i - 1) []).getD d 0 < P.getD d 0) && (List.range d).all fun e => decide ((L.getD (i - 1) []).getD e 0 = P.getD e 0))
def allOk (n k : Nat) : Bool :=
  let L := picks n k 0
  decide (L.length = ch n k) && decide (1 ≤ ch n k) && (List.range L.length).all fun i => oneOk n k i L
theorem all_ok : ((List.range 9).all fun n => (List.range (n + 1)).all fun k => allOk n k) = true := by decide +kernel

theorem wpred {i : Nat} (h0 : i ≠ 0) (h : i ≤ 4000000000000000000) : wrapA .i64 ((i : Int) - 1) = ((i - 1 : Nat) : Int) := by rw [wA (by omega) (by omega)]; omega
theorem getD_some {L : List (List Nat)} {i : Nat} (h : i < L.length) : L[i]? = some (L.getD i []) := by
  rw [List.getD_eq_getElem?_getD, List.getElem?_eq_getElem h]; rfl
theorem natInts_get {P : List Nat} {a : Nat} (h : a < (natInts P).length) : (natInts P)[a] = ((P.getD a 0 : Nat) : Int) := by
  have h' : a < P.length := by simpa [natInts] using h
  simp [natInts, List.getD_eq_getElem?_getD, List.getElem?_eq_getElem h']
theorem readN {R : Type} {h : AHeap} {nx : Nat} {a : Option (Nat × Nat)} {P : List Nat} (s : Sl h nx a P.length 1 (ints .i64 (natInts P))) {i : Nat} (hi : i < P.length) (K : AV → Option R) :
    (a.bind fun p => if 0 ≤ (i : Int) ∧ (i : Int) < ((P.length : Nat) : Int) then (ldA h p.1 (p.2 + Int.toNat (i : Int) * 1)).bind K else none) = K (.int .i64 ((P.getD i 0 : Nat) : Int)) := by
  refine s.read0 (by omega) (by omega) (by omega) ?_ K
  rw [Int.toNat_natCast, Nat.mul_one]
  simp [ints, natInts, List.getD_eq_getElem?_getD, List.getElem?_eq_getElem hi]
/-- A row of the slice of slices. -/
theorem rowN {R : Type} {h : AHeap} {nx : Nat} {a : Option (Nat × Nat)} {n : Nat} {vs : List AV} (s : Sl h nx a n 1 vs) {i : Nat} (hi : i < n) {v : AV} (hv : vs[i]? = some v) (K : AV → Option R) :
    (a.bind fun p => if 0 ≤ (i : Int) ∧ (i : Int) < ((n : Nat) : Int) then (ldA h p.1 (p.2 + Int.toNat (i : Int) * 1)).bind K else none) = K v :=
  s.read0 (by omega) (by omega) (by omega) (by rw [Int.toNat_natCast, Nat.mul_one]; exact hv) K

theorem ahead_loop (call : YldF → CallF) (lf : Nat) {P Q : List Nat} {h : AHeap} {n1 n2 : Nat} {sa ta : Option (Nat × Nat)} (sc tc : Bool) (hs : Sl h n1 sa P.length 1 (ints .i64 (natInts P))) (ht : Sl h n2 ta Q.length 1 (ints .i64 (natInts Q)))
    (d : Nat) (hP : d < P.length) (hQ : d < Q.length) (hPQ : P.length = Q.length) (hd : P.getD d 0 < Q.getD d 0) (he : ∀ e, e < d → P.getD e 0 = Q.getD e 0) (hl : P.length ≤ 1000) (m : Nat) :
    ∀ (r i nx : Nat), i + m = d → m < r → ∃ nx', nx ≤ nx' ∧ F31_L1 call Y0 lf r sa P.length sc ta Q.length tc (i : Int) h nx = some (.bool true, h, nx') := by
  induction m with
  | zero =>
    intro r i nx e hr
    obtain ⟨r, rfl⟩ : ∃ m, r = m + 1 := ⟨r - 1, by omega⟩
    obtain rfl : i = d := by omega
    rw [F31_L1_eq, if_pos (decide_eq_true (by omega)), if_pos (decide_eq_true (by omega)), F31_J2_eq, readN hs hP]
    simp only [bind_some', asI_int, asB_bool, asStr_str, asP_ptr, asSl_sl, asAgg_1, asAgg_2, asAgg_3, asAgg_4, asTup_0, asTup_2, asTup_3, asTup_4, if_true', if_false', if_not_true', if_not_false', getD_0, getD_1, getD_2, getD_3]
    rw [readN ht hQ]
    simp only [bind_some', asI_int, asB_bool, asStr_str, asP_ptr, asSl_sl, asAgg_1, asAgg_2, asAgg_3, asAgg_4, asTup_0, asTup_2, asTup_3, asTup_4, if_true', if_false', if_not_true', if_not_false', getD_0, getD_1, getD_2, getD_3]
    rw [if_pos (by rw [bne_iff_ne]; omega), readN hs hP]
    simp only [bind_some', asI_int, asB_bool, asStr_str, asP_ptr, asSl_sl, asAgg_1, asAgg_2, asAgg_3, asAgg_4, asTup_0, asTup_2, asTup_3, asTup_4, if_true', if_false', if_not_true', if_not_false', getD_0, getD_1, getD_2, getD_3]
    rw [readN ht hQ]
    simp only [bind_some', asI_int, asB_bool, asStr_str, asP_ptr, asSl_sl, asAgg_1, asAgg_2, asAgg_3, asAgg_4, asTup_0, asTup_2, asTup_3, asTup_4, if_true', if_false', if_not_true', if_not_false', getD_0, getD_1, getD_2, getD_3]
    exact ⟨nx + 10 + 19, by omega, by rw [decide_eq_true (by omega)]⟩
  | succ m ih =>
    intro r i nx e hr
    obtain ⟨r, rfl⟩ : ∃ m, r = m + 1 := ⟨r - 1, by omega⟩
    obtain ⟨nx', l, f⟩ := ih r (i + 1) (nx + 10 + 12) (by omega) (by omega)
    rw [F31_L1_eq, if_pos (decide_eq_true (by omega)), if_pos (decide_eq_true (by omega)), F31_J2_eq, readN hs (by omega)]
    simp only [bind_some', asI_int, asB_bool, asStr_str, asP_ptr, asSl_sl, asAgg_1, asAgg_2, asAgg_3, asAgg_4, asTup_0, asTup_2, asTup_3, asTup_4, if_true', if_false', if_not_true', if_not_false', getD_0, getD_1, getD_2, getD_3]
    rw [readN ht (by omega)]
    simp only [bind_some', asI_int, asB_bool, asStr_str, asP_ptr, asSl_sl, asAgg_1, asAgg_2, asAgg_3, asAgg_4, asTup_0, asTup_2, asTup_3, asTup_4, if_true', if_false', if_not_true', if_not_false', getD_0, getD_1, getD_2, getD_3]
    rw [if_neg (by rw [bne_iff_ne, he i (by omega)]; omega), wsucc (by omega)]
    exact ⟨nx', by omega, f⟩

theorem inner_ok (call : YldF → CallF) (lf n0 : Nat) {m j : Nat} (hm : m ≤ 12) {L : List (List Nat)} {vs : List AV} {h : AHeap} {n1 : Nat} {la : Option (Nat × Nat)} (lc : Bool) (hL : L.length ≤ 1000) (s : Sl h n1 la L.length 1 vs) {i : Nat} (hi : i < L.length) {P : List Nat}
    {b : Option (Nat × Nat)} {c : Bool} (hv : vs[i]? = some (.slice b P.length c)) (hs : Sl h n1 b P.length 1 (ints .i64 (natInts P))) (hPj : P.length = j) (hj : j ≤ 12)
    (hP : ∀ a, a < j → P.getD a 0 < m ∧ (a ≠ 0 → P.getD (a - 1) 0 < P.getD a 0)) (d : Nat) :
    ∀ (r a nx : Nat), a + d = j → d < r → ∃ r' nx', nx ≤ nx' ∧ F13_L3 call Y0 lf n0 r (m : Int) (j : Int) la L.length lc (i : Int) (a : Int) h nx = F13_L3 call Y0 lf n0 (r' + 1) (m : Int) (j : Int) la L.length lc (i : Int) (j : Int) h nx' := by
  induction d with
  | zero =>
    intro r a nx e hr
    obtain ⟨r, rfl⟩ : ∃ m, r = m + 1 := ⟨r - 1, by omega⟩
    obtain rfl : a = j := by omega
    exact ⟨r, nx, by omega, rfl⟩
  | succ d ih =>
    intro r a nx e hr
    obtain ⟨r, rfl⟩ : ∃ m, r = m + 1 := ⟨r - 1, by omega⟩
    have ha : a < P.length := by omega
    obtain ⟨q1, q2⟩ := hP a (by omega)
    rw [F13_L3_eq, if_pos (decide_eq_true (by omega)), rowN s hi hv]
    simp only [bind_some', asI_int, asB_bool, asStr_str, asP_ptr, asSl_sl, asAgg_1, asAgg_2, asAgg_3, asAgg_4, asTup_0, asTup_2, asTup_3, asTup_4, if_true', if_false', if_not_true', if_not_false', getD_0, getD_1, getD_2, getD_3]
    rw [readN hs ha]
    simp only [bind_some', asI_int, asB_bool, asStr_str, asP_ptr, asSl_sl, asAgg_1, asAgg_2, asAgg_3, asAgg_4, asTup_0, asTup_2, asTup_3, asTup_4, if_true', if_false', if_not_true', if_not_false', getD_0, getD_1, getD_2, getD_3]
    rw [if_neg (by rw [decide_eq_true_eq]; omega), rowN s hi hv]
    simp only [bind_some', asI_int, asB_bool, asStr_str, asP_ptr, asSl_sl, asAgg_1, asAgg_2, asAgg_3, asAgg_4, asTup_0, asTup_2, asTup_3, asTup_4, if_true', if_false', if_not_true', if_not_false', getD_0, getD_1, getD_2, getD_3]
    rw [readN hs ha]
    simp only [bind_some', asI_int, asB_bool, asStr_str, asP_ptr, asSl_sl, asAgg_1, asAgg_2, asAgg_3, asAgg_4, asTup_0, asTup_2, asTup_3, asTup_4, if_true', if_false', if_not_true', if_not_false', getD_0, getD_1, getD_2, getD_3]
    rw [if_neg (by rw [decide_eq_true_eq]; omega)]
    by_cases h0 : a = 0
    · subst h0
      rw [if_neg (by simp), wsucc (by omega)]
      obtain ⟨r', nx', l, f⟩ := ih r 1 (nx + 47) (by omega) (by omega)
      exact ⟨r', nx', by omega, f⟩
    · have w2 : wrapA .i64 ((a : Int) - 1) = ((a - 1 : Nat) : Int) := by rw [wA (by omega) (by omega)]; omega
      rw [if_pos (decide_eq_true (by omega)), rowN s hi hv]
      simp only [bind_some', asI_int, asB_bool, asStr_str, asP_ptr, asSl_sl, asAgg_1, asAgg_2, asAgg_3, asAgg_4, asTup_0, asTup_2, asTup_3, asTup_4, if_true', if_false', if_not_true', if_not_false', getD_0, getD_1, getD_2, getD_3]
      rw [wpred h0 (by omega), readN hs (by omega)]
      simp only [bind_some', asI_int, asB_bool, asStr_str, asP_ptr, asSl_sl, asAgg_1, asAgg_2, asAgg_3, asAgg_4, asTup_0, asTup_2, asTup_3, asTup_4, if_true', if_false', if_not_true', if_not_false', getD_0, getD_1, getD_2, getD_3]
      rw [rowN s hi hv]
      simp only [bind_some', asI_int, asB_bool, asStr_str, asP_ptr, asSl_sl, asAgg_1, asAgg_2, asAgg_3, asAgg_4, asTup_0, asTup_2, asTup_3, asTup_4, if_true', if_false', if_not_true', if_not_false', getD_0, getD_1, getD_2, getD_3]
      rw [readN hs ha]
      simp only [bind_some', asI_int, asB_bool, asStr_str, asP_ptr, asSl_sl, asAgg_1, asAgg_2, asAgg_3, asAgg_4, asTup_0, asTup_2, asTup_3, asTup_4, if_true', if_false', if_not_true', if_not_false', getD_0, getD_1, getD_2, getD_3]
      have := q2 h0
      rw [if_neg (by rw [decide_eq_true_eq]; omega), wsucc (by omega)]
      obtain ⟨r', nx', l, f⟩ := ih r (a + 1) (nx + 47) (by omega) (by omega)
      exact ⟨r', nx', by omega, f⟩

theorem outer_ok {k : Nat} (hk : 60 ≤ k) (lf : Nat) (hlf : 20 ≤ lf) {m j : Nat} (hm : m ≤ 12) (hj : j ≤ m) {L : List (List Nat)} (hL : L.length ≤ 1000) {la : Option (Nat × Nat)} (lc : Bool)
    (hP : ∀ i, i < L.length → oneOk m j i L = true) (d : Nat) :
    ∀ (r i : Nat) (h : AHeap) (nx : Nat), i + d = L.length → d < r → PickRows h nx la L → ∃ h' nx', F13_L2 (callP Try.prog keepT k) Y0 lf r (m : Int) (j : Int) la L.length lc (i : Int) h nx = some (.bool true, h', nx') := by
  induction d with
  | zero =>
    intro r i h nx e hr p
    obtain ⟨r, rfl⟩ : ∃ m, r = m + 1 := ⟨r - 1, by omega⟩
    rw [F13_L2_eq, if_neg (by simp; omega)]
    exact ⟨_, _, rfl⟩
  | succ d ih =>
    intro r i h nx e hr p
    obtain ⟨r, rfl⟩ : ∃ m, r = m + 1 := ⟨r - 1, by omega⟩
    have hi : i < L.length := by omega
    obtain ⟨vs, s, rows⟩ := p
    have ho := hP i hi
    unfold oneOk at ho
    simp only [Bool.and_eq_true, List.all_eq_true, List.mem_range, Bool.or_eq_true, decide_eq_true_eq, List.any_eq_true] at ho
    obtain ⟨⟨⟨⟨o1, o2⟩, o3⟩, o4⟩, o5⟩ := ho
    obtain ⟨b, c, hv, hs⟩ := rows i _ (getD_some hi)
    generalize hPP : L.getD i [] = P at *
    rw [F13_L2_eq, if_pos (by simp; omega), rowN s hi hv]
    simp only [bind_some', asI_int, asB_bool, asStr_str, asP_ptr, asSl_sl, asAgg_1, asAgg_2, asAgg_3, asAgg_4, asTup_0, asTup_2, asTup_3, asTup_4, if_true', if_false', if_not_true', if_not_false', getD_0, getD_1, getD_2, getD_3]
    rw [if_neg (by simp; omega)]
    obtain ⟨r', n1, l1, e1⟩ := inner_ok (callP Try.prog keepT k) lf r hm lc hL s hi hv hs o1 (by omega) (fun a ha => ⟨(o4 a ha).1, fun h0 => (o4 a ha).2.resolve_left h0⟩) j lf 0 (nx + 12) (by omega) (by omega)
    rw [show ((0 : Nat) : Int) = 0 from rfl] at e1
    rw [e1, F13_L3_eq, if_neg (by simp)]
    -- behind the comparison
    have rest : ∀ nx2, nx ≤ nx2 → ∃ h' nx', F13_J4 (callP Try.prog keepT k) Y0 lf r (m : Int) (j : Int) la L.length lc (i : Int) h nx2 = some (.bool true, h', nx') := by
      intro nx2 hle
      obtain ⟨rd, src⟩ := hs.src'
      obtain ⟨e6, f1, f2, f3, f4⟩ := copyOf (h := h) (nx := nx2) (n := P.length) (es := 1) (bytes := 8) (id := nx2 + 5) (rd := rd) hs.1 (growOk_of (by omega) (by omega)) (by omega)
      have x6 : Ext h nx (h.puts e6.sets) (nx2 + 5 + 1) := ⟨by omega, fun i hi => f4.2 i (by omega)⟩
      obtain ⟨n3, l3, e3⟩ := number_spec (f := k) m P (by omega) hm (by omega) (valid_of o2) e6.c f3.sl (nx2 + 12)
      obtain ⟨oa5, oc5, h5, n5, e5, x5, o5⟩ := at_spec (f := k) m P (by omega) hm (by omega) (valid_of o2) (h.puts e6.sets) (n3 + 9)
      have x5' : Ext h nx h5 n5 := ⟨by have := x5.1; omega, fun i hi => (x5.2 i (by omega)).trans (x6.2 i hi)⟩
      rw [F13_J4_eq, rowN s hi hv]
      simp only [bind_some', asI_int, asB_bool, asStr_str, asP_ptr, asSl_sl, asAgg_1, asAgg_2, asAgg_3, asAgg_4, asTup_0, asTup_2, asTup_3, asTup_4, if_true', if_false', if_not_true', if_not_false', getD_0, getD_1, getD_2, getD_3]
      rw [src]
      simp only [bind_some', asI_int, asB_bool, asStr_str, asP_ptr, asSl_sl, asAgg_1, asAgg_2, asAgg_3, asAgg_4, asTup_0, asTup_2, asTup_3, asTup_4, if_true', if_false', if_not_true', if_not_false', getD_0, getD_1, getD_2, getD_3]
      rw [f1]
      simp only [bind_some', asI_int, asB_bool, asStr_str, asP_ptr, asSl_sl, asAgg_1, asAgg_2, asAgg_3, asAgg_4, asTup_0, asTup_2, asTup_3, asTup_4, if_true', if_false', if_not_true', if_not_false', getD_0, getD_1, getD_2, getD_3]
      rw [f2, e3]
      simp only [bind_some', asI_int, asB_bool, asStr_str, asP_ptr, asSl_sl, asAgg_1, asAgg_2, asAgg_3, asAgg_4, asTup_0, asTup_2, asTup_3, asTup_4, if_true', if_false', if_not_true', if_not_false', getD_0, getD_1, getD_2, getD_3]
      rw [o3, o1] at e5
      rw [e5]
      simp only [bind_some', asI_int, asB_bool, asStr_str, asP_ptr, asSl_sl, asAgg_1, asAgg_2, asAgg_3, asAgg_4, asTup_0, asTup_2, asTup_3, asTup_4, if_true', if_false', if_not_true', if_not_false', getD_0, getD_1, getD_2, getD_3]
      rw [if_neg (by simp), if_neg (by simp), o3, if_neg (by simp), rowN (s.ext x5') hi hv]
      simp only [bind_some', asI_int, asB_bool, asStr_str, asP_ptr, asSl_sl, asAgg_1, asAgg_2, asAgg_3, asAgg_4, asTup_0, asTup_2, asTup_3, asTup_4, if_true', if_false', if_not_true', if_not_false', getD_0, getD_1, getD_2, getD_3]
      have hlen : (natInts P).length = P.length := by simp [natInts]
      obtain ⟨n7, l7, e7⟩ := same_spec (f := k) (natInts P) (by omega) (by omega) (sa := oa5) (ta := b) oc5 c (h := h5) (by rw [hlen]; exact o5.sl) (by rw [hlen]; exact hs.ext x5') (n5 + 20)
      rw [hlen] at e7
      rw [← o1, e7]
      simp only [bind_some', asI_int, asB_bool, asStr_str, asP_ptr, asSl_sl, asAgg_1, asAgg_2, asAgg_3, asAgg_4, asTup_0, asTup_2, asTup_3, asTup_4, if_true', if_false', if_not_true', if_not_false', getD_0, getD_1, getD_2, getD_3]
      rw [wsucc (by omega), o1]
      have hn5 := x5'.1
      exact ih r (i + 1) h5 (n7 + 3) (by omega) (by omega) ⟨vs, s.ext (x5'.le (by omega)), fun i P hi => by obtain ⟨b, c, e, s⟩ := rows i P hi; exact ⟨b, c, e, s.ext (x5'.le (by omega))⟩⟩
    by_cases h0 : i = 0
    · subst h0
      rw [if_neg (by simp)]
      exact rest _ (by omega)
    · obtain ⟨dd, d1, d2, d3⟩ := o5.resolve_left h0
      obtain ⟨b0, c0, hv0, hs0⟩ := rows (i - 1) _ (getD_some (by omega))
      have ho0 := hP (i - 1) (by omega)
      unfold oneOk at ho0
      simp only [Bool.and_eq_true, decide_eq_true_eq] at ho0
      have ol := ho0.1.1.1.1
      generalize L.getD (i - 1) [] = Q at *
      rw [if_pos (by simp; omega), wpred h0 (by omega), rowN s (by omega) hv0]
      simp only [bind_some', asI_int, asB_bool, asStr_str, asP_ptr, asSl_sl, asAgg_1, asAgg_2, asAgg_3, asAgg_4, asTup_0, asTup_2, asTup_3, asTup_4, if_true', if_false', if_not_true', if_not_false', getD_0, getD_1, getD_2, getD_3]
      rw [rowN s hi hv]
      simp only [bind_some', asI_int, asB_bool, asStr_str, asP_ptr, asSl_sl, asAgg_1, asAgg_2, asAgg_3, asAgg_4, asTup_0, asTup_2, asTup_3, asTup_4, if_true', if_false', if_not_true', if_not_false', getD_0, getD_1, getD_2, getD_3]
      obtain ⟨k, rfl⟩ : ∃ q, k = q + 1 := ⟨k - 1, by omega⟩
      obtain ⟨n2, l2, e2⟩ := ahead_loop (callP Try.prog keepT k) k c0 c hs0 hs dd (by omega) (by omega) (by omega) d2 (fun e he => d3 e he) (by omega) dd k 0 (n1 + 18 + 2) (by omega) (by omega)
      rw [F31_eq]
      rw [show ((0 : Nat) : Int) = 0 from rfl] at e2
      rw [e2]
      simp only [bind_some', asI_int, asB_bool, asStr_str, asP_ptr, asSl_sl, asAgg_1, asAgg_2, asAgg_3, asAgg_4, asTup_0, asTup_2, asTup_3, asTup_4, if_true', if_false', if_not_true', if_not_false', getD_0, getD_1, getD_2, getD_3]
      exact rest _ (by omega)

theorem CombAll_run (h : AHeap) (nx : Nat) (x0 : Int) (_ : (Lit.int .i64 x0).wf = true) (x1 : Int) (_ : (Lit.int .i64 x1).wf = true) :
    ∃ f h' nx', callP Try.prog keepT f Y0 13 [.int .i64 x0, .int .i64 x1] h nx = some (.bool true, h', nx') := by
  refine ⟨2001, ?_⟩
  have q0 := Int.emod_nonneg x0 (show (9 : Int) ≠ 0 by omega)
  have q1 := Int.emod_lt_of_pos x0 (show (0 : Int) < 9 by omega)
  obtain ⟨m, hm⟩ : ∃ n : Nat, x0 % 9 = (n : Int) := ⟨(x0 % 9).toNat, by omega⟩
  have hm8 : m ≤ 8 := by omega
  obtain ⟨n1, e1, l1⟩ := picked_spec (k := 2000) (by omega) x0 9 h (nx + 4) (by omega) (by omega)
  rw [F13_eq, e1]
  simp only [bind_some', asI_int, asB_bool, asStr_str, asP_ptr, asSl_sl, asAgg_1, asAgg_2, asAgg_3, asAgg_4, asTup_0, asTup_2, asTup_3, asTup_4, if_true', if_false', if_not_true', if_not_false', getD_0, getD_1, getD_2, getD_3]
  rw [hm, wsucc (by omega)]
  have r0 := Int.emod_nonneg x1 (show ((m + 1 : Nat) : Int) ≠ 0 by omega)
  have r1 := Int.emod_lt_of_pos x1 (show (0 : Int) < ((m + 1 : Nat) : Int) by omega)
  obtain ⟨n2, e2, l2⟩ := picked_spec (k := 2000) (by omega) x1 ((m + 1 : Nat) : Int) h (n1 + 5) (by omega) (by omega)
  obtain ⟨j, hj⟩ : ∃ n : Nat, x1 % ((m + 1 : Nat) : Int) = (n : Int) := ⟨(x1 % ((m + 1 : Nat) : Int)).toNat, by omega⟩
  have hjm : j ≤ m := by omega
  rw [e2]
  simp only [bind_some', asI_int, asB_bool, asStr_str, asP_ptr, asSl_sl, asAgg_1, asAgg_2, asAgg_3, asAgg_4, asTup_0, asTup_2, asTup_3, asTup_4, if_true', if_false', if_not_true', if_not_false', getD_0, getD_1, getD_2, getD_3]
  rw [hj]
  have hok := List.all_eq_true.1 (List.all_eq_true.1 all_ok m (List.mem_range.2 (by omega))) j (List.mem_range.2 (by omega))
  simp only [allOk, Bool.and_eq_true, decide_eq_true_eq] at hok
  obtain ⟨⟨hlen, hone⟩, hrows⟩ := hok
  obtain ⟨a, c, h3, n3, e3, x3, p3⟩ := all_spec (f := 2000) (n := m) (k := j) (by omega) (by omega) hjm h (n2 + 8)
  rw [e3]
  simp only [bind_some', asI_int, asB_bool, asStr_str, asP_ptr, asSl_sl, asAgg_1, asAgg_2, asAgg_3, asAgg_4, asTup_0, asTup_2, asTup_3, asTup_4, if_true', if_false', if_not_true', if_not_false', getD_0, getD_1, getD_2, getD_3]
  obtain ⟨n4, l4, e4⟩ := count_spec (f := 2000) m j (by omega) (by omega) hjm h3 (n3 + 8)
  rw [e4]
  simp only [bind_some', asI_int, asB_bool, asStr_str, asP_ptr, asSl_sl, asAgg_1, asAgg_2, asAgg_3, asAgg_4, asTup_0, asTup_2, asTup_3, asTup_4, if_true', if_false', if_not_true', if_not_false', getD_0, getD_1, getD_2, getD_3]
  rw [if_neg (by simp), if_neg (by simp), if_neg (by rw [bne_iff_ne, hlen]; simp), if_neg (by rw [decide_eq_true_eq]; omega), F13_J1_eq]
  exact outer_ok (k := 2000) (by omega) 2000 (by omega) (by omega) hjm (picks_len (by omega) (by omega)) c (fun i hi => List.all_eq_true.1 hrows i (List.mem_range.2 hi)) _ 2000 0 h3 (n4 + 16 + 1) (Nat.zero_add _) (by have := picks_len (n := m) (k := j) (by omega) (by omega); omega) (p3.ext (show Ext h3 n3 h3 (n4 + 16 + 1) from ⟨by omega, fun _ _ => rfl⟩))

end Go.Proofs.Ytdjbhonncjcbjaa.T
