import Derived.Test.YtdjbhonncjcbjaaSV
set_option linter.unusedVariables false
set_option linter.unusedSimpArgs false
namespace Go.Proofs.Ytdjbhonncjcbjaa.T
open Go Go.RowKit Go.Proofs

def ch : Nat → Nat → Nat
  | _, 0 => 1
  | 0, _ + 1 => 0
  | n + 1, k + 1 => ch n k + ch n (k + 1)
theorem ch_all : ((List.range 13).all fun n => (List.range 13).all fun k => decide (ch n k ≤ 924) && (!decide (k < n) || (decide (ch n k * (n - k) / (k + 1) = ch n (k + 1)) && decide (ch n k * (n - k) ≤ 100000)))) = true := by decide +kernel
theorem ch_le {n k : Nat} (hn : n ≤ 12) (hk : k ≤ 12) : ch n k ≤ 924 := by
  have h := List.all_eq_true.1 (List.all_eq_true.1 ch_all n (List.mem_range.2 (by omega))) k (List.mem_range.2 (by omega))
  simp only [Bool.and_eq_true, decide_eq_true_eq] at h
  exact h.1
theorem ch_step {n k : Nat} (hn : n ≤ 12) (hk : k < n) : ch n k * (n - k) / (k + 1) = ch n (k + 1) ∧ ch n k * (n - k) ≤ 100000 := by
  have h := List.all_eq_true.1 (List.all_eq_true.1 ch_all n (List.mem_range.2 (by omega))) k (List.mem_range.2 (by omega))
  simp only [Bool.and_eq_true, decide_eq_true_eq, Bool.or_eq_true, Bool.not_eq_true', decide_eq_false_iff_not] at h
  exact h.2.resolve_left (fun y => y hk)

theorem choose_loop (call : YldF → CallF) (lf n k : Nat) (hn : n ≤ 12) (hk : k ≤ n) (h : AHeap) (m : Nat) : ∀ (r i nx : Nat), i + m = k → m < r → ∃ nx', nx ≤ nx' ∧ F37_L1 call Y0 lf r (n : Int) ((ch n i : Nat) : Int) (k : Int) (i : Int) h nx = some (.int .i64 ((ch n k : Nat) : Int), h, nx') := by
  induction m with
  | zero =>
    intro r i nx e hr
    obtain ⟨r, rfl⟩ : ∃ m, r = m + 1 := ⟨r - 1, by omega⟩
    obtain rfl : i = k := by omega
    rw [F37_L1_eq, if_neg (by simp)]
    exact ⟨_, by omega, rfl⟩
  | succ m ih =>
    intro r i nx e hr
    obtain ⟨r, rfl⟩ : ∃ m, r = m + 1 := ⟨r - 1, by omega⟩
    have hi : i < k := by omega
    have hmr : m < r := by omega
    have he : i + 1 + m = k := by omega
    obtain ⟨s1, s2⟩ := ch_step hn (show i < n by omega)
    have hcl := ch_le hn (show i ≤ 12 by omega)
    have hmul : ((ch n i : Nat) : Int) * ((n : Int) - (i : Int)) = ((ch n i * (n - i) : Nat) : Int) := by
      rw [Int.natCast_mul, Int.ofNat_sub (by omega)]
    have hq : Int.tdiv ((ch n i * (n - i) : Nat) : Int) ((i + 1 : Nat) : Int) = ((ch n (i + 1) : Nat) : Int) := by
      rw [Int.tdiv_eq_ediv_of_nonneg (by omega), ← Int.natCast_ediv, s1]
    have hcl2 := ch_le hn (show i + 1 ≤ 12 by omega)
    have w0 : wrapA .i64 ((n : Int) - (i : Int)) = (n : Int) - (i : Int) := by clear hmul hq s1 s2; exact wA (by omega) (by omega)
    have w1 : wrapA .i64 ((i : Int) + 1) = ((i + 1 : Nat) : Int) := by clear hmul hq s1 s2 w0; rw [wA (by omega) (by omega)]; omega
    have w2 : wrapA .i64 ((ch n i * (n - i) : Nat) : Int) = ((ch n i * (n - i) : Nat) : Int) := by
      clear hmul hq s1 w0 w1; generalize ch n i * (n - i) = z at s2 ⊢; exact wA (by omega) (by omega)
    have w3 : wrapA .i64 ((ch n (i + 1) : Nat) : Int) = ((ch n (i + 1) : Nat) : Int) := by
      clear hmul hq s1 s2 w0 w1 w2; generalize ch n (i + 1) = z at hcl2 ⊢; exact wA (by omega) (by omega)
    obtain ⟨nx', l, f⟩ := ih r (i + 1) (nx + 14) he hmr
    rw [F37_L1_eq, if_pos (by simpa using hi), w0, w1, if_neg (by clear w0 w1 w2 w3; omega), hmul, w2, hq, w3]
    exact ⟨nx', by clear w0 w1 w2 w3; omega, f⟩

theorem choose_spec {f : Nat} (n k : Nat) (hf : k + 2 ≤ f) (hn : n ≤ 12) (hk : k ≤ n) (h : AHeap) (nx : Nat) : ∃ nx', nx ≤ nx' ∧ callP Try.prog keepT f Y0 37 [.int .i64 (n : Int), .int .i64 (k : Int)] h nx = some (.int .i64 ((ch n k : Nat) : Int), h, nx') := by
  obtain ⟨f, rfl⟩ : ∃ m, f = m + 1 := ⟨f - 1, by omega⟩
  obtain ⟨nx', l, e⟩ := choose_loop (callP Try.prog keepT f) f n k hn hk h k f 0 (nx + 4) (by omega) (by omega)
  rw [show ch n 0 = 1 from by cases n <;> rfl] at e
  rw [F37_eq]
  exact ⟨nx', by omega, e⟩

theorem fine_spec {f : Nat} (hf : 1 ≤ f) (n k : Nat) (hn : n ≤ 12) (hk : k ≤ n) (h : AHeap) (nx : Nat) : callP Try.prog keepT f Y0 36 [.int .i64 (n : Int), .int .i64 (k : Int)] h nx = some (.bool true, h, nx + 17) := by
  obtain ⟨f, rfl⟩ : ∃ m, f = m + 1 := ⟨f - 1, by omega⟩
  rw [F36_eq, if_pos (by simp), if_pos (by simp; omega), if_pos (by simp), decide_eq_true (by omega)]

theorem count_spec {f : Nat} (n k : Nat) (hf : k + 4 ≤ f) (hn : n ≤ 12) (hk : k ≤ n) (h : AHeap) (nx : Nat) : ∃ nx', nx ≤ nx' ∧ callP Try.prog keepT f Y0 18 [.int .i64 (n : Int), .int .i64 (k : Int)] h nx = some (.tuple [.int .i64 ((ch n k : Nat) : Int), .int .i64 0], h, nx') := by
  obtain ⟨f, rfl⟩ : ∃ m, f = m + 1 := ⟨f - 1, by omega⟩
  obtain ⟨nx', l, e⟩ := choose_spec (f := f) n k (by omega) hn hk h (nx + 6 + 17 + 5)
  rw [F18_eq, fine_spec (by omega) n k hn hk]
  simp only [bind_some', asI_int, asB_bool, asStr_str, asP_ptr, asSl_sl, asAgg_1, asAgg_2, asAgg_3, asAgg_4, asTup_0, asTup_2, asTup_3, asTup_4, if_true', if_false', if_not_true', if_not_false', getD_0, getD_1, getD_2, getD_3]
  rw [e]
  simp only [bind_some', asI_int, asB_bool, asStr_str, asP_ptr, asSl_sl, asAgg_1, asAgg_2, asAgg_3, asAgg_4, asTup_0, asTup_2, asTup_3, asTup_4, if_true', if_false', if_not_true', if_not_false', getD_0, getD_1, getD_2, getD_3]
  exact ⟨nx', by omega, rfl⟩

/-! ### numbers of picks, in plain Lean -/
def ValidFrom (n : Nat) : Nat → List Nat → Prop
  | _, [] => True
  | y, x :: r => y ≤ x ∧ x < n ∧ ValidFrom n (x + 1) r
def run (n k : Nat) : Nat → Nat → Nat
  | _, 0 => 0
  | y, d + 1 => ch (n - y - 1) k + run n k (y + 1) d
def number (n : Nat) : Nat → List Nat → Nat
  | _, [] => 0
  | y, x :: r => run n r.length y (x - y) + number n (x + 1) r

theorem valid_len {n : Nat} : ∀ {r : List Nat} {y : Nat}, ValidFrom n y r → y ≤ n → y + r.length ≤ n
  | [], y, _, hy => by simpa using hy
  | x :: r, y, v, hy => by
    have := valid_len v.2.2 (by have := v.2.1; omega)
    have := v.1
    rw [List.length_cons]; omega

theorem number_lt {n : Nat} (m : Nat) : ∀ (y : Nat) (r : List Nat), y + m = n → ValidFrom n y r → number n y r < ch (n - y) r.length := by
  induction m with
  | zero =>
    intro y r e v
    cases r with
    | nil => simp [number, ch]
    | cons x r => have := v.1; have := v.2.1; omega
  | succ m ih =>
    intro y r e v
    cases r with
    | nil => simp [number, ch]
    | cons x r =>
      have hp : ch (n - y) (r.length + 1) = ch (n - y - 1) r.length + ch (n - y - 1) (r.length + 1) := by
        obtain ⟨z, hz⟩ : ∃ z, n - y = z + 1 := ⟨n - y - 1, by omega⟩
        rw [hz, Nat.add_sub_cancel, ch]
      have e1 : n - y - 1 = n - (y + 1) := by omega
      by_cases hx : x = y
      · subst hx
        have := ih (x + 1) r (by omega) v.2.2
        rw [number, Nat.sub_self, run, Nat.zero_add, List.length_cons, hp, e1]
        omega
      · have v' : ValidFrom n (y + 1) (x :: r) := ⟨by have := v.1; omega, v.2.1, v.2.2⟩
        have := ih (y + 1) (x :: r) (by omega) v'
        have hd : x - y = (x - (y + 1)) + 1 := by have := v.1; omega
        rw [number, List.length_cons, ← e1] at this
        rw [number, hd, run, List.length_cons, hp]
        omega

theorem number_step {n y x : Nat} {r : List Nat} (hx : y < x) : number n y (x :: r) = ch (n - y - 1) r.length + number n (y + 1) (x :: r) := by
  rw [number, number, show x - y = (x - (y + 1)) + 1 by omega, run]
  omega

theorem run_le {n k : Nat} (hn : n ≤ 12) (hk : k ≤ 12) : ∀ (d y : Nat), run n k y d ≤ d * 924
  | 0, y => by simp [run]
  | d + 1, y => by
    have := run_le hn hk d (y + 1)
    have := ch_le (n := n - y - 1) (k := k) (by omega) hk
    rw [run]; omega

/-! ### Number -/
theorem number_inner {k0 : Nat} (hk0 : 20 ≤ k0) (lf n0 : Nat) (n : Nat) (hn : n ≤ 12) {sa : Option (Nat × Nat)} (sn : Nat) (sc : Bool) {ta : Option (Nat × Nat)} (tn : Nat) (tc : Bool) (x18 : Int) (i x k : Nat) (hik : i + 1 + k = sn) (hx : x + 1 + k ≤ n) (h : AHeap) (d : Nat) :
    ∀ (r y : Nat) (out : Nat) (nx : Nat), y + d = x → d < r → out + d * 924 ≤ 100000 → ∃ nx', nx ≤ nx' ∧ F27_L4 (callP Try.prog keepT k0) Y0 lf n0 r (n : Int) sa sn sc (out : Int) (i : Int) (x : Int) (y : Int) ta tn tc x18 (i : Int) h nx = F27_L2 (callP Try.prog keepT k0) Y0 lf n0 (n : Int) sa sn sc ((out + run n k y d : Nat) : Int) (x : Int) ta tn tc x18 (wrapA .i64 ((i : Int) + 1)) h nx' := by
  induction d with
  | zero =>
    intro r y out nx e hr ho
    obtain ⟨r, rfl⟩ : ∃ m, r = m + 1 := ⟨r - 1, by omega⟩
    obtain rfl : y = x := by omega
    rw [F27_L4_eq, if_neg (by simp)]
    exact ⟨nx + 19, by omega, by simp only [run, Nat.add_zero]⟩
  | succ d ih =>
    intro r y out nx e hr ho
    obtain ⟨r, rfl⟩ : ∃ m, r = m + 1 := ⟨r - 1, by omega⟩
    have hyx : y < x := by omega
    have he : y + 1 + d = x := by omega
    have hdr : d < r := by omega
    have hcl := ch_le (n := n - y - 1) (k := k) (by omega) (by omega)
    obtain ⟨n1, l1, e1⟩ := choose_spec (f := k0) (n - y - 1) k (by omega) (by omega) (by omega) h (nx + 15 + 13)
    have hle : ((k : Nat) : Int) ≤ ((n - y - 1 : Nat) : Int) := by omega
    have w1 : wrapA .i64 (wrapA .i64 ((n : Int) - (y : Int)) - 1) = ((n - y - 1 : Nat) : Int) := by clear hcl; rw [wA (x := (n : Int) - y) (by omega) (by omega), wA (by omega) (by omega)]; omega
    have w2 : wrapA .i64 (wrapA .i64 ((sn : Int) - (i : Int)) - 1) = ((k : Nat) : Int) := by clear hcl w1; rw [wA (x := (sn : Int) - i) (by omega) (by omega), wA (by omega) (by omega)]; omega
    have w3 : wrapA .i64 ((y : Int) + 1) = ((y + 1 : Nat) : Int) := by clear hcl w1 w2; rw [wA (by omega) (by omega)]; omega
    have hor : out + ch (n - y - 1) k + d * 924 ≤ 100000 := by clear w1 w2 w3; generalize ch (n - y - 1) k = z at hcl ⊢; omega
    have w4 : wrapA .i64 ((out : Int) + ((ch (n - y - 1) k : Nat) : Int)) = ((out + ch (n - y - 1) k : Nat) : Int) := by
      clear hor w1 w2 w3 e1; generalize ch (n - y - 1) k = z at hcl ⊢; rw [wA (by omega) (by omega)]; omega
    rw [F27_L4_eq, if_pos (by simpa using hyx), w1, w2, if_pos (by rw [decide_eq_true hle]), F27_J5_eq, w1, w2, e1]
    simp only [bind_some', asI_int, asB_bool, asStr_str, asP_ptr, asSl_sl, asAgg_1, asAgg_2, asAgg_3, asAgg_4, asTup_0, asTup_2, asTup_3, asTup_4, if_true', if_false', if_not_true', if_not_false', getD_0, getD_1, getD_2, getD_3]
    rw [w3, w4]
    obtain ⟨nx', l2, f⟩ := ih r (y + 1) (out + ch (n - y - 1) k) (n1 + 3) he hdr hor
    refine ⟨nx', by clear w1 w2 w3 w4; omega, ?_⟩
    rw [f, run, Nat.add_assoc]

theorem number_loop {k0 : Nat} (hk0 : 20 ≤ k0) (lf : Nat) (hlf : 20 ≤ lf) (n : Nat) (hn : n ≤ 12) (P : List Nat) (hP : P.length ≤ 12) {sa : Option (Nat × Nat)} (sc : Bool) {h : AHeap} {nxs : Nat} (hs : Sl h nxs sa P.length 1 (ints .i64 (natInts P))) (rest : List Nat) :
    ∀ (r i y out nx : Nat), P.drop i = rest → i + rest.length = P.length → rest.length < r → ValidFrom n y rest → y ≤ n → out + (n - y) * 924 ≤ 50000 →
    ∃ nx', nx ≤ nx' ∧ F27_L2 (callP Try.prog keepT k0) Y0 lf r (n : Int) sa P.length sc (out : Int) ((y : Int) - 1) sa P.length sc ((P.length : Nat) : Int) (i : Int) h nx = some (.tuple [.int .i64 ((out + number n y rest : Nat) : Int), .int .i64 0], h, nx') := by
  induction rest with
  | nil =>
    intro r i y out nx hd e hr v hy ho
    obtain ⟨r, rfl⟩ : ∃ m, r = m + 1 := ⟨r - 1, by omega⟩
    obtain rfl : i = P.length := by simpa using e
    rw [F27_L2_eq, if_neg (by simp)]
    exact ⟨nx + 4, by omega, by simp [number]⟩
  | cons x rest ih =>
    intro r i y out nx hd e hr v hy ho
    obtain ⟨r, rfl⟩ : ∃ m, r = m + 1 := ⟨r - 1, by omega⟩
    have hi : i < P.length := by rw [List.length_cons] at e; omega
    have hPi : P[i] = x := by
      have := List.drop_eq_getElem_cons hi
      rw [hd] at this; exact (List.cons.inj this).1.symm
    have hrest : P.drop (i + 1) = rest := by
      have := List.drop_eq_getElem_cons hi
      rw [hd] at this; exact (List.cons.inj this).2.symm
    rw [List.length_cons] at e hr
    have he : i + 1 + rest.length = P.length := by omega
    have hrr : rest.length < r := by omega
    obtain ⟨v1, v2, v3⟩ := v
    have hvl := valid_len v3 (by omega)
    have hil : i < (natInts P).length := by simp [natInts]; exact hi
    have hlen : (natInts P).length = P.length := by simp [natInts]
    have hget : (natInts P)[i] = (x : Int) := by simp [natInts, hPi]
    have rd := Sl.readI (R := AV × AHeap × Nat) (show Sl h nxs sa (natInts P).length 1 (ints .i64 (natInts P)) by rw [hlen]; exact hs) hil
    rw [hlen] at rd
    have w1 : wrapA .i64 ((y : Int) - 1 + 1) = (y : Int) := by rw [wA (by omega) (by omega)]; omega
    have w2 : wrapA .i64 ((i : Int) + 1) = ((i + 1 : Nat) : Int) := by
      clear w1; rw [wA (by omega) (by omega)]; omega
    rw [F27_L2_eq, if_pos (by simpa using hi), rd]
    simp only [bind_some', asI_int, asB_bool, asStr_str, asP_ptr, asSl_sl, asAgg_1, asAgg_2, asAgg_3, asAgg_4, asTup_0, asTup_2, asTup_3, asTup_4, if_true', if_false', if_not_true', if_not_false', getD_0, getD_1, getD_2, getD_3]
    rw [hget, if_neg (by simp; clear w1 w2; omega), if_neg (by simp; clear w1 w2; omega), F27_J3_eq, w1]
    have hdd : x - y ≤ n - y := by clear w1 w2; omega
    have hob : out + (x - y) * 924 ≤ 100000 := Nat.le_trans (Nat.add_le_add_left (Nat.mul_le_mul_right _ hdd) out) (Nat.le_trans ho (by decide))
    obtain ⟨n1, l1, e1⟩ := number_inner hk0 lf r n hn (sa := sa) P.length sc (ta := sa) P.length sc ((P.length : Nat) : Int) i x rest.length he (by clear w1 w2; omega) h (x - y) lf y out (nx + 14 + 3) (by clear w1 w2; omega) (by clear w1 w2; omega) hob
    have rb := run_le (n := n) (k := rest.length) hn (by clear w1 w2; omega) (x - y) y
    obtain ⟨n2, l2, e2⟩ := ih r (i + 1) (x + 1) (out + run n rest.length y (x - y)) n1 hrest he hrr v3 (by clear w1 w2; omega) (by clear w1 w2 e1; omega)
    rw [show ((x + 1 : Nat) : Int) - 1 = (x : Int) by clear w1 w2 e1 e2; omega] at e2
    rw [e1, w2, e2, number, Nat.add_assoc]
    exact ⟨n2, by clear w1 w2 e1 e2; omega, rfl⟩

theorem number_spec {f : Nat} (n : Nat) (P : List Nat) (hf : 40 ≤ f) (hn : n ≤ 12) (hP : P.length ≤ 12) (v : ValidFrom n 0 P) {sa : Option (Nat × Nat)} (sc : Bool) {h : AHeap} {nxs : Nat} (hs : Sl h nxs sa P.length 1 (ints .i64 (natInts P))) (nx : Nat) :
    ∃ nx', nx ≤ nx' ∧ callP Try.prog keepT f Y0 27 [.int .i64 (n : Int), .slice sa P.length sc] h nx = some (.tuple [.int .i64 ((number n 0 P : Nat) : Int), .int .i64 0], h, nx') := by
  obtain ⟨f, rfl⟩ : ∃ m, f = m + 1 := ⟨f - 1, by omega⟩
  obtain ⟨nx', l, e⟩ := number_loop (k0 := f) (by omega) f (by omega) n hn P hP sc hs P f 0 0 0 (nx + 8 + 5) rfl (by omega) (by omega) v (by omega) (by omega)
  rw [Nat.zero_add] at e
  rw [F27_eq, if_neg (by simp), if_neg (by simp; omega), F27_J1_eq]
  exact ⟨nx', by omega, e⟩

end Go.Proofs.Ytdjbhonncjcbjaa.T
