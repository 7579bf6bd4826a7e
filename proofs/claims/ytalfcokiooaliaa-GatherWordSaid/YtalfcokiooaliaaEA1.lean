import Derived.Test.YtalfcokiooaliaaPg
import Derived.Test.YtalfcokiooaliaaTK
set_option linter.unusedVariables false
set_option linter.unusedSimpArgs false
/- The field with 256 elements on natural numbers: products by shift and add, their laws, powers, logarithms. Nothing of a program. -/
namespace Go.Proofs.Ytalfcokiooaliaa.Gf

def xt (a : Nat) : Nat := if a < 128 then 2 * a else (2 * a) ^^^ 285
def gmN : Nat → Nat → Nat → Nat
  | 0, _, _ => 0
  | n + 1, a, b => (if b % 2 = 1 then a else 0) ^^^ gmN n (xt a) (b / 2)
def gm (a b : Nat) : Nat := gmN 8 a b

theorem xt_lt : ∀ a, a < 256 → xt a < 256 := by decide +kernel
theorem xor_lt {a b : Nat} (ha : a < 256) (hb : b < 256) : a ^^^ b < 256 := Nat.xor_lt_two_pow (n := 8) ha hb
theorem ite_xor (c d : Prop) [Decidable c] [Decidable d] (a : Nat) : ((if c then a else 0) ^^^ (if d then a else 0)) = if (c ↔ ¬ d) then a else 0 := by
  by_cases hc : c <;> by_cases hd : d <;> simp [hc, hd]
theorem xor_odd (b c : Nat) : ((b ^^^ c) % 2 = 1) ↔ ((b % 2 = 1) ↔ ¬ (c % 2 = 1)) := by
  have h := Nat.testBit_xor b c 0
  simp only [Nat.testBit_zero] at h
  by_cases hb : b % 2 = 1 <;> by_cases hc : c % 2 = 1 <;> simp [hb, hc] at h ⊢ <;> omega
theorem xor_half (b c : Nat) : (b ^^^ c) / 2 = (b / 2) ^^^ (c / 2) := by
  apply Nat.eq_of_testBit_eq; intro i
  simp [Nat.testBit_div_two, Nat.testBit_xor]

theorem gmN_right (n : Nat) : ∀ a b c, gmN n a (b ^^^ c) = gmN n a b ^^^ gmN n a c := by
  induction n with
  | zero => intro a b c; simp [gmN]
  | succ n ih =>
    intro a b c
    simp only [gmN]
    rw [xor_half, ih]
    have h : (if (b ^^^ c) % 2 = 1 then a else 0) = (if b % 2 = 1 then a else 0) ^^^ (if c % 2 = 1 then a else 0) := by
      rw [ite_xor]
      by_cases hh : (b ^^^ c) % 2 = 1
      · rw [if_pos hh, if_pos ((xor_odd b c).1 hh)]
      · rw [if_neg hh, if_neg (fun k => hh ((xor_odd b c).2 k))]
    rw [h]
    generalize (if b % 2 = 1 then a else 0) = p
    generalize (if c % 2 = 1 then a else 0) = q
    generalize gmN n (xt a) (b / 2) = r
    generalize gmN n (xt a) (c / 2) = s
    ac_rfl

/-- Additive on the elements. -/
def Lin (f : Nat → Nat) : Prop := ∀ a b, a < 256 → b < 256 → f (a ^^^ b) = f a ^^^ f b

theorem parts : ∀ a, a < 256 → a = ((if a.testBit 0 then 1 else 0) ^^^ ((if a.testBit 1 then 2 else 0) ^^^ ((if a.testBit 2 then 4 else 0) ^^^ ((if a.testBit 3 then 8 else 0) ^^^ ((if a.testBit 4 then 16 else 0) ^^^ ((if a.testBit 5 then 32 else 0) ^^^ ((if a.testBit 6 then 64 else 0) ^^^ (if a.testBit 7 then 128 else 0)))))))) := by decide +kernel

theorem Lin.zero {f : Nat → Nat} (h : Lin f) : f 0 = 0 := by
  have := h 0 0 (by omega) (by omega)
  simpa using this

theorem Lin.eq {f g : Nat → Nat} (hf : Lin f) (hg : Lin g) (h : ∀ i, i < 8 → f (2 ^ i) = g (2 ^ i)) (a : Nat) (ha : a < 256) : f a = g a := by
  have one : ∀ (c : Bool) (i : Nat), i < 8 → f (if c then 2 ^ i else 0) = g (if c then 2 ^ i else 0) := by
    intro c i hi
    cases c
    · simp [hf.zero, hg.zero]
    · simpa using h i hi
  have small : ∀ (c : Bool) (i : Nat), i < 8 → (if c then 2 ^ i else 0) < 256 := by
    intro c i hi
    have : 2 ^ i ≤ 2 ^ 7 := Nat.pow_le_pow_right (by omega) (by omega)
    split <;> omega
  have s0 := small (a.testBit 0) 0 (by omega); have s1 := small (a.testBit 1) 1 (by omega); have s2 := small (a.testBit 2) 2 (by omega); have s3 := small (a.testBit 3) 3 (by omega)
  have s4 := small (a.testBit 4) 4 (by omega); have s5 := small (a.testBit 5) 5 (by omega); have s6 := small (a.testBit 6) 6 (by omega); have s7 := small (a.testBit 7) 7 (by omega)
  have o0 := one (a.testBit 0) 0 (by omega); have o1 := one (a.testBit 1) 1 (by omega); have o2 := one (a.testBit 2) 2 (by omega); have o3 := one (a.testBit 3) 3 (by omega)
  have o4 := one (a.testBit 4) 4 (by omega); have o5 := one (a.testBit 5) 5 (by omega); have o6 := one (a.testBit 6) 6 (by omega); have o7 := one (a.testBit 7) 7 (by omega)
  simp only [Nat.reducePow] at s0 s1 s2 s3 s4 s5 s6 s7 o0 o1 o2 o3 o4 o5 o6 o7
  have t7 := s7
  have t6 := xor_lt s6 t7; have t5 := xor_lt s5 t6; have t4 := xor_lt s4 t5; have t3 := xor_lt s3 t4; have t2 := xor_lt s2 t3; have t1 := xor_lt s1 t2
  rw [parts a ha]
  rw [hf _ _ s0 t1, hf _ _ s1 t2, hf _ _ s2 t3, hf _ _ s3 t4, hf _ _ s4 t5, hf _ _ s5 t6, hf _ _ s6 t7]
  rw [hg _ _ s0 t1, hg _ _ s1 t2, hg _ _ s2 t3, hg _ _ s3 t4, hg _ _ s4 t5, hg _ _ s5 t6, hg _ _ s6 t7]
  rw [o0, o1, o2, o3, o4, o5, o6, o7]

theorem xt_lin : Lin xt := by
  intro a b ha hb
  have e : ∀ x, x < 256 → xt x = (2 * x) ^^^ (if x.testBit 7 then 285 else 0) := by decide +kernel
  rw [e _ (xor_lt ha hb), e _ ha, e _ hb, Nat.testBit_xor]
  have d : 2 * (a ^^^ b) = (2 * a) ^^^ (2 * b) := by
    apply Nat.eq_of_testBit_eq; intro i
    cases i with
    | zero => simp
    | succ i => rw [Nat.testBit_succ, Nat.testBit_succ, xor_half]; simp
  rw [d]
  generalize 2 * a = p
  generalize 2 * b = q
  cases a.testBit 7 <;> cases b.testBit 7 <;> simp
  · ac_rfl
  · ac_rfl
  · have : (p ^^^ 285) ^^^ (q ^^^ 285) = (p ^^^ q) ^^^ (285 ^^^ 285) := by ac_rfl
    rw [this]; simp

theorem gmN_lt (n : Nat) : ∀ a b, a < 256 → gmN n a b < 256 := by
  induction n with
  | zero => intro a b _; simp [gmN]
  | succ n ih =>
    intro a b ha
    simp only [gmN]
    exact xor_lt (by split <;> omega) (ih _ _ (xt_lt a ha))

theorem gmN_left (n : Nat) : ∀ a b c, a < 256 → b < 256 → gmN n (a ^^^ b) c = gmN n a c ^^^ gmN n b c := by
  induction n with
  | zero => intro a b c _ _; simp [gmN]
  | succ n ih =>
    intro a b c ha hb
    simp only [gmN]
    rw [xt_lin a b ha hb, ih _ _ _ (xt_lt a ha) (xt_lt b hb)]
    split
    · generalize gmN n (xt a) (c / 2) = r
      generalize gmN n (xt b) (c / 2) = s
      ac_rfl
    · simp

theorem gm_lt {a b : Nat} (ha : a < 256) : gm a b < 256 := gmN_lt 8 a b ha
theorem gm_xor_right (a b c : Nat) : gm a (b ^^^ c) = gm a b ^^^ gm a c := gmN_right 8 a b c
theorem gm_xor_left {a b : Nat} (c : Nat) (ha : a < 256) (hb : b < 256) : gm (a ^^^ b) c = gm a c ^^^ gm b c := gmN_left 8 a b c ha hb

theorem lin_r (a : Nat) : Lin (gm a) := fun b c _ _ => gm_xor_right a b c
theorem lin_l (c : Nat) : Lin (fun a => gm a c) := fun _ _ ha hb => gm_xor_left c ha hb

theorem pow_lt : ∀ i, i < 8 → 2 ^ i < 256 := by decide
theorem comm_basis : ∀ i, i < 8 → ∀ j, j < 8 → gm (2 ^ i) (2 ^ j) = gm (2 ^ j) (2 ^ i) := by decide +kernel
theorem gm_comm {a b : Nat} (ha : a < 256) (hb : b < 256) : gm a b = gm b a := by
  refine (lin_l b).eq (lin_r b) (fun i hi => ?_) a ha
  exact (lin_r (2 ^ i)).eq (lin_l (2 ^ i)) (fun j hj => comm_basis i hi j hj) b hb

theorem assoc_basis : ∀ i, i < 8 → ∀ j, j < 8 → ∀ k, k < 8 → gm (gm (2 ^ i) (2 ^ j)) (2 ^ k) = gm (2 ^ i) (gm (2 ^ j) (2 ^ k)) := by decide +kernel
theorem gm_assoc {a b c : Nat} (ha : a < 256) (hb : b < 256) (hc : c < 256) : gm (gm a b) c = gm a (gm b c) := by
  refine Lin.eq (f := fun a => gm (gm a b) c) (g := fun a => gm a (gm b c)) ?_ (lin_l _) (fun i hi => ?_) a ha
  · intro x y hx hy
    show gm (gm (x ^^^ y) b) c = _
    rw [gm_xor_left b hx hy, gm_xor_left c (gm_lt hx) (gm_lt hy)]
  have pi := pow_lt i hi
  refine Lin.eq (f := fun b => gm (gm (2 ^ i) b) c) (g := fun b => gm (2 ^ i) (gm b c)) ?_ ?_ (fun j hj => ?_) b hb
  · intro x y hx hy
    show gm (gm (2 ^ i) (x ^^^ y)) c = _
    rw [gm_xor_right, gm_xor_left c (gm_lt pi) (gm_lt pi)]
  · intro x y hx hy
    show gm (2 ^ i) (gm (x ^^^ y) c) = _
    rw [gm_xor_left c hx hy, gm_xor_right]
  have pj := pow_lt j hj
  refine Lin.eq (f := fun c => gm (gm (2 ^ i) (2 ^ j)) c) (g := fun c => gm (2 ^ i) (gm (2 ^ j) c)) (lin_r _) ?_ (fun k hk => assoc_basis i hi j hj k hk) c hc
  intro x y hx hy
  show gm (2 ^ i) (gm (2 ^ j) (x ^^^ y)) = _
  rw [gm_xor_right, gm_xor_right]

theorem gm_one : ∀ a, a < 256 → gm a 1 = a := by decide +kernel
theorem one_gm {a : Nat} (ha : a < 256) : gm 1 a = a := by rw [gm_comm (by omega) ha, gm_one a ha]
theorem gm_zero (a : Nat) : gm a 0 = 0 := by simpa using (lin_r a).zero
theorem zero_gm (a : Nat) : gm 0 a = 0 := (lin_l a).zero

/-- Powers. -/
def gp (a : Nat) : Nat → Nat
  | 0 => 1
  | n + 1 => gm a (gp a n)
theorem gp_lt {a : Nat} (ha : a < 256) (n : Nat) : gp a n < 256 := by
  cases n with
  | zero => simp [gp]
  | succ n => exact gm_lt ha
theorem gp_add {a : Nat} (ha : a < 256) (m n : Nat) : gp a (m + n) = gm (gp a m) (gp a n) := by
  induction m with
  | zero => rw [Nat.zero_add]; exact (one_gm (gp_lt ha n)).symm
  | succ m ih =>
    rw [Nat.succ_add]
    show gm a (gp a (m + n)) = gm (gm a (gp a m)) (gp a n)
    rw [ih, gm_assoc ha (gp_lt ha m) (gp_lt ha n)]
theorem gp_sq {a : Nat} (ha : a < 256) (n : Nat) : gp (gm a a) n = gp a (2 * n) := by
  induction n with
  | zero => rfl
  | succ n ih =>
    show gm (gm a a) (gp (gm a a) n) = gp a (2 * n + 1 + 1)
    rw [ih, gm_assoc ha ha (gp_lt ha _)]; rfl

/-- Powers by squaring: k rounds. -/
def pw : Nat → Nat → Nat → Nat → Nat
  | 0, _, _, out => out
  | k + 1, a, n, out => if n = 0 then out else if n % 2 = 1 then pw k (gm a a) (n / 2) (gm out a) else pw k (gm a a) (n / 2) out
theorem pw_eq (k : Nat) : ∀ a n out, a < 256 → out < 256 → n < 2 ^ k → pw k a n out = gm out (gp a n) := by
  induction k with
  | zero =>
    intro a n out ha ho hn
    obtain rfl : n = 0 := by simp at hn; exact hn
    exact (gm_one out ho).symm
  | succ k ih =>
    intro a n out ha ho hn
    have hq : n / 2 < 2 ^ k := by rw [Nat.pow_succ] at hn; omega
    simp only [pw]
    by_cases h0 : n = 0
    · subst h0; rw [if_pos rfl]; exact (gm_one out ho).symm
    rw [if_neg h0]
    by_cases h1 : n % 2 = 1
    · rw [if_pos h1, ih _ _ _ (gm_lt ha) (gm_lt ho) hq, gp_sq ha, gm_assoc ho ha (gp_lt ha _)]
      have : n = 2 * (n / 2) + 1 := by omega
      conv => rhs; rw [this]
      rfl
    · rw [if_neg h1, ih _ _ _ (gm_lt ha) ho hq, gp_sq ha]
      have : n = 2 * (n / 2) := by omega
      conv => rhs; rw [this]

theorem inv_all : ∀ a, a < 256 → a ≠ 0 → gm (pw 8 a 254 1) a = 1 := by decide +kernel
/-- The inverse. -/
def gi (a : Nat) : Nat := gp a 254
theorem gi_lt {a : Nat} (ha : a < 256) : gi a < 256 := gp_lt ha 254
theorem gi_gm {a : Nat} (ha : a < 256) (h : a ≠ 0) : gm (gi a) a = 1 := by
  have := inv_all a ha h
  rwa [pw_eq 8 a 254 1 ha (by omega) (by omega), one_gm (gp_lt ha _)] at this
theorem gm_gi {a : Nat} (ha : a < 256) (h : a ≠ 0) : gm a (gi a) = 1 := by rw [gm_comm ha (gi_lt ha), gi_gm ha h]
theorem gm_eq_zero {a b : Nat} (ha : a < 256) (hb : b < 256) : gm a b = 0 ↔ a = 0 ∨ b = 0 := by
  constructor
  · intro h
    by_cases hb0 : b = 0
    · exact .inr hb0
    · left
      have : gm (gm a b) (gi b) = a := by rw [gm_assoc ha hb (gi_lt hb), gm_gi hb hb0, gm_one a ha]
      rw [← this, h, zero_gm]
  · rintro (rfl | rfl)
    · exact zero_gm b
    · exact gm_zero a

/-- The logarithm: n is counted up from the power x on. -/
def lg : Nat → Nat → Nat → Nat → Nat
  | 0, _, n, _ => n
  | k + 1, a, n, x => if x = a then n else lg k a (n + 1) (xt x)
theorem gm_two : ∀ a, a < 256 → gm a 2 = xt a := by decide +kernel
/-- Powers of 2, by doubling. -/
def x2 : Nat → Nat
  | 0 => 1
  | n + 1 => xt (x2 n)
theorem x2_lt (n : Nat) : x2 n < 256 := by
  induction n with
  | zero => simp [x2]
  | succ n ih => exact xt_lt _ ih
theorem x2_eq (n : Nat) : x2 n = gp 2 n := by
  induction n with
  | zero => rfl
  | succ n ih =>
    show xt (x2 n) = gm 2 (gp 2 n)
    rw [← gm_two _ (x2_lt n), ih, gm_comm (gp_lt (by omega) n) (by omega)]
def lgo (a : Nat) : Nat := lg 255 a 0 1
theorem x2_255 : x2 255 = 1 := by decide +kernel
theorem x2_add (m n : Nat) : x2 (m + n) = gm (x2 m) (x2 n) := by rw [x2_eq, x2_eq, x2_eq, gp_add (by omega)]
theorem x2_mod (n : Nat) : x2 (n % 255) = x2 n := by
  have e : x2 n = x2 (255 * (n / 255) + n % 255) := by rw [Nat.div_add_mod]
  have z : ∀ q, x2 (255 * q) = 1 := by
    intro q
    induction q with
    | zero => rfl
    | succ q ih => rw [Nat.mul_succ, x2_add, ih, x2_255]; decide +kernel
  rw [e, x2_add, z, one_gm (x2_lt _)]
theorem x2_ne : ∀ n, x2 n ≠ 0 := by
  intro n h
  have h1 : x2 (n + (255 * (n + 1) - n)) = gm (x2 n) (x2 (255 * (n + 1) - n)) := x2_add _ _
  have h2 : n + (255 * (n + 1) - n) = 255 * (n + 1) := by omega
  rw [h2, h, zero_gm, ← x2_mod] at h1
  have h3 : 255 * (n + 1) % 255 = 0 := by omega
  rw [h3] at h1
  simp [x2] at h1
theorem lgo_x2_all : ∀ n, n < 255 → lgo (x2 n) = n := by decide +kernel
theorem lgo_x2 (n : Nat) : lgo (x2 n) = n % 255 := by rw [← x2_mod n]; exact lgo_x2_all _ (Nat.mod_lt _ (by omega))
end Go.Proofs.Ytalfcokiooaliaa.Gf

namespace Go.Proofs.Ytalfcokiooaliaa.T
open Go Go.RowKit Go.Proofs Go.Proofs.Ytalfcokiooaliaa

theorem picked_spec {k : Nat} (hk : 1 ≤ k) (a n : Int) (h : AHeap) (nx : Nat) (h0 : 0 < n) (h1 : n ≤ 4611686018427387904) : ∃ nx', callP Try.prog keepT k Y0 8 [.int .i64 a, .int .i64 n] h nx = some (.int .i64 (a % n), h, nx') ∧ nx ≤ nx' := by
  obtain ⟨k, rfl⟩ : ∃ m, k = m + 1 := ⟨k - 1, by omega⟩
  rw [F8_eq, if_neg (by omega)]
  have e := Int.tmod_eq_emod (a := a) (b := n)
  have b0 := Int.emod_nonneg a (show n ≠ 0 by omega)
  have b1 := Int.emod_lt_of_pos a h0
  have hab : ((n.natAbs : Nat) : Int) = n := by omega
  by_cases c : 0 ≤ a ∨ n ∣ a
  · rw [if_pos c] at e
    rw [e, if_neg (by simp; omega)]
    exact ⟨nx + 9, by simp, by omega⟩
  · rw [if_neg c, hab] at e
    rw [e, if_pos (by simp; omega), wA (by omega) (by omega)]
    exact ⟨nx + 11, by rw [Int.sub_add_cancel], by omega⟩

theorem g_and1 (x : Nat) (h : x < 2 ^ 62) : Go.bits .and .i64 (x : Int) 1 = ((x % 2 : Nat) : Int) := by
  have e := Go.bits_mask .i64 62 (by decide) (fun n h0 h1 => by rw [Go.IntKind.wrap_i64]; omega) 1 (by omega) (x : Int) (by omega) (by exact_mod_cast h)
  have t : ((2 : Int) ^ 1 - 1) = 1 := by decide
  rw [t] at e
  rw [e]; simp
theorem g_xor (a b : Nat) (ha : a < 1024) (hb : b < 1024) : Go.bits .xor .i64 (a : Int) (b : Int) = ((a ^^^ b : Nat) : Int) := by
  have hx : a ^^^ b < 1024 := Nat.xor_lt_two_pow (n := 10) ha hb
  have e1 : a % 2 ^ IntKind.i64.bits = a := Nat.mod_eq_of_lt (by simp [IntKind.bits]; omega)
  have e2 : b % 2 ^ IntKind.i64.bits = b := Nat.mod_eq_of_lt (by simp [IntKind.bits]; omega)
  simp only [Go.bits, BitVec.ofInt_natCast, BitVec.toNat_xor, BitVec.toNat_ofNat, e1, e2]
  rw [Go.IntKind.wrap_i64]; omega
theorem g_andNot : ∀ a, a < 256 → Go.bits .andNot .i64 ((a : Nat) : Int) 255 = 0 := by decide +kernel

theorem times_loop (call : YldF → CallF) (lf : Nat) (h : AHeap) (n : Nat) : ∀ (k a b out nx : Nat), n < k → a < 256 → b < 2 ^ n → b < 256 → out < 256 → ∃ nx', nx ≤ nx' ∧ F60_L1 call Y0 lf k (a : Int) (b : Int) (out : Int) h nx = some (.int .i64 ((out ^^^ Gf.gmN n a b : Nat) : Int), h, nx') := by
  have e2 : (2:Int) ^ min (Int.toNat 1) (IntKind.bits .i64) = 2 := by decide
  induction n with
  | zero =>
    intro k a b out nx hk ha hb _ ho
    obtain ⟨k, rfl⟩ : ∃ m, k = m + 1 := ⟨k - 1, by omega⟩
    obtain rfl : b = 0 := by simp at hb; exact hb
    rw [F60_L1_eq, if_neg (by simp)]
    exact ⟨nx + 4, by omega, by simp [Gf.gmN]⟩
  | succ n ih =>
    intro k a b out nx hk ha hb hb' ho
    obtain ⟨k, rfl⟩ : ∃ m, k = m + 1 := ⟨k - 1, by omega⟩
    by_cases h0 : b = 0
    · subst h0
      have z := Gf.gmN_right (n + 1) a 0 0
      simp at z
      rw [F60_L1_eq, if_neg (by simp)]
      exact ⟨nx + 4, by omega, by simp [z]⟩
    have hq : b / 2 < 2 ^ n := by rw [Nat.pow_succ] at hb; omega
    have ht := Gf.xt_lt a ha
    have hnk : n < k := by omega
    have step : ∀ (o : Nat) (mm : Nat), o < 256 → ∃ nx', mm ≤ nx' ∧ F60_J2 call Y0 lf k (a : Int) (b : Int) (o : Int) h mm = some (.int .i64 ((o ^^^ Gf.gmN n (Gf.xt a) (b / 2) : Nat) : Int), h, nx') := by
      intro o mm ho'
      have hd : Int.fdiv (b : Int) 2 = ((b / 2 : Nat) : Int) := by rw [Int.fdiv_eq_ediv_of_nonneg _ (by omega)]; omega
      have hw : wrapA .i64 ((a : Int) * 2) = ((2 * a : Nat) : Int) := by rw [wA (by omega) (by omega)]; omega
      rw [F60_J2_eq, e2, hw, hd]
      by_cases h128 : a < 128
      · have hxt : Gf.xt a = 2 * a := by unfold Gf.xt; rw [if_pos h128]
        rw [if_neg (by simp; clear hw; omega), ← hxt]
        obtain ⟨nx', l, e⟩ := ih k (Gf.xt a) (b / 2) o (mm + 8) hnk ht hq (by clear hw; omega) ho'
        exact ⟨nx', by clear hw; omega, e⟩
      · have hxt : Gf.xt a = (2 * a) ^^^ 285 := by unfold Gf.xt; rw [if_neg h128]
        rw [if_pos (by simp; clear hw; omega)]
        rw [show (285 : Int) = ((285 : Nat) : Int) from rfl, g_xor (2 * a) 285 (by clear hw; omega) (by decide), ← hxt]
        obtain ⟨nx', l, e⟩ := ih k (Gf.xt a) (b / 2) o (mm + 11) hnk ht hq (by clear hw; omega) ho'
        exact ⟨nx', by clear hw; omega, e⟩
    rw [F60_L1_eq, if_pos (by simp; omega), g_and1 b (by omega)]
    by_cases h1 : b % 2 = 1
    · rw [if_pos (by simp; omega), g_xor out a (by omega) (by omega)]
      obtain ⟨nx', l, e⟩ := step (out ^^^ a) (nx + 9) (Gf.xor_lt ho ha)
      refine ⟨nx', by omega, ?_⟩
      rw [e]; simp only [Gf.gmN, if_pos h1, Nat.xor_assoc]
    · rw [if_neg (by simp; omega)]
      obtain ⟨nx', l, e⟩ := step out (nx + 5) ho
      refine ⟨nx', by omega, ?_⟩
      rw [e]; simp only [Gf.gmN, if_neg h1, Nat.zero_xor]

theorem times_spec {f : Nat} (hf : 10 ≤ f) (a b : Nat) (ha : a < 256) (hb : b < 256) (h : AHeap) (nx : Nat) : ∃ nx', nx ≤ nx' ∧ callP Try.prog keepT f Y0 60 [.int .i64 (a : Int), .int .i64 (b : Int)] h nx = some (.int .i64 ((Gf.gm a b : Nat) : Int), h, nx') := by
  obtain ⟨f, rfl⟩ : ∃ m, f = m + 1 := ⟨f - 1, by omega⟩
  obtain ⟨nx', l, e⟩ := times_loop (callP Try.prog keepT f) f h 8 f a b 0 (nx + 2) (by omega) ha (by omega) hb (by omega)
  rw [Nat.zero_xor] at e
  rw [F60_eq]
  exact ⟨nx', by omega, e⟩

theorem bad2_spec {f : Nat} (hf : 5 ≤ f) (a b : Nat) (ha : a < 256) (hb : b < 256) {h : AHeap} {i : Nat} (hi : h i = some ⟨[.int .i64 (a : Int), .int .i64 (b : Int)], 1, true⟩) (nx : Nat) : ∃ nx', nx ≤ nx' ∧ callP Try.prog keepT f Y0 59 [.slice (some (i, 0)) 2 true] h nx = some (.bool false, h, nx') := by
  obtain ⟨f, rfl⟩ : ∃ m, f = m + 1 := ⟨f - 1, by omega⟩
  obtain ⟨lf, hlf⟩ : ∃ m, f = m + 3 := ⟨f - 3, by omega⟩
  rw [F59_eq]
  generalize callP Try.prog keepT f Y0 = call
  rw [hlf]
  have w01 : wrapA .i64 (0 + 1) = 1 := by decide
  have w12 : wrapA .i64 (1 + 1) = 2 := by decide
  rw [F59_L1_eq, if_pos (by decide), some_bind, if_pos (by decide), ld_at hi rfl]
  simp only [mst_]
  rw [g_andNot a ha, if_neg (by decide), w01, F59_L1_eq, if_pos (by decide), some_bind, if_pos (by decide), ld_at hi rfl]
  simp only [mst_]
  rw [g_andNot b hb, if_neg (by decide), w12, F59_L1_eq, if_neg (by decide)]
  exact ⟨_, by omega, rfl⟩

theorem gmul_spec {f : Nat} (hf : 12 ≤ f) (a b : Nat) (ha : a < 256) (hb : b < 256) (h : AHeap) (nx : Nat) : ∃ h' nx', callP Try.prog keepT f Y0 54 [.int .i64 (a : Int), .int .i64 (b : Int)] h nx = some (.tuple [.int .i64 ((Gf.gm a b : Nat) : Int), .int .i64 0], h', nx') ∧ Ext h nx h' nx' := by
  obtain ⟨f, rfl⟩ : ∃ m, f = m + 1 := ⟨f - 1, by omega⟩
  obtain ⟨n1, l1, e1⟩ := bad2_spec (f := f) (by omega) a b ha hb (h := h.put (nx + 4) (some ⟨[.int .i64 (a : Int), .int .i64 (b : Int)], 1, true⟩)) (put_same _ _ _) (nx + 6)
  obtain ⟨n2, l2, e2⟩ := times_spec (f := f) (by omega) a b ha hb (h.put (nx + 4) (some ⟨[.int .i64 (a : Int), .int .i64 (b : Int)], 1, true⟩)) (n1 + 5)
  rw [F54_eq]
  dsimp only
  rw [e1]
  simp only [mst_]
  rw [e2]
  simp only [mst_]
  exact ⟨_, _, rfl, by omega, fun i hi => put_ne (by omega)⟩

theorem mtimes_spec {f : Nat} (hf : 14 ≤ f) (a b : Nat) (ha : a < 256) (hb : b < 256) (h : AHeap) (nx : Nat) : ∃ h' nx', callP Try.prog keepT f Y0 66 [.int .i64 (a : Int), .int .i64 (b : Int)] h nx = some (.int .i64 ((Gf.gm a b : Nat) : Int), h', nx') ∧ Ext h nx h' nx' := by
  obtain ⟨f, rfl⟩ : ∃ m, f = m + 1 := ⟨f - 1, by omega⟩
  obtain ⟨h1, n1, e1, x1⟩ := gmul_spec (f := f) (by omega) a b ha hb h (nx + 9)
  have y1 := x1.1
  rw [F66_eq, e1]
  simp only [mst_]
  exact ⟨_, _, rfl, by omega, fun i hi => x1.2 i (by omega)⟩

end Go.Proofs.Ytalfcokiooaliaa.T

/- Slices of slices of numbers on the machine. Nothing of one program. -/
namespace Go.Proofs.Ytalfcokiooaliaa.T
open Go Go.RowKit

variable {R : Type} {h : AHeap}

def nints (l : List Nat) : List Int := l.map fun (c : Nat) => (c : Int)
theorem nints_len (l : List Nat) : (nints l).length = l.length := by simp [nints]
/-- Reading number i of a slice of naturals. -/
theorem Sl.readN {nx : Nat} {a : Option (Nat × Nat)} {k : IntKind} {l : List Nat} {n : Nat} (s : Sl h nx a n 1 (ints k (nints l))) (hn : l.length = n) {i : Nat} (hi : i < l.length) (K : AV → Option R) :
    (a.bind fun p => if 0 ≤ (i : Int) ∧ (i : Int) < ((n : Nat) : Int) then (ldA h p.1 (p.2 + Int.toNat (i : Int) * 1)).bind K else none) = K (.int k ((l[i] : Nat) : Int)) := by
  subst hn
  exact s.read0 (by omega) (by omega) (by omega) (by rw [Int.toNat_natCast, Nat.mul_one]; simp [ints, nints, List.getElem?_eq_getElem hi]) K
abbrev Rw := Option (Nat × Nat) × Bool
def rcell (w : Nat) (q : Rw) : AV := .slice q.1 w q.2

def RowsAt (h : AHeap) (nx : Nat) (k : IntKind) (w : Nat) : List Rw → List (List Nat) → Prop
  | [], [] => True
  | q :: qs, r :: M => (r.length = w ∧ Sl h nx q.1 w 1 (ints k (nints r))) ∧ RowsAt h nx k w qs M
  | _, _ => False
theorem RowsAt.length {nx w : Nat} {k : IntKind} : ∀ {qs : List Rw} {M : List (List Nat)}, RowsAt h nx k w qs M → qs.length = M.length
  | [], [], _ => rfl
  | q :: qs, r :: M, a => by simp [RowsAt.length a.2]
  | [], _ :: _, a => a.elim
  | _ :: _, [], a => a.elim
theorem RowsAt.get {nx w : Nat} {k : IntKind} : ∀ {qs : List Rw} {M : List (List Nat)} (_ : RowsAt h nx k w qs M) {i : Nat} (hi : i < M.length), ∃ q, qs[i]? = some q ∧ M[i].length = w ∧ Sl h nx q.1 w 1 (ints k (nints M[i]))
  | [], [], _, i, hi => by simp at hi
  | q :: qs, r :: M, a, i, hi => by
    cases i with
    | zero => exact ⟨q, rfl, a.1.1, a.1.2⟩
    | succ i =>
      obtain ⟨q', e1, e2⟩ := RowsAt.get a.2 (i := i) (by simpa using hi)
      exact ⟨q', by simpa using e1, e2⟩
  | [], _ :: _, a, _, _ => a.elim
  | _ :: _, [], a, _, _ => a.elim
theorem RowsAt.ext {h' : AHeap} {nx nx' w : Nat} {k : IntKind} (x : Ext h nx h' nx') : ∀ {qs : List Rw} {M : List (List Nat)}, RowsAt h nx k w qs M → RowsAt h' nx' k w qs M
  | [], [], _ => trivial
  | q :: qs, r :: M, a => ⟨⟨a.1.1, a.1.2.ext x⟩, RowsAt.ext x a.2⟩
  | [], _ :: _, a => a.elim
  | _ :: _, [], a => a.elim

/-- A slice of slices, all as long. -/
def Mat (h : AHeap) (nx : Nat) (k : IntKind) (a : Option (Nat × Nat)) (M : List (List Nat)) (w : Nat) : Prop :=
  ∃ qs, RowsAt h nx k w qs M ∧ Sl h nx a M.length 1 (qs.map (rcell w))
theorem Mat.ext {h' : AHeap} {nx nx' w : Nat} {k : IntKind} {a : Option (Nat × Nat)} {M : List (List Nat)} (m : Mat h nx k a M w) (x : Ext h nx h' nx') : Mat h' nx' k a M w := by
  obtain ⟨qs, r, s⟩ := m
  exact ⟨qs, r.ext x, s.ext x⟩


/-- Row i is read. -/
theorem Mat.row {nx w : Nat} {k : IntKind} {a : Option (Nat × Nat)} {M : List (List Nat)} (m : Mat h nx k a M w) {i : Nat} (hi : i < M.length) :
    ∃ q : Rw, M[i].length = w ∧ Sl h nx q.1 w 1 (ints k (nints M[i])) ∧ ∀ K : AV → Option R, (a.bind fun p => if 0 ≤ (i : Int) ∧ (i : Int) < ((M.length : Nat) : Int) then (ldA h p.1 (p.2 + Int.toNat (i : Int) * 1)).bind K else none) = K (.slice q.1 w q.2) := by
  obtain ⟨qs, r, s⟩ := m
  obtain ⟨q, e1, e2, e3⟩ := r.get hi
  refine ⟨q, e2, e3, fun K => s.read0 (by omega) (by omega) (by omega) (v := rcell w q) ?_ K⟩
  rw [Int.toNat_natCast, Nat.mul_one, List.getElem?_map, e1]; rfl

/-! ### one's own -/
def RowOwn (h : AHeap) (nx0 nx : Nat) (k : IntKind) (w : Nat) (q : Rw) (r : List Nat) : Prop :=
  r.length = w ∧ ((q.1 = none ∧ w = 0) ∨ ∃ id, q.1 = some (id, 0) ∧ nx0 ≤ id ∧ id < nx ∧ h id = some ⟨ints k (nints r), 1, true⟩)
def RowsOwn (h : AHeap) (nx0 nx : Nat) (k : IntKind) (w : Nat) : List Rw → List (List Nat) → Prop
  | [], [] => True
  | q :: qs, r :: M => RowOwn h nx0 nx k w q r ∧ RowsOwn h nx0 nx k w qs M
  | _, _ => False
theorem RowOwn.sl {nx0 nx w : Nat} {k : IntKind} {q : Rw} {r : List Nat} (a : RowOwn h nx0 nx k w q r) : Sl h nx q.1 w 1 (ints k (nints r)) := by
  obtain ⟨a1, ⟨e, rfl⟩ | ⟨id, e, l0, l1, b⟩⟩ := a
  · exact ⟨by simp [ints, nints, a1], fun j hj => by omega⟩
  · exact ⟨by simp [ints, nints, a1], fun j hj => ⟨(id, 0), _, e, l1, b, rfl, by simp [ints, nints, a1], fun q hq => by simp⟩⟩
theorem RowsOwn.rows {nx0 nx w : Nat} {k : IntKind} : ∀ {qs : List Rw} {M : List (List Nat)}, RowsOwn h nx0 nx k w qs M → RowsAt h nx k w qs M
  | [], [], _ => trivial
  | q :: qs, r :: M, a => ⟨⟨a.1.1, a.1.sl⟩, RowsOwn.rows a.2⟩
  | [], _ :: _, a => a.elim
  | _ :: _, [], a => a.elim
theorem RowsOwn.mem {nx0 nx w : Nat} {k : IntKind} : ∀ {qs : List Rw} {M : List (List Nat)}, RowsOwn h nx0 nx k w qs M → ∀ q ∈ qs, ∀ id o, q.1 = some (id, o) → nx0 ≤ id ∧ id < nx
  | [], [], _, q, hq, _, _, _ => by cases hq
  | q :: qs, r :: M, a, q', hq, id, o, e => by
    cases hq with
    | head =>
      obtain ⟨a1, ⟨e1, _⟩ | ⟨i, e1, l0, l1, b⟩⟩ := a.1
      · rw [e1] at e; cases e
      · rw [e1] at e
        obtain ⟨rfl, _⟩ : i = id ∧ 0 = o := by simpa using e
        exact ⟨l0, l1⟩
    | tail _ hq => exact RowsOwn.mem a.2 q' hq id o e
  | [], _ :: _, a, _, _, _, _, _ => a.elim
  | _ :: _, [], a, _, _, _, _, _ => a.elim
theorem RowOwn.keep {h' : AHeap} {nx0 nx nx' w : Nat} {k : IntKind} (l : nx ≤ nx') {q : Rw} {r : List Nat} (a : RowOwn h nx0 nx k w q r) (hk : ∀ id, q.1 = some (id, 0) → id < nx → h' id = h id) : RowOwn h' nx0 nx' k w q r := by
  obtain ⟨a1, a2 | ⟨id, e, l0, l1, b⟩⟩ := a
  · exact ⟨a1, .inl a2⟩
  · exact ⟨a1, .inr ⟨id, e, l0, by omega, (hk id e l1).trans b⟩⟩
theorem RowsOwn.keep {h' : AHeap} {nx0 nx nx' w : Nat} {k : IntKind} (l : nx ≤ nx') : ∀ {qs : List Rw} {M : List (List Nat)}, RowsOwn h nx0 nx k w qs M → (∀ q ∈ qs, ∀ id, q.1 = some (id, 0) → id < nx → h' id = h id) → RowsOwn h' nx0 nx' k w qs M
  | [], [], _, _ => trivial
  | q :: qs, r :: M, a, hk => ⟨a.1.keep l (fun id => hk q List.mem_cons_self id), RowsOwn.keep l a.2 (fun q hq => hk q (List.mem_cons_of_mem _ hq))⟩
  | [], _ :: _, a, _ => a.elim
  | _ :: _, [], a, _ => a.elim
theorem RowsOwn.snoc {nx0 nx w : Nat} {k : IntKind} : ∀ {qs : List Rw} {M : List (List Nat)}, RowsOwn h nx0 nx k w qs M → ∀ {q : Rw} {r : List Nat}, RowOwn h nx0 nx k w q r → RowsOwn h nx0 nx k w (qs ++ [q]) (M ++ [r])
  | [], [], _, q, r, hr => ⟨hr, trivial⟩
  | q :: qs, r :: M, a, _, _, hr => ⟨a.1, RowsOwn.snoc a.2 hr⟩
  | [], _ :: _, a, _, _, _ => a.elim
  | _ :: _, [], a, _, _, _ => a.elim

def OwnMat (h : AHeap) (nx0 nx : Nat) (k : IntKind) (a : Option (Nat × Nat)) (M : List (List Nat)) (w : Nat) : Prop :=
  ∃ qs, RowsOwn h nx0 nx k w qs M ∧ OwnSl h nx0 nx a M.length 1 (qs.map (rcell w)) ∧ ∀ q ∈ qs, ∀ id, q.1 = some (id, 0) → a ≠ some (id, 0)
theorem OwnMat.mat {nx0 nx w : Nat} {k : IntKind} {a : Option (Nat × Nat)} {M : List (List Nat)} (m : OwnMat h nx0 nx k a M w) : Mat h nx k a M w := by
  obtain ⟨qs, r, s, _⟩ := m
  exact ⟨qs, r.rows, s.sl⟩
theorem OwnMat.nil (h : AHeap) (nx0 nx w : Nat) (k : IntKind) : OwnMat h nx0 nx k none [] w := ⟨[], trivial, OwnSl.nil _ _ _ _, fun q hq => by cases hq⟩
theorem OwnMat.ext {h' : AHeap} {nx0 nx nx' w : Nat} {k : IntKind} {a : Option (Nat × Nat)} {M : List (List Nat)} (m : OwnMat h nx0 nx k a M w) (x : Ext h nx h' nx') : OwnMat h' nx0 nx' k a M w := by
  obtain ⟨qs, r, s, n⟩ := m
  exact ⟨qs, r.keep x.1 (fun _ _ id _ hl => x.2 id hl), s.ext x, n⟩

theorem appD_a {a : Option (Nat × Nat)} {n : Nat} {c : Bool} {es bytes id k : Nat} {ws : List AV} {rd : List Nat} {e : AE} (he : appD h a n c es bytes id (k, ws, rd) = some e) (hk : k ≠ 0) : e.a = some (id, 0) := by
  unfold appD at he
  rw [if_neg hk] at he
  split at he
  · split at he
    · obtain rfl := Option.some.inj he; rfl
    · obtain ⟨b, _, he⟩ := Option.bind_eq_some_iff.1 he
      split at he
      · split at he
        · obtain rfl := Option.some.inj he; rfl
        · split at he
          · obtain rfl := Option.some.inj he; rfl
          · cases he
      · cases he
  · cases he

theorem OwnSl.append_ids2 {nx0 nx : Nat} {a : Option (Nat × Nat)} {n es : Nat} {vs : List AV} (s : OwnSl h nx0 nx a n es vs) {c : Bool} {bytes id : Nat} {q : Nat × List AV × List Nat} {e : AE} (he : appD h a n c es bytes id q = some e) : ∀ x ∈ idsOf e.sets, x = id ∨ a = some (x, 0) := by
  unfold appD at he
  split at he
  · obtain rfl := Option.some.inj he; intro x hx; cases hx
  · split at he
    · rcases s.2 with ⟨rfl, rfl⟩ | ⟨i, rfl, hi0, hi1, e0⟩
      · simp only at he
        obtain rfl := Option.some.inj he
        intro x hx; simp [idsOf] at hx; exact .inl hx
      · simp only [e0, Option.bind_some] at he
        split at he
        · split at he
          · obtain rfl := Option.some.inj he
            intro x hx; simp [idsOf] at hx; exact .inl hx
          · split at he
            · obtain rfl := Option.some.inj he
              intro x hx; simp [idsOf] at hx
              rcases hx with rfl | rfl
              · exact .inr rfl
              · exact .inl rfl
            · cases he
        · cases he
    · cases he

/-- A row of one's own is pushed. -/
theorem OwnMat.pushQ {nx0 nx w : Nat} {k : IntKind} {a : Option (Nat × Nat)} {M : List (List Nat)} (m : OwnMat h nx0 nx k a M w) {c : Bool} {bytes id id2 : Nat} {q : Rw} {r : List Nat} (hq : RowOwn h nx0 nx k w q r) (hne : ∀ id, q.1 = some (id, 0) → a ≠ some (id, 0)) (hg : growOk (M.length + 1) bytes = true) (hn : nx0 ≤ nx) (hid : nx ≤ id) (hid2 : id < id2) :
    ∃ e, appD (h.put id (some ⟨[.slice q.1 w q.2], 1, true⟩)) a M.length c 1 bytes id2 (1, [.slice q.1 w q.2], [id]) = some e ∧ e.n = M.length + 1 ∧ OwnMat ((h.put id (some ⟨[.slice q.1 w q.2], 1, true⟩)).puts e.sets) nx0 (id2 + 1) k e.a (M ++ [r]) w ∧ Ext h nx0 ((h.put id (some ⟨[.slice q.1 w q.2], 1, true⟩)).puts e.sets) (id2 + 1) := by
  obtain ⟨qs, ro, s, nn⟩ := m
  obtain ⟨e, f1, f2, f3, f4⟩ := s.push (c := c) (bytes := bytes) (id := id) (id2 := id2) (ws := [.slice q.1 w q.2]) rfl hg hn hid hid2
  have s' : OwnSl (h.put id (some ⟨[.slice q.1 w q.2], 1, true⟩)) nx0 (id + 1) a M.length 1 (qs.map (rcell w)) := s.put hid (by omega)
  have ids := s'.append_ids2 f1
  have keep : ∀ j, a ≠ some (j, 0) → j < nx → ((h.put id (some ⟨[.slice q.1 w q.2], 1, true⟩)).puts e.sets) j = h j := by
    intro j hj0 hj
    rw [puts_get, put_ne (by omega)]
    intro hx
    rcases ids j hx with e1 | e1
    · omega
    · exact hj0 e1
  refine ⟨e, f1, f2, ⟨qs ++ [q], (ro.keep (by omega) fun p hp id e1 hl => keep id (nn p hp id e1) hl).snoc (hq.keep (by omega) fun id e1 hl => keep id (hne id e1) hl), ?_, ?_⟩, f4⟩
  · rw [List.length_append, List.length_cons, List.length_nil, List.map_append]
    exact f3
  · intro p hp id' e1
    rw [appD_a f1 (by omega)]
    have : id' < nx := by
      rcases List.mem_append.1 hp with hp | hp
      · exact (ro.mem p hp id' 0 e1).2
      · simp at hp; subst hp
        obtain ⟨_, ⟨e2, _⟩ | ⟨i, e2, _, l1, _⟩⟩ := hq
        · rw [e2] at e1; cases e1
        · rw [e2] at e1
          obtain rfl : i = id' := by simpa using e1
          exact l1
    intro e2
    have : id2 = id' := by simpa using e2
    omega

theorem OwnMat.push {nx0 nx w : Nat} {k : IntKind} {a : Option (Nat × Nat)} {M : List (List Nat)} (m : OwnMat h nx0 nx k a M w) {c rc : Bool} {bytes id id2 ri : Nat} {r : List Nat} (hw : 1 ≤ w) (hr : r.length = w) (h0 : nx0 ≤ ri) (h1 : ri < nx) (hb : h ri = some ⟨ints k (nints r), 1, true⟩) (hg : growOk (M.length + 1) bytes = true) (hn : nx0 ≤ nx) (hid : nx ≤ id) (hid2 : id < id2) :
    ∃ e, appD (h.put id (some ⟨[.slice (some (ri, 0)) w rc], 1, true⟩)) a M.length c 1 bytes id2 (1, [.slice (some (ri, 0)) w rc], [id]) = some e ∧ e.n = M.length + 1 ∧ OwnMat ((h.put id (some ⟨[.slice (some (ri, 0)) w rc], 1, true⟩)).puts e.sets) nx0 (id2 + 1) k e.a (M ++ [r]) w ∧ Ext h nx0 ((h.put id (some ⟨[.slice (some (ri, 0)) w rc], 1, true⟩)).puts e.sets) (id2 + 1) := by
  refine m.pushQ (q := (some (ri, 0), rc)) ⟨hr, .inr ⟨ri, rfl, h0, h1, hb⟩⟩ ?_ hg hn hid hid2
  intro j hj ha
  obtain rfl : ri = j := by simpa using hj
  obtain ⟨qs, _, s, _⟩ := m
  rcases s.2 with ⟨e2, _⟩ | ⟨i, e2, _, _, e3⟩
  · rw [e2] at ha; cases ha
  · rw [e2] at ha
    obtain rfl : i = ri := by simpa using ha
    rw [e3] at hb
    simp only [Option.some.injEq, ABlk.mk.injEq] at hb
    have hl := congrArg List.length hb.1
    cases r with
    | nil => simp at hr; omega
    | cons x r' =>
      cases qs with
      | nil => simp [ints, nints] at hl
      | cons q qs => have := hb.1; simp [ints, nints, rcell] at this

end Go.Proofs.Ytalfcokiooaliaa.T

namespace Go.Proofs.Ytalfcokiooaliaa.T
open Go Go.RowKit Go.Proofs

def Small (l : List Nat) : Prop := ∀ x ∈ l, x < 256
def SmallM (M : List (List Nat)) : Prop := ∀ r ∈ M, Small r

theorem Sl.ofBlk {h : AHeap} {nx id es n : Nat} {own : Bool} {vs : List AV} (hb : h id = some ⟨vs, es, own⟩) (hl : vs.length = n * es) (hlt : id < nx) : Sl h nx (some (id, 0)) n es vs :=
  ⟨hl, fun j hj => ⟨(id, 0), _, rfl, hlt, hb, rfl, by simp [hl], fun q hq => by simp⟩⟩

end Go.Proofs.Ytalfcokiooaliaa.T

namespace Go.Proofs.Ytalfcokiooaliaa.T
open Go Go.RowKit Go.Proofs

theorem elem_spec {f : Nat} (hf : 2 ≤ f) (x : Nat) (hx : x < 256) (h : AHeap) (nx : Nat) : callP Try.prog keepT f Y0 68 [.int .i64 (x : Int)] h nx = some (.bool false, h, nx + 13) := by
  obtain ⟨f, rfl⟩ : ∃ m, f = m + 2 := ⟨f - 2, by omega⟩
  have hlt : (x : Int) < 256 := by omega
  rw [F68_eq, F69_eq, if_pos (by simp), decide_eq_true hlt]
  simp only [mst_]
  rfl

theorem all_loop {k0 : Nat} (hk0 : 2 ≤ k0) (lf : Nat) {l : List Nat} (hl : l.length ≤ 1000000) (hs : Small l) {a : Option (Nat × Nat)} (c : Bool) {h : AHeap} {n1 : Nat} (sl : Sl h n1 a l.length 1 (ints .i64 (nints l))) (m : Nat) :
    ∀ (f i nx : Nat), i + m = l.length → m < f → ∃ nx', nx ≤ nx' ∧ F71_L1 (callP Try.prog keepT k0) Y0 lf f a l.length c (.fn 68 [] []) ((l.length : Nat) : Int) (i : Int) h nx = some (.int .i64 (-1), h, nx') := by
  induction m with
  | zero =>
    intro f i nx e hf
    obtain ⟨f, rfl⟩ : ∃ m, f = m + 1 := ⟨f - 1, by omega⟩
    obtain rfl : i = l.length := by omega
    rw [F71_L1_eq, if_neg (by simp)]
    exact ⟨nx + 2, by omega, rfl⟩
  | succ m ih =>
    intro f i nx e hf
    obtain ⟨f, rfl⟩ : ∃ m, f = m + 1 := ⟨f - 1, by omega⟩
    have hi : i < l.length := by omega
    rw [F71_L1_eq, if_pos (by simpa using hi), sl.readN rfl hi]
    simp only [mst_]
    rw [asCal_fn, some_bind, callC_fn, List.nil_append, List.append_nil, elem_spec hk0 l[i] (hs _ (List.getElem_mem _))]
    simp only [mst_]
    rw [wsucc (by omega)]
    obtain ⟨nx', l', e'⟩ := ih f (i + 1) (nx + 9 + 13 + 2) (by omega) (by omega)
    exact ⟨nx', by omega, e'⟩

theorem all_spec {f : Nat} {l : List Nat} (hf : l.length + 8 ≤ f) (hl : l.length ≤ 1000000) (hs : Small l) {a : Option (Nat × Nat)} (c : Bool) {h : AHeap} {n1 : Nat} (sl : Sl h n1 a l.length 1 (ints .i64 (nints l))) (nx : Nat) :
    ∃ nx', nx ≤ nx' ∧ callP Try.prog keepT f Y0 62 [.slice a l.length c] h nx = some (.bool true, h, nx') := by
  obtain ⟨f, rfl⟩ : ∃ m, f = m + 3 := ⟨f - 3, by omega⟩
  obtain ⟨n2, l2, e2⟩ := all_loop (k0 := f) (by omega) f hl hs c sl l.length f 0 (nx + 5 + 6 + 4) (by omega) (by omega)
  rw [show ((0 : Nat) : Int) = 0 from rfl] at e2
  rw [F62_eq, F67_eq, F71_eq, e2]
  simp only [mst_]
  exact ⟨n2, by omega, rfl⟩

theorem may_loop {k0 : Nat} (hk0 : 20 ≤ k0) (lf : Nat) {M : List (List Nat)} {w : Nat} (hM : M.length ≤ 8) (hw : 1 ≤ w) (hw' : w ≤ 8) (hs : SmallM M) {a : Option (Nat × Nat)} (c : Bool) {h : AHeap} {n1 : Nat} (mt : Mat h n1 .i64 a M w) (m : Nat) :
    ∀ (f i nx : Nat), i + m = M.length → m < f → ∃ nx', nx ≤ nx' ∧ F56_L2 (callP Try.prog keepT k0) Y0 lf f a M.length c a M.length c ((M.length : Nat) : Int) (i : Int) h nx = some (.bool true, h, nx') := by
  induction m with
  | zero =>
    intro f i nx e hf
    obtain ⟨f, rfl⟩ : ∃ m, f = m + 1 := ⟨f - 1, by omega⟩
    obtain rfl : i = M.length := by omega
    rw [F56_L2_eq, if_neg (by simp)]
    exact ⟨nx + 2, by omega, rfl⟩
  | succ m ih =>
    intro f i nx e hf
    obtain ⟨f, rfl⟩ : ∃ m, f = m + 1 := ⟨f - 1, by omega⟩
    have hi : i < M.length := by omega
    obtain ⟨q, q1, q2, q3⟩ := mt.row (R := AV × AHeap × Nat) hi
    obtain ⟨r, r1, r2, r3⟩ := mt.row (R := AV × AHeap × Nat) (i := 0) (by omega)
    rw [show ((0 : Nat) : Int) = 0 from rfl] at r3
    obtain ⟨n2, l2, e2⟩ := all_spec (f := k0) (l := M[i]) (by omega) (by omega) (hs _ (List.getElem_mem _)) q.2 (by rw [q1]; exact q2) (nx + 26)
    rw [q1] at e2
    rw [F56_L2_eq, if_pos (by simpa using hi), q3]
    simp only [mst_]
    rw [r3]
    simp only [mst_]
    rw [if_neg (by simp), if_neg (by simp; omega), if_neg (by simp; omega), e2]
    simp only [mst_]
    rw [wsucc (by omega)]
    obtain ⟨nx', l', e'⟩ := ih f (i + 1) (n2 + 2) (by omega) (by omega)
    exact ⟨nx', by omega, e'⟩

theorem may_spec {f : Nat} (hf : 40 ≤ f) {M : List (List Nat)} {w : Nat} (h1 : 1 ≤ M.length) (hM : M.length ≤ 8) (hw : 1 ≤ w) (hw' : w ≤ 8) (hs : SmallM M) {a : Option (Nat × Nat)} (c : Bool) {h : AHeap} {n1 : Nat} (mt : Mat h n1 .i64 a M w) (nx : Nat) :
    ∃ nx', nx ≤ nx' ∧ callP Try.prog keepT f Y0 56 [.slice a M.length c] h nx = some (.bool true, h, nx') := by
  obtain ⟨f, rfl⟩ : ∃ m, f = m + 1 := ⟨f - 1, by omega⟩
  obtain ⟨n2, l2, e2⟩ := may_loop (k0 := f) (by omega) f hM hw hw' hs c mt M.length f 0 (nx + 9 + 3) (by omega) (by omega)
  rw [show ((0 : Nat) : Int) = 0 from rfl] at e2
  rw [F56_eq, if_neg (by simp; omega), if_neg (by simp; omega), F56_J1_eq]
  exact ⟨n2, by omega, e2⟩

/-- Sums in the field. -/
def xsum : Nat → (Nat → Nat) → Nat
  | 0, _ => 0
  | n + 1, f => xsum n f ^^^ f n
theorem xsum_lt {f : Nat → Nat} : ∀ n, (∀ i, i < n → f i < 256) → xsum n f < 256
  | 0, _ => by simp [xsum]
  | n + 1, h => Gf.xor_lt (xsum_lt n fun i hi => h i (by omega)) (h n (by omega))

end Go.Proofs.Ytalfcokiooaliaa.T

namespace Go.Proofs.Ytalfcokiooaliaa.T
open Go Go.RowKit Go.Proofs

/-! ### powers, the factor -/
theorem bad1_spec {f : Nat} (hf : 5 ≤ f) (a : Nat) (ha : a < 256) {h : AHeap} {i : Nat} (hi : h i = some ⟨[.int .i64 (a : Int)], 1, true⟩) (nx : Nat) : ∃ nx', nx ≤ nx' ∧ callP Try.prog keepT f Y0 59 [.slice (some (i, 0)) 1 true] h nx = some (.bool false, h, nx') := by
  obtain ⟨f, rfl⟩ : ∃ m, f = m + 1 := ⟨f - 1, by omega⟩
  obtain ⟨lf, hlf⟩ : ∃ m, f = m + 2 := ⟨f - 2, by omega⟩
  rw [F59_eq]
  generalize callP Try.prog keepT f Y0 = call
  rw [hlf]
  have w01 : wrapA .i64 (0 + 1) = 1 := by decide
  rw [F59_L1_eq, if_pos (by decide), some_bind, if_pos (by decide), ld_at hi rfl]
  simp only [mst_]
  rw [g_andNot a ha, if_neg (by decide), w01, F59_L1_eq, if_neg (by decide)]
  exact ⟨_, by omega, rfl⟩

theorem power_loop {k0 : Nat} (hk0 : 10 ≤ k0) (lf : Nat) (h : AHeap) (m : Nat) : ∀ (k a n out nx : Nat), m < k → a < 256 → out < 256 → n < 2 ^ m → n < 2 ^ 62 →
    ∃ nx', nx ≤ nx' ∧ F61_L1 (callP Try.prog keepT k0) Y0 lf k (a : Int) (n : Int) (out : Int) h nx = some (.int .i64 ((Gf.gm out (Gf.gp a n) : Nat) : Int), h, nx') := by
  have e2 : (2:Int) ^ min (Int.toNat 1) (IntKind.bits .i64) = 2 := by decide
  induction m with
  | zero =>
    intro k a n out nx hk ha ho hn _
    obtain ⟨k, rfl⟩ : ∃ m, k = m + 1 := ⟨k - 1, by omega⟩
    obtain rfl : n = 0 := by simp at hn; exact hn
    rw [F61_L1_eq, if_neg (by simp)]
    exact ⟨nx + 4, by omega, by simp [Gf.gp, Gf.gm_one out ho]⟩
  | succ m ih =>
    intro k a n out nx hk ha ho hn hn'
    obtain ⟨k, rfl⟩ : ∃ m, k = m + 1 := ⟨k - 1, by omega⟩
    by_cases h0 : n = 0
    · subst h0
      rw [F61_L1_eq, if_neg (by simp)]
      exact ⟨nx + 4, by omega, by simp [Gf.gp, Gf.gm_one out ho]⟩
    have hq : n / 2 < 2 ^ m := by rw [Nat.pow_succ] at hn; omega
    have hmk : m < k := by omega
    have hd : Int.fdiv (n : Int) 2 = ((n / 2 : Nat) : Int) := by rw [Int.fdiv_eq_ediv_of_nonneg _ (by omega)]; omega
    have step : ∀ (o mm : Nat), o < 256 → ∃ nx', mm ≤ nx' ∧ F61_J2 (callP Try.prog keepT k0) Y0 lf k (a : Int) (n : Int) (o : Int) h mm = some (.int .i64 ((Gf.gm o (Gf.gp a (2 * (n / 2))) : Nat) : Int), h, nx') := by
      intro o mm ho'
      obtain ⟨n1, l1, e1⟩ := times_spec hk0 a a ha ha h (mm + 4)
      obtain ⟨n3, l3, e3⟩ := ih k (Gf.gm a a) (n / 2) o (n1 + 3) hmk (Gf.gm_lt ha) ho' hq (by omega)
      rw [Gf.gp_sq ha] at e3
      rw [F61_J2_eq, e1]
      simp only [mst_]
      rw [e2, hd, e3]
      exact ⟨n3, by omega, rfl⟩
    rw [F61_L1_eq, if_pos (by simp; omega), g_and1 n hn']
    by_cases h1 : n % 2 = 1
    · rw [if_pos (by simp; omega)]
      obtain ⟨n1, l1, e1⟩ := times_spec hk0 out a ho ha h (nx + 9)
      obtain ⟨n3, l3, e3⟩ := step (Gf.gm out a) n1 (Gf.gm_lt ho)
      rw [e1]
      simp only [mst_]
      rw [e3]
      refine ⟨n3, by omega, ?_⟩
      have : n = 2 * (n / 2) + 1 := by omega
      rw [Gf.gm_assoc ho ha (Gf.gp_lt ha _)]
      conv => rhs; rw [this]
      rfl
    · rw [if_neg (by simp; omega)]
      obtain ⟨n3, l3, e3⟩ := step out (nx + 5) ho
      refine ⟨n3, by omega, ?_⟩
      rw [e3]
      have : n = 2 * (n / 2) := by omega
      conv => rhs; rw [this]

/-- The factor of data column i in parity column j. -/
def fac (j i : Nat) : Nat := Gf.gp 2 (i * j)
theorem fac_lt (j i : Nat) : fac j i < 256 := Gf.gp_lt (by omega) _
theorem fac_spec {f : Nat} (hf : 40 ≤ f) (j i : Nat) (hj : j ≤ 16) (hi : i ≤ 256) (h : AHeap) (nx : Nat) : ∃ h' nx', callP Try.prog keepT f Y0 46 [.int .i64 (j : Int), .int .i64 (i : Int)] h nx = some (.int .i64 ((fac j i : Nat) : Int), h', nx') ∧ Ext h nx h' nx' := by
  obtain ⟨f, rfl⟩ : ∃ m, f = m + 3 := ⟨f - 3, by omega⟩
  have hm : i * j ≤ 256 * 16 := Nat.mul_le_mul hi hj
  have hw : wrapA .i64 ((i : Int) * (j : Int)) = ((i * j : Nat) : Int) := by
    have : ((i : Int) * (j : Int)) = ((i * j : Nat) : Int) := by simp
    rw [this]; generalize i * j = z at hm; exact wA (by omega) (by omega)
  generalize hz : i * j = z at hm hw
  obtain ⟨n1, l1, e1⟩ := bad1_spec (f := f) (by omega) 2 (by omega) (h := h.put (nx + 10 + 8 + 3) (some ⟨[.int .i64 ((2 : Nat) : Int)], 1, true⟩)) (put_same _ _ _) (nx + 10 + 8 + 9)
  obtain ⟨f', rfl⟩ : ∃ m, f = m + 1 := ⟨f - 1, by omega⟩
  obtain ⟨n2, l2, e2⟩ := power_loop (k0 := f') (by omega) f' (h.put (nx + 10 + 8 + 3) (some ⟨[.int .i64 ((2 : Nat) : Int)], 1, true⟩)) 16 f' 2 z 1 (n1 + 5 + 2) (by omega) (by omega) (by omega) (by omega) (by omega)
  rw [show ((2 : Nat) : Int) = 2 from rfl] at e1 e2
  rw [show ((1 : Nat) : Int) = 1 from rfl] at e2
  rw [F46_eq, hw, F51_eq, F55_eq]
  dsimp only
  rw [e1]
  simp only [mst_]
  rw [if_neg (by simp), F55_J1_eq, F61_eq, e2]
  simp only [mst_]
  rw [Gf.one_gm (Gf.gp_lt (by omega) _), show Gf.gp 2 z = fac j i from by unfold fac; rw [hz]]
  exact ⟨_, _, rfl, by omega, fun q hq => put_ne (by omega)⟩

/-! ### the table of products -/
def tabTo (x n : Nat) : List AV := (List.range 256).map fun i => .int .u8 ((if i < n then Gf.gm x i else 0 : Nat) : Int)
theorem tabTo_len (x n : Nat) : (tabTo x n).length = 256 := by simp [tabTo]
theorem tabTo_zero (x : Nat) : tabTo x 0 = List.replicate 256 (.int .u8 0) := by
  apply List.ext_getElem
  · rw [tabTo_len, List.length_replicate]
  · intro i h1 h2
    simp only [tabTo, List.getElem_map, List.getElem_range, List.getElem_replicate]
    rw [if_neg (by omega)]; rfl
theorem tabTo_set (x n : Nat) (hn : n < 256) : (tabTo x n).set n (.int .u8 ((Gf.gm x n : Nat) : Int)) = tabTo x (n + 1) := by
  apply List.ext_getElem
  · rw [List.length_set, tabTo_len, tabTo_len]
  · intro i h1 h2
    rw [List.getElem_set]
    simp only [tabTo, List.getElem_map, List.getElem_range]
    by_cases e : n = i
    · rw [if_pos e]; subst e; simp
    · rw [if_neg e]
      by_cases l : i < n
      · rw [if_pos l, if_pos (by omega)]
      · rw [if_neg l, if_neg (by omega)]
theorem tabTo_get (x i : Nat) (hi : i < 256) : (tabTo x 256)[i * 1]? = some (.int .u8 ((Gf.gm x i : Nat) : Int)) := by
  simp [tabTo, hi]
theorem tabTo_one (x n : Nat) : allOne (tabTo x n) = true := by simp [allOne, tabTo, AV.one]

theorem wU8 {n : Nat} (h : n < 256) : wrapA .u8 (n : Int) = (n : Int) := by
  show IntKind.wrap .u8 (n : Int) = _
  unfold IntKind.wrap; simp only [IntKind.bits, IntKind.signed, Bool.false_and]; rw [if_neg (by decide)]; omega

theorem table_loop {k0 : Nat} (hk0 : 12 ≤ k0) (lf : Nat) (x : Nat) (hx : x < 256) {id : Nat} (m : Nat) : ∀ (f i : Nat) (h : AHeap) (nx : Nat), i + m = 256 → m < f → id < nx → h id = some ⟨tabTo x i, 1, true⟩ →
    ∃ h' nx', F50_L1 (callP Try.prog keepT k0) Y0 lf f (x : Int) (some (id, 0)) (i : Int) h nx = some (.agg (tabTo x 256), h', nx') ∧ nx ≤ nx' ∧ ∀ q, q < nx → q ≠ id → h' q = h q := by
  induction m with
  | zero =>
    intro f i h nx e hf hid hb
    obtain ⟨f, rfl⟩ : ∃ m, f = m + 1 := ⟨f - 1, by omega⟩
    obtain rfl : i = 256 := by omega
    rw [F50_L1_eq, if_neg (by simp), some_bind, ldr_all hb (by exact tabTo_len _ _), some_bind, st_all hb (by exact tabTo_len _ _) (by exact tabTo_len _ _) (tabTo_one _ _)]
    rw [some_bind, ldr_all (put_same _ _ _) (by exact tabTo_len _ _)]
    exact ⟨_, _, rfl, by omega, fun q _ hq => put_ne hq⟩
  | succ m ih =>
    intro f i h nx e hf hid hb
    obtain ⟨f, rfl⟩ : ∃ m, f = m + 1 := ⟨f - 1, by omega⟩
    have hi : i < 256 := by omega
    obtain ⟨h1, n1, e1, x1⟩ := gmul_spec (f := k0) hk0 x i hx hi h (nx + 11)
    have y1 := x1.1
    have hb1 : h1 id = some ⟨tabTo x i, 1, true⟩ := (x1.2 id (by omega)).trans hb
    rw [F50_L1_eq, if_pos (by simp; omega), e1]
    simp only [mst_]
    rw [if_pos (by omega), show (0 + Int.toNat (i : Int) * 1) = i from by omega, wU8 (Gf.gm_lt hx), st_to hb1 rfl (by rw [tabTo_len]; exact hi) (tabTo_set x i hi), wsucc (by omega)]
    obtain ⟨h', nx', e', l', k'⟩ := ih f (i + 1) _ (n1 + 7) (by omega) (by omega) (by omega) (put_same h1 id _)
    refine ⟨h', nx', e', by omega, fun q hq hne => ?_⟩
    rw [k' q (by omega) hne, put_ne hne, x1.2 q (by omega)]

theorem table_spec {f : Nat} (hf : 300 ≤ f) (x : Nat) (hx : x < 256) (h : AHeap) (nx : Nat) : ∃ h' nx', callP Try.prog keepT f Y0 50 [.int .i64 (x : Int)] h nx = some (.agg (tabTo x 256), h', nx') ∧ Ext h nx h' nx' := by
  obtain ⟨f, rfl⟩ : ∃ m, f = m + 1 := ⟨f - 1, by omega⟩
  obtain ⟨h', nx', e', l', k'⟩ := table_loop (k0 := f) (by omega) f x hx (id := nx) 256 f 0 (h.put nx (some ⟨List.replicate 256 (.int .u8 0), 1, true⟩)) (nx + 2) (by omega) (by omega) (by omega) (by rw [put_same, tabTo_zero])
  rw [show ((0 : Nat) : Int) = 0 from rfl] at e'
  rw [F50_eq]
  exact ⟨h', nx', e', by omega, fun q hq => by rw [k' q (by omega) (by omega), put_ne (by omega)]⟩

end Go.Proofs.Ytalfcokiooaliaa.T

namespace Go.Proofs.Ytalfcokiooaliaa.T
open Go Go.RowKit Go.Proofs

theorem g_xor8 {a b : Nat} (ha : a < 256) (hb : b < 256) : Go.bits .xor .u8 (a : Int) (b : Int) = ((a ^^^ b : Nat) : Int) := by
  have hx : a ^^^ b < 256 := Gf.xor_lt ha hb
  have e1 : a % 2 ^ IntKind.u8.bits = a := Nat.mod_eq_of_lt (by simp [IntKind.bits]; omega)
  have e2 : b % 2 ^ IntKind.u8.bits = b := Nat.mod_eq_of_lt (by simp [IntKind.bits]; omega)
  simp only [Go.bits, BitVec.ofInt_natCast, BitVec.toNat_xor, BitVec.toNat_ofNat, e1, e2]
  exact wU8 hx

theorem Sl.same {h h' : AHeap} {nx nx' : Nat} {a : Option (Nat × Nat)} {n es : Nat} {vs : List AV} (s : Sl h nx a n es vs) (l : nx ≤ nx') (k : ∀ p, a = some p → 0 < n → p.1 < nx → h' p.1 = h p.1) : Sl h' nx' a n es vs :=
  ⟨s.1, fun j hj => by
    obtain ⟨p, b, e1, e2, e3, r⟩ := s.2 j hj
    exact ⟨p, b, e1, by omega, (k p e1 (by omega) e2).trans e3, r⟩⟩

theorem fold_set {α : Type} {m d : List α} {i : Nat} (hi : i < m.length) (he : m.length = d.length) : (m.take i ++ d.drop i).set i m[i] = m.take (i + 1) ++ d.drop (i + 1) := by
  have h1 : d.drop i = d[i] :: d.drop (i + 1) := List.drop_eq_getElem_cons (by omega)
  rw [List.set_append_right _ _ (by simp; omega), h1, List.length_take, Nat.min_eq_left (by omega), Nat.sub_self, List.set_cons_zero, List.take_succ_eq_append_getElem hi, List.append_assoc]
  rfl
theorem fold_get {α : Type} {m d : List α} {i : Nat} (hi : i < m.length) (he : m.length = d.length) : (m.take i ++ d.drop i)[i]? = some (d[i]'(by omega)) := by
  rw [List.getElem?_append_right (by simp; omega), List.length_take, Nat.min_eq_left (by omega), Nat.sub_self, List.getElem?_drop, Nat.add_zero, List.getElem?_eq_getElem]

theorem nints_at {k : IntKind} {l : List Nat} {i v : Nat} (h : l[i]? = some v) : (ints k (nints l))[i]? = some (.int k (v : Int)) := by
  simp [ints, nints, List.getElem?_map, h]
theorem nints_set {k : IntKind} {l : List Nat} {i v : Nat} : (ints k (nints l)).set i (.int k (v : Int)) = ints k (nints (l.set i v)) := by
  simp [ints, nints, List.map_set]
theorem nintsL {k : IntKind} {l : List Nat} : (ints k (nints l)).length = l.length := by simp [ints, nints]

/-! ### a column times an element is added -/
def mixed (x : Nat) (d s : List Nat) : List Nat := List.zipWith (fun a b => a ^^^ Gf.gm x b) d s
theorem mixed_len {x : Nat} {d s : List Nat} (h : d.length = s.length) : (mixed x d s).length = d.length := by simp [mixed]; omega
theorem mixed_get {x : Nat} {d s : List Nat} (h : d.length = s.length) {i : Nat} (hi : i < d.length) : (mixed x d s)[i]'(by rw [mixed_len h]; exact hi) = d[i] ^^^ Gf.gm x (s[i]'(by omega)) := by simp [mixed]

theorem mix_loop (call : YldF → CallF) (lf : Nat) (x : Nat) (hx : x < 256) {d s : List Nat} (hd : Small d) (hs : Small s) {n : Nat} (hn : n ≤ 1000000) (d1 : d.length = n) (s1 : s.length = n) {tid pid n1 : Nat} (tc fc : Bool) {fa : Option (Nat × Nat)} (htp : pid ≠ tid) (hne : ∀ p, fa = some p → 0 < n → p.1 ≠ tid) (r : Nat) :
    ∀ (f i : Nat) (h : AHeap) (nx : Nat), i + r = n → r < f → h tid = some ⟨ints .u8 (nints ((mixed x d s).take i ++ d.drop i)), 1, true⟩ → Sl h n1 fa n 1 (ints .u8 (nints s)) → h pid = some ⟨tabTo x 256, 1, true⟩ →
    ∃ h' nx', F45_L1 call Y0 lf f (some (tid, 0)) n tc (some (pid, 0)) fa n fc ((n : Nat) : Int) (i : Int) h nx = some (.tuple [], h', nx') ∧ nx ≤ nx' ∧ h' tid = some ⟨ints .u8 (nints (mixed x d s)), 1, true⟩ ∧ ∀ q, q ≠ tid → h' q = h q := by
  have ml : (mixed x d s).length = n := by rw [mixed_len (by omega)]; exact d1
  induction r with
  | zero =>
    intro f i h nx e hf hb sl hp
    obtain ⟨f, rfl⟩ : ∃ m, f = m + 1 := ⟨f - 1, by omega⟩
    obtain rfl : i = n := by omega
    rw [F45_L1_eq, if_neg (by simp)]
    refine ⟨h, _, rfl, by omega, ?_, fun _ _ => rfl⟩
    rw [hb, List.take_of_length_le (by omega), List.drop_of_length_le (by omega), List.append_nil]
  | succ r ih =>
    intro f i h nx e hf hb sl hp
    obtain ⟨f, rfl⟩ : ∃ m, f = m + 1 := ⟨f - 1, by omega⟩
    have hi : i < n := by omega
    have hsi : s[i]'(by omega) < 256 := hs _ (List.getElem_mem _)
    have hdi : d[i]'(by omega) < 256 := hd _ (List.getElem_mem _)
    have z : 0 + Int.toNat (i : Int) * 1 = i := by omega
    rw [F45_L1_eq, if_pos (by simpa using hi), sl.readN s1 (by omega)]
    simp only [mst_]
    rw [if_pos ⟨by omega, by omega⟩, z, ld_at hb (nints_at (fold_get (by omega) (by omega)))]
    simp only [mst_]
    rw [if_pos ⟨by omega, by omega⟩, show ((0 : Nat) + Int.toNat (((s[i]'(by omega)) : Nat) : Int) * 1) = (s[i]'(by omega)) * 1 from by omega, ld_at hp (tabTo_get x _ hsi)]
    simp only [mst_]
    rw [if_pos ⟨by omega, by omega⟩, g_xor8 hdi (Gf.gm_lt hx)]
    have st := st_to (h := h) (R := AV × AHeap × Nat) hb (v := .int .u8 (((d[i]'(by omega)) ^^^ Gf.gm x (s[i]'(by omega)) : Nat) : Int)) rfl (o := i) (by rw [nintsL, List.length_append, List.length_take, List.length_drop]; omega)
      (cs' := ints .u8 (nints ((mixed x d s).take (i + 1) ++ d.drop (i + 1)))) (by rw [nints_set, ← mixed_get (x := x) (d := d) (s := s) (i := i) (by omega) (by omega), fold_set (m := mixed x d s) (d := d) (i := i) (by omega) (by omega)])
    rw [st, wsucc (by omega)]
    obtain ⟨h', nx', e', l', b', k'⟩ := ih f (i + 1) (h.put tid _) (nx + 18) (by omega) (by omega) (put_same _ _ _) (sl.same (by omega) fun p e0 e1 _ => put_ne (hne p e0 e1)) ((put_ne htp).trans hp)
    exact ⟨h', nx', e', by omega, b', fun q hq => (k' q hq).trans (put_ne hq)⟩

theorem asRow_tab (x : Nat) : asRow (.agg (tabTo x 256)) = some (tabTo x 256) := by simp [asRow]

theorem mix_spec {f : Nat} (hf : 5000 ≤ f) (x : Nat) (hx : x < 256) {d s : List Nat} (hd : Small d) (hs : Small s) {n : Nat} (hn : n ≤ 4096) (d1 : d.length = n) (s1 : s.length = n) {tid : Nat} (tc fc : Bool) {fa : Option (Nat × Nat)} {h : AHeap} {nx : Nat} (ht : tid < nx)
    (hne : ∀ p, fa = some p → 0 < n → p.1 ≠ tid) (hb : h tid = some ⟨ints .u8 (nints d), 1, true⟩) (sl : Sl h nx fa n 1 (ints .u8 (nints s))) :
    ∃ h' nx', callP Try.prog keepT f Y0 45 [.slice (some (tid, 0)) n tc, .slice fa n fc, .int .i64 (x : Int)] h nx = some (.tuple [], h', nx') ∧ nx ≤ nx' ∧ h' tid = some ⟨ints .u8 (nints (mixed x d s)), 1, true⟩ ∧ ∀ q, q < nx → q ≠ tid → h' q = h q := by
  obtain ⟨f, rfl⟩ : ∃ m, f = m + 1 := ⟨f - 1, by omega⟩
  obtain ⟨h1, n1, e1, x1⟩ := table_spec (f := f) (by omega) x hx h (nx + 4)
  have y1 := x1.1
  rw [F45_eq, e1, bind_some']
  dsimp only
  rw [asRow_tab, some_bind, st_all (put_same _ _ _) (by exact tabTo_len _ _) (by exact List.length_replicate) (tabTo_one _ _), put_put]
  obtain ⟨h', nx', e', l', b', k'⟩ := mix_loop (callP Try.prog keepT f) f x hx hd hs (n := n) (by omega) d1 s1 (tid := tid) (pid := nx + 2) (n1 := n1) tc fc (fa := fa) (by omega) hne n f 0 (h1.put (nx + 2) (some ⟨tabTo x 256, 1, true⟩)) (n1 + 3) (by omega) (by omega)
    (by rw [put_ne (by omega), x1.2 tid (by omega), hb]; simp) (sl.same (by omega) fun p _ _ e2 => by rw [put_ne (by omega), x1.2 _ (by omega)]) (put_same _ _ _)
  rw [show ((0 : Nat) : Int) = 0 from rfl] at e'
  rw [e']
  exact ⟨h', nx', rfl, by omega, b', fun q hq hne' => by rw [k' q hne', put_ne (by omega), x1.2 q (by omega)]⟩

/-- A row, also in a heap that has more. -/
theorem Mat.rowX {R : Type} {h : AHeap} {nx w : Nat} {k : IntKind} {a : Option (Nat × Nat)} {M : List (List Nat)} (m : Mat h nx k a M w) {i : Nat} (hi : i < M.length) :
    ∃ q : Rw, M[i].length = w ∧ Sl h nx q.1 w 1 (ints k (nints M[i])) ∧ ∀ {h' : AHeap} {nx' : Nat} (_ : Ext h nx h' nx') (K : AV → Option R), (a.bind fun p => if 0 ≤ (i : Int) ∧ (i : Int) < ((M.length : Nat) : Int) then (ldA h' p.1 (p.2 + Int.toNat (i : Int) * 1)).bind K else none) = K (.slice q.1 w q.2) := by
  obtain ⟨qs, r, s⟩ := m
  obtain ⟨q, e1, e2, e3⟩ := r.get hi
  refine ⟨q, e2, e3, fun x K => (s.ext x).read0 (by omega) (by omega) (by omega) (v := rcell w q) ?_ K⟩
  rw [Int.toNat_natCast, Nat.mul_one, List.getElem?_map, e1]; rfl
theorem Sl.lt {h : AHeap} {nx : Nat} {a : Option (Nat × Nat)} {n es : Nat} {vs : List AV} (s : Sl h nx a n es vs) {p : Nat × Nat} (hp : a = some p) (hn : 0 < n) : p.1 < nx := by
  obtain ⟨p', b, e1, e2, _⟩ := s.2 0 hn
  rw [hp] at e1
  obtain rfl : p = p' := by simpa using e1
  exact e2
theorem made1 (v : AV) (n : Nat) : madeA [v] n = List.replicate n v := by
  rfl

/-! ### one parity column -/
def encTo (M : List (List Nat)) (j w n : Nat) : List Nat := (List.range w).map fun k => xsum n fun i => Gf.gm (fac j i) ((M.getD i []).getD k 0)
def enc (M : List (List Nat)) (j w : Nat) : List Nat := encTo M j w M.length
theorem encTo_len (M : List (List Nat)) (j w n : Nat) : (encTo M j w n).length = w := by simp [encTo]
theorem encTo_small (M : List (List Nat)) (j w n : Nat) : Small (encTo M j w n) := by
  intro x hx
  obtain ⟨k, _, rfl⟩ := List.mem_map.1 hx
  exact xsum_lt _ fun i _ => Gf.gm_lt (fac_lt j i)
theorem encTo_zero (M : List (List Nat)) (j w : Nat) : ints .u8 (nints (encTo M j w 0)) = List.replicate w (.int .u8 0) := by
  apply List.ext_getElem
  · rw [nintsL, encTo_len, List.length_replicate]
  · intro i h1 h2; simp [ints, nints, encTo, xsum]
theorem encTo_succ (M : List (List Nat)) (j w n : Nat) (hn : n < M.length) (hw : (M[n]).length = w) : mixed (fac j n) (encTo M j w n) M[n] = encTo M j w (n + 1) := by
  apply List.ext_getElem
  · rw [mixed_len (by rw [encTo_len, hw]), encTo_len, encTo_len]
  · intro i h1 h2
    rw [mixed_get (by rw [encTo_len, hw]) (by simp [encTo_len] at h2 ⊢; exact h2)]
    have hi : i < w := by simpa [encTo_len] using h2
    simp only [encTo, List.getElem_map, List.getElem_range, xsum]
    congr 2
    simp [List.getD, List.getElem?_eq_getElem hn, List.getElem?_eq_getElem (show i < (M[n]).length by omega)]

theorem enc_loop {k0 : Nat} (hk0 : 5000 ≤ k0) (lf : Nat) (j : Nat) (hj : j ≤ 16) {M : List (List Nat)} {w : Nat} (hM : M.length ≤ 256) (hw : w ≤ 4096) (hs : SmallM M) {a : Option (Nat × Nat)} (c oc : Bool) {h0 : AHeap} {n0 id : Nat} (mt : Mat h0 n0 .u8 a M w) (hid : n0 ≤ id) (r : Nat) :
    ∀ (f i : Nat) (h : AHeap) (nx : Nat), i + r = M.length → r < f → id < nx → h id = some ⟨ints .u8 (nints (encTo M j w i)), 1, true⟩ → (∀ q, q < id → h q = h0 q) →
    ∃ h' nx', F37_L1 (callP Try.prog keepT k0) Y0 lf f (j : Int) (some (id, 0)) w oc a M.length c ((M.length : Nat) : Int) (i : Int) h nx = some (.slice (some (id, 0)) w oc, h', nx') ∧ nx ≤ nx' ∧ h' id = some ⟨ints .u8 (nints (enc M j w)), 1, true⟩ ∧ ∀ q, q < id → h' q = h0 q := by
  induction r with
  | zero =>
    intro f i h nx e hf hlt hb hk
    obtain ⟨f, rfl⟩ : ∃ m, f = m + 1 := ⟨f - 1, by omega⟩
    obtain rfl : i = M.length := by omega
    rw [F37_L1_eq, if_neg (by simp)]
    exact ⟨h, _, rfl, by omega, hb, hk⟩
  | succ r ih =>
    intro f i h nx e hf hlt hb hk
    obtain ⟨f, rfl⟩ : ∃ m, f = m + 1 := ⟨f - 1, by omega⟩
    have hi : i < M.length := by omega
    have xh : Ext h0 n0 h nx := ⟨by omega, fun q hq => hk q (by omega)⟩
    obtain ⟨q, q1, q2, q3⟩ := mt.rowX (R := AV × AHeap × Nat) hi
    obtain ⟨h1, n1, e1, x1⟩ := fac_spec (f := k0) (by omega) j i hj (by omega) h (nx + 12)
    have y1 := x1.1
    have xh1 : Ext h0 n0 h1 n1 := xh.trans (x1.le (Nat.le_refl _) |>.from (by omega))
    obtain ⟨h2, n2, e2, l2, b2, k2⟩ := mix_spec (f := k0) hk0 (fac j i) (fac_lt j i) (encTo_small M j w i) (hs _ (List.getElem_mem hi)) hw (encTo_len M j w i) q1 (tid := id) oc q.2 (fa := q.1) (h := h1) (nx := n1) (by omega)
      (fun p hp hw0 => by have := q2.lt hp hw0; omega) ((x1.2 id (by omega)).trans hb) (q2.ext xh1)
    rw [F37_L1_eq, if_pos (by simpa using hi), q3 xh]
    simp only [mst_]
    rw [e1]
    simp only [mst_]
    rw [e2]
    simp only [mst_]
    rw [wsucc (by omega)]
    rw [encTo_succ M j w i hi q1] at b2
    obtain ⟨h', nx', e', l', b', k'⟩ := ih f (i + 1) h2 (n2 + 2) (by omega) (by omega) (by omega) b2 (fun q hq => by rw [k2 q (by omega) (by omega), x1.2 q (by omega), hk q hq])
    exact ⟨h', nx', e', by omega, b', k'⟩

theorem enc_spec {f : Nat} (hf : 5002 ≤ f) (j : Nat) (hj : j ≤ 16) {M : List (List Nat)} {w : Nat} (h1 : 1 ≤ M.length) (hM : M.length ≤ 256) (hw : w ≤ 4096) (hs : SmallM M) {a : Option (Nat × Nat)} (c : Bool) {h : AHeap} {nx : Nat} (mt : Mat h nx .u8 a M w) :
    ∃ id h' nx', callP Try.prog keepT f Y0 37 [.slice a M.length c, .int .i64 (j : Int)] h nx = some (.slice (some (id, 0)) w true, h', nx') ∧ nx ≤ id ∧ id < nx' ∧ h' id = some ⟨ints .u8 (nints (enc M j w)), 1, true⟩ ∧ Ext h nx h' nx' := by
  obtain ⟨f, rfl⟩ : ∃ m, f = m + 1 := ⟨f - 1, by omega⟩
  obtain ⟨q, q1, q2, q3⟩ := mt.rowX (R := AV × AHeap × Nat) (i := 0) (by omega)
  have q3 := q3 (Ext.refl h nx)
  rw [show ((0 : Nat) : Int) = 0 from rfl] at q3
  obtain ⟨h', nx', e', l', b', k'⟩ := enc_loop (k0 := f) (by omega) f j hj hM hw hs c (((w : Nat) : Int) == ((w : Nat) : Int)) (id := nx + 5) mt (by omega) M.length f 0 (h.put (nx + 5) (some ⟨List.replicate w (.int .u8 0), 1, true⟩)) (nx + 10) (by omega) (by omega) (by omega) (by rw [put_same, encTo_zero]) (fun q hq => put_ne (by omega))
  rw [F37_eq, q3]
  simp only [mst_]
  rw [if_pos (by simp; omega)]
  rw [show madeA [.int .u8 0] (Int.toNat ((w : Nat) : Int) * 1) = List.replicate w (.int .u8 0) from by rw [Int.toNat_natCast, Nat.mul_one]; exact made1 _ _, Int.toNat_natCast]
  rw [show ((0 : Nat) : Int) = 0 from rfl] at e'
  rw [e', show (((w : Nat) : Int) == ((w : Nat) : Int)) = true from by simp]
  exact ⟨nx + 5, h', nx', rfl, by omega, by omega, b', by omega, fun q hq => k' q (by omega)⟩

end Go.Proofs.Ytalfcokiooaliaa.T

/- Slices of slices of one's own, whose rows are all different blocks: rows may be changed in place. Nothing of one program. -/
namespace Go.Proofs.Ytalfcokiooaliaa.T
open Go Go.RowKit

variable {R : Type} {h : AHeap}

def Dist (qs : List Rw) : Prop := qs.Pairwise fun p q => ∀ id, p.1 = some (id, 0) → q.1 ≠ some (id, 0)

def WMat (h : AHeap) (nx0 nx : Nat) (k : IntKind) (a : Option (Nat × Nat)) (M : List (List Nat)) (w : Nat) : Prop :=
  ∃ qs, RowsOwn h nx0 nx k w qs M ∧ OwnSl h nx0 nx a M.length 1 (qs.map (rcell w)) ∧ (∀ q ∈ qs, ∀ id, q.1 = some (id, 0) → a ≠ some (id, 0)) ∧ Dist qs
theorem WMat.own {nx0 nx w : Nat} {k : IntKind} {a : Option (Nat × Nat)} {M : List (List Nat)} (m : WMat h nx0 nx k a M w) : OwnMat h nx0 nx k a M w := by
  obtain ⟨qs, r, s, n, _⟩ := m
  exact ⟨qs, r, s, n⟩
theorem WMat.mat {nx0 nx w : Nat} {k : IntKind} {a : Option (Nat × Nat)} {M : List (List Nat)} (m : WMat h nx0 nx k a M w) : Mat h nx k a M w := m.own.mat
theorem RowsOwn.from {n1 nx0 nx w : Nat} {k : IntKind} (l : nx0 ≤ n1) : ∀ {qs : List Rw} {M : List (List Nat)}, RowsOwn h n1 nx k w qs M → RowsOwn h nx0 nx k w qs M
  | [], [], _ => trivial
  | q :: qs, r :: M, a => ⟨⟨a.1.1, a.1.2.imp id fun ⟨i, e1, e2, e3, e4⟩ => ⟨i, e1, by omega, e3, e4⟩⟩, RowsOwn.from l a.2⟩
  | [], _ :: _, a => a.elim
  | _ :: _, [], a => a.elim
theorem WMat.from {n1 nx0 nx w : Nat} {k : IntKind} {a : Option (Nat × Nat)} {M : List (List Nat)} (m : WMat h n1 nx k a M w) (l : nx0 ≤ n1) : WMat h nx0 nx k a M w := by
  obtain ⟨qs, r, s, n, d⟩ := m
  exact ⟨qs, r.from l, s.from l, n, d⟩
theorem WMat.nil (h : AHeap) (nx0 nx w : Nat) (k : IntKind) : WMat h nx0 nx k none [] w := ⟨[], trivial, OwnSl.nil _ _ _ _, (fun q hq => by cases hq), List.Pairwise.nil⟩
theorem WMat.ext {h' : AHeap} {nx0 nx nx' w : Nat} {k : IntKind} {a : Option (Nat × Nat)} {M : List (List Nat)} (m : WMat h nx0 nx k a M w) (x : Ext h nx h' nx') : WMat h' nx0 nx' k a M w := by
  obtain ⟨qs, r, s, n, d⟩ := m
  exact ⟨qs, r.keep x.1 (fun _ _ id _ hl => x.2 id hl), s.ext x, n, d⟩

/-- A new row of one's own is pushed. -/
theorem WMat.pushAt {h1 h2 : AHeap} {nx0 n1 n2 n3 w : Nat} {k : IntKind} {a : Option (Nat × Nat)} {M : List (List Nat)} (m : WMat h1 nx0 n1 k a M w) (x : Ext h1 n1 h2 n2) {c : Bool} {bytes id id2 : Nat} {q : Rw} {r : List Nat} (hq : RowOwn h2 n1 n2 k w q r) (hf : ∀ j, q.1 = some (j, 0) → j ≠ id ∧ j ≠ id2) (hg : growOk (M.length + 1) bytes = true) (hn : nx0 ≤ n1) (hid : n1 ≤ id) (hid2 : id < id2) (h3 : id2 < n3) (h23 : n2 ≤ n3) :
    ∃ e, appD (h2.put id (some ⟨[.slice q.1 w q.2], 1, true⟩)) a M.length c 1 bytes id2 (1, [.slice q.1 w q.2], [id]) = some e ∧ e.n = M.length + 1 ∧ WMat ((h2.put id (some ⟨[.slice q.1 w q.2], 1, true⟩)).puts e.sets) nx0 n3 k e.a (M ++ [r]) w ∧ Ext h1 nx0 ((h2.put id (some ⟨[.slice q.1 w q.2], 1, true⟩)).puts e.sets) n3 := by
  obtain ⟨qs, ro1, s1, nn, dd⟩ := m
  have y := x.1
  have x' : Ext h1 n1 h2 n1 := ⟨Nat.le_refl _, x.2⟩
  have ro : RowsOwn h2 nx0 n1 k w qs M := ro1.keep (Nat.le_refl _) (fun _ _ id _ hl => x.2 id hl)
  have s := s1.ext x'
  have fresh : ∀ id', q.1 = some (id', 0) → n1 ≤ id' ∧ id' < n2 := by
    intro id' e1
    obtain ⟨_, ⟨e2, _⟩ | ⟨i, e2, l0, l1, _⟩⟩ := hq
    · rw [e2] at e1; cases e1
    · rw [e2] at e1
      obtain rfl : i = id' := by simpa using e1
      exact ⟨l0, l1⟩
  have hne : ∀ id', q.1 = some (id', 0) → a ≠ some (id', 0) := by
    intro id' e1 ha
    have f := fresh id' e1
    rcases s1.2 with ⟨e2, _⟩ | ⟨i, e2, _, e3, _⟩
    · rw [e2] at ha; cases ha
    · rw [e2] at ha
      obtain rfl : i = id' := by simpa using ha
      omega
  obtain ⟨e, f1, f2, f3, f4⟩ := s.push (c := c) (bytes := bytes) (id := id) (id2 := id2) (ws := [.slice q.1 w q.2]) rfl hg hn hid hid2
  have s' : OwnSl (h2.put id (some ⟨[.slice q.1 w q.2], 1, true⟩)) nx0 (id + 1) a M.length 1 (qs.map (rcell w)) := s.put hid (by omega)
  have ids := s'.append_ids2 f1
  have keep : ∀ j, a ≠ some (j, 0) → j ≠ id → j ≠ id2 → ((h2.put id (some ⟨[.slice q.1 w q.2], 1, true⟩)).puts e.sets) j = h2 j := by
    intro j hj0 hj hj2
    rw [puts_get, put_ne hj]
    intro hx
    rcases ids j hx with e1 | e1
    · exact hj2 e1
    · exact hj0 e1
  have hq' : RowOwn ((h2.put id (some ⟨[.slice q.1 w q.2], 1, true⟩)).puts e.sets) nx0 n3 k w q r := by
    obtain ⟨a1, a2 | ⟨i, e2, l0, l1, b⟩⟩ := hq
    · exact ⟨a1, .inl a2⟩
    · have := hf i e2
      exact ⟨a1, .inr ⟨i, e2, by omega, by omega, (keep i (hne i e2) this.1 this.2).trans b⟩⟩
  refine ⟨e, f1, f2, ⟨qs ++ [q], (ro.keep (by omega) fun p hp id e1 hl => keep id (nn p hp id e1) (by omega) (by omega)).snoc hq', ?_, ?_, ?_⟩, ((x.from hn).then (f4.le (by omega)))⟩
  · rw [List.length_append, List.length_cons, List.length_nil, List.map_append]
    exact f3.le (by omega)
  · intro p hp id' e1
    rw [appD_a f1 (by omega)]
    have : id' ≠ id2 := by
      rcases List.mem_append.1 hp with hp | hp
      · have := (ro.mem p hp id' 0 e1).2
        omega
      · simp at hp; subst hp
        exact (hf id' e1).2
    intro e2
    have : id2 = id' := by simpa using e2
    omega
  · refine List.pairwise_append.2 ⟨dd, List.pairwise_singleton _ _, fun p hp p' hp' id' e1 e2 => ?_⟩
    simp at hp'; subst hp'
    have := (ro1.mem p hp id' 0 e1).2
    have := fresh id' e2
    omega

theorem WMat.pushNew {h1 h2 : AHeap} {nx0 n1 n2 w : Nat} {k : IntKind} {a : Option (Nat × Nat)} {M : List (List Nat)} (m : WMat h1 nx0 n1 k a M w) (x : Ext h1 n1 h2 n2) {c : Bool} {bytes id id2 : Nat} {q : Rw} {r : List Nat} (hq : RowOwn h2 n1 n2 k w q r) (hg : growOk (M.length + 1) bytes = true) (hn : nx0 ≤ n1) (hid : n2 ≤ id) (hid2 : id < id2) :
    ∃ e, appD (h2.put id (some ⟨[.slice q.1 w q.2], 1, true⟩)) a M.length c 1 bytes id2 (1, [.slice q.1 w q.2], [id]) = some e ∧ e.n = M.length + 1 ∧ WMat ((h2.put id (some ⟨[.slice q.1 w q.2], 1, true⟩)).puts e.sets) nx0 (id2 + 1) k e.a (M ++ [r]) w ∧ Ext h1 nx0 ((h2.put id (some ⟨[.slice q.1 w q.2], 1, true⟩)).puts e.sets) (id2 + 1) := by
  refine m.pushAt x hq (fun j e1 => ?_) hg hn (by have := x.1; omega) hid2 (by omega) (by omega)
  obtain ⟨_, ⟨e2, _⟩ | ⟨i, e2, l0, l1, _⟩⟩ := hq
  · rw [e2] at e1; cases e1
  · rw [e2] at e1
    obtain rfl : i = j := by simpa using e1
    omega

theorem RowsOwn.setRow {h' : AHeap} {nx0 nx w ri : Nat} {k : IntKind} {r' : List Nat} (hr : r'.length = w) (hb : h' ri = some ⟨ints k (nints r'), 1, true⟩) (hk : ∀ j, j ≠ ri → h' j = h j) (l0 : nx0 ≤ ri) (l1 : ri < nx) : ∀ {qs : List Rw} {M : List (List Nat)}, RowsOwn h nx0 nx k w qs M → Dist qs → ∀ {i : Nat} {q : Rw}, qs[i]? = some q → q.1 = some (ri, 0) → RowsOwn h' nx0 nx k w qs (M.set i r')
  | [], [], _, _, i, q, e, _ => by simp at e
  | p :: qs, r :: M, a, d, i, q, e, e1 => by
    have d := List.pairwise_cons.1 d
    cases i with
    | zero =>
      obtain rfl : p = q := by simpa using e
      refine ⟨⟨hr, .inr ⟨ri, e1, l0, l1, hb⟩⟩, a.2.keep (Nat.le_refl _) fun q' hq' id e2 _ => hk id ?_⟩
      rintro rfl
      exact d.1 q' hq' id e1 e2
    | succ i =>
      have e' : qs[i]? = some q := by simpa using e
      refine ⟨a.1.keep (Nat.le_refl _) fun id e2 _ => hk id ?_, RowsOwn.setRow hr hb hk l0 l1 a.2 d.2 e' e1⟩
      rintro rfl
      exact d.1 q (List.mem_of_getElem? e') id e2 e1
  | [], _ :: _, a, _, _, _, _, _ => a.elim
  | _ :: _, [], a, _, _, _, _, _ => a.elim

theorem RowsOwn.getO {nx0 nx w : Nat} {k : IntKind} : ∀ {qs : List Rw} {M : List (List Nat)} (_ : RowsOwn h nx0 nx k w qs M) {i : Nat} (hi : i < M.length), ∃ q, qs[i]? = some q ∧ RowOwn h nx0 nx k w q M[i]
  | [], [], _, i, hi => by simp at hi
  | q :: qs, r :: M, a, i, hi => by
    cases i with
    | zero => exact ⟨q, rfl, a.1⟩
    | succ i =>
      obtain ⟨q', e1, e2⟩ := RowsOwn.getO a.2 (i := i) (by simpa using hi)
      exact ⟨q', by simpa using e1, e2⟩
  | [], _ :: _, a, _, _ => a.elim
  | _ :: _, [], a, _, _ => a.elim

/-- Row i of one's own: it is read, and it may be changed. -/
theorem WMat.row {nx0 nx w : Nat} {k : IntKind} {a : Option (Nat × Nat)} {M : List (List Nat)} (m : WMat h nx0 nx k a M w) (hw : 1 ≤ w) {i : Nat} (hi : i < M.length) :
    ∃ (ri : Nat) (c : Bool), M[i].length = w ∧ nx0 ≤ ri ∧ ri < nx ∧ h ri = some ⟨ints k (nints M[i]), 1, true⟩ ∧
      (∀ K : AV → Option R, (a.bind fun p => if 0 ≤ (i : Int) ∧ (i : Int) < ((M.length : Nat) : Int) then (ldA h p.1 (p.2 + Int.toNat (i : Int) * 1)).bind K else none) = K (.slice (some (ri, 0)) w c)) ∧
      ∀ r' : List Nat, r'.length = w → WMat (h.put ri (some ⟨ints k (nints r'), 1, true⟩)) nx0 nx k a (M.set i r') w := by
  obtain ⟨qs, ro, s, nn, d⟩ := m
  obtain ⟨⟨q1, q2⟩, e1, w1, ⟨_, z⟩ | ⟨ri, e2, l0, l1, b⟩⟩ := ro.getO hi
  · omega
  obtain rfl : q1 = some (ri, 0) := e2
  refine ⟨ri, q2, w1, l0, l1, b, fun K => s.sl.read0 (by omega) (by omega) (by omega) (v := rcell w (some (ri, 0), q2)) ?_ K, fun r' hr' => ⟨qs, ?_, ?_, nn, d⟩⟩
  · rw [Int.toNat_natCast, Nat.mul_one, List.getElem?_map, e1]; rfl
  · exact ro.setRow hr' (put_same _ _ _) (fun j hj => put_ne hj) l0 l1 d e1 rfl
  · rw [List.length_set]
    refine ⟨s.1, s.2.imp id fun ⟨i2, f1, f2, f3, f4⟩ => ⟨i2, f1, f2, f3, ?_⟩⟩
    rw [put_ne, f4]
    rintro rfl
    exact nn _ (List.mem_of_getElem? e1) i2 rfl f1

end Go.Proofs.Ytalfcokiooaliaa.T

namespace Go.Proofs.Ytalfcokiooaliaa.T
open Go Go.RowKit Go.Proofs

/-! ### May columns be? -/
theorem even_loop {k0 : Nat} (hk0 : 2 ≤ k0) (lf : Nat) {M : List (List Nat)} {w : Nat} (hM : M.length ≤ 256) (hw : w ≤ 4096) {a : Option (Nat × Nat)} (c : Bool) {h : AHeap} {n1 id : Nat} (mt : Mat h n1 .u8 a M w) (hb : h id = some ⟨[.slice a M.length c], 1, true⟩) (r : Nat) :
    ∀ (f i nx : Nat), i + r = M.length → r < f → ∃ nx', nx ≤ nx' ∧ F52_L1 (callP Try.prog keepT k0) Y0 lf f a M.length c (.fn 48 [] [.ptr (some (id, 0))]) ((M.length : Nat) : Int) (i : Int) h nx = some (.int .i64 (-1), h, nx') := by
  induction r with
  | zero =>
    intro f i nx e hf
    obtain ⟨f, rfl⟩ : ∃ m, f = m + 1 := ⟨f - 1, by omega⟩
    obtain rfl : i = M.length := by omega
    rw [F52_L1_eq, if_neg (by simp)]
    exact ⟨nx + 2, by omega, rfl⟩
  | succ r ih =>
    intro f i nx e hf
    obtain ⟨f, rfl⟩ : ∃ m, f = m + 1 := ⟨f - 1, by omega⟩
    obtain ⟨k, rfl⟩ : ∃ m, k0 = m + 1 := ⟨k0 - 1, by omega⟩
    have hi : i < M.length := by omega
    obtain ⟨q, q1, q2, q3⟩ := mt.row (R := AV × AHeap × Nat) hi
    obtain ⟨p, p1, p2, p3⟩ := mt.row (R := AV × AHeap × Nat) (i := 0) (by omega)
    rw [show ((0 : Nat) : Int) = 0 from rfl] at p3
    rw [F52_L1_eq, if_pos (by simpa using hi), q3]
    simp only [mst_]
    rw [asCal_fn, some_bind, callC_fn, List.nil_append, List.singleton_append, F48_eq, some_bind, ld_at hb rfl]
    simp only [mst_]
    rw [p3]
    simp only [mst_]
    rw [if_neg (by simp), decide_eq_false (by omega)]
    simp only [mst_]
    rw [wsucc (by omega)]
    obtain ⟨nx', l', e'⟩ := ih f (i + 1) (nx + 9 + 14 + 2) (by omega) (by omega)
    exact ⟨nx', by omega, e'⟩

theorem even_spec {f : Nat} (hf : 300 ≤ f) {M : List (List Nat)} {w : Nat} (hM : M.length ≤ 256) (hw : w ≤ 4096) {a : Option (Nat × Nat)} (c : Bool) {h : AHeap} {nx : Nat} (mt : Mat h nx .u8 a M w) :
    ∃ h' nx', callP Try.prog keepT f Y0 42 [.slice a M.length c] h nx = some (.bool true, h', nx') ∧ Ext h nx h' nx' := by
  obtain ⟨f, rfl⟩ : ∃ m, f = m + 3 := ⟨f - 3, by omega⟩
  have x : Ext h nx (h.put nx (some ⟨[.slice a M.length c], 1, true⟩)) (nx + 1) := ⟨by omega, fun q hq => put_ne (by omega)⟩
  obtain ⟨n2, l2, e2⟩ := even_loop (k0 := f) (by omega) f hM hw c (mt.ext x) (put_same _ _ _) M.length f 0 (nx + 7 + 6 + 4) (by omega) (by omega)
  rw [show ((0 : Nat) : Int) = 0 from rfl] at e2
  rw [F42_eq]
  dsimp only
  rw [ld_at (put_same _ _ _) rfl]
  simp only [mst_]
  rw [F47_eq, F52_eq, e2]
  simp only [mst_]
  exact ⟨_, _, rfl, by omega, x.2⟩

theorem cmay_spec {f : Nat} (hf : 302 ≤ f) {M : List (List Nat)} {w : Nat} (h1 : 1 ≤ M.length) (hM : M.length ≤ 12) (hw : w ≤ 4096) {a : Option (Nat × Nat)} (c : Bool) {h : AHeap} {nx : Nat} (mt : Mat h nx .u8 a M w) :
    ∃ h' nx', callP Try.prog keepT f Y0 35 [.slice a M.length c] h nx = some (.bool true, h', nx') ∧ Ext h nx h' nx' := by
  obtain ⟨f, rfl⟩ : ∃ m, f = m + 1 := ⟨f - 1, by omega⟩
  obtain ⟨h', nx', e', x'⟩ := even_spec (f := f) (by omega) (by omega) hw c (mt.ext (nx' := nx + 14) ⟨by omega, fun _ _ => rfl⟩)
  rw [F35_eq, if_pos (by simp; omega), if_pos (by simp; omega), e']
  simp only [mst_]
  exact ⟨h', nx', rfl, x'.from (by omega)⟩

/-! ### all parity columns -/
def encs (M : List (List Nat)) (w p : Nat) : List (List Nat) := (List.range p).map fun j => enc M j w
theorem encs_len (M : List (List Nat)) (w p : Nat) : (encs M w p).length = p := by simp [encs]
theorem encs_succ (M : List (List Nat)) (w p : Nat) : encs M w (p + 1) = encs M w p ++ [enc M p w] := by simp [encs, List.range_succ]
theorem encs_get (M : List (List Nat)) (w p : Nat) {j : Nat} (hj : j < p) : (encs M w p)[j]'(by rw [encs_len]; exact hj) = enc M j w := by simp [encs]
theorem enc_len (M : List (List Nat)) (j w : Nat) : (enc M j w).length = w := encTo_len _ _ _ _

theorem encs_loop {k0 : Nat} (hk0 : 5002 ≤ k0) (lf : Nat) {M : List (List Nat)} {w : Nat} (h1 : 1 ≤ M.length) (hM : M.length ≤ 256) (hw : w ≤ 4096) (hs : SmallM M) {a : Option (Nat × Nat)} (c : Bool) {h0 : AHeap} {n0 : Nat} (mt : Mat h0 n0 .u8 a M w) (p : Nat) (hp : p ≤ 16) (r : Nat) :
    ∀ (f j : Nat) (oa : Option (Nat × Nat)) (oc : Bool) (h : AHeap) (nx : Nat), j + r = p → r < f → Ext h0 n0 h nx → WMat h n0 nx .u8 oa (encs M w j) w →
    ∃ oa' oc' h' nx', F26_L1 (callP Try.prog keepT k0) Y0 lf f a M.length c oa j oc (p : Int) (j : Int) h nx = some (.tuple [.slice oa' p oc', .int .i64 0], h', nx') ∧ WMat h' n0 nx' .u8 oa' (encs M w p) w ∧ Ext h0 n0 h' nx' := by
  induction r with
  | zero =>
    intro f j oa oc h nx e hf hx wm
    obtain ⟨f, rfl⟩ : ∃ m, f = m + 1 := ⟨f - 1, by omega⟩
    obtain rfl : j = p := by omega
    rw [F26_L1_eq, if_neg (by simp)]
    exact ⟨oa, oc, h, _, rfl, wm.ext ⟨by omega, fun _ _ => rfl⟩, hx.le (by omega)⟩
  | succ r ih =>
    intro f j oa oc h nx e hf hx wm
    obtain ⟨f, rfl⟩ : ∃ m, f = m + 1 := ⟨f - 1, by omega⟩
    have hj : j < p := by omega
    have y := hx.1
    obtain ⟨id, hA, nA, eA, l1, l2, bA, xA⟩ := enc_spec (f := k0) (by omega) j (by omega) h1 hM hw hs c (mt.ext (hx.le (show nx ≤ nx + 10 by omega)))
    have yA := xA.1
    obtain ⟨e, f1, f2, f3, f4⟩ := (wm.ext (nx' := nx) ⟨by omega, fun _ _ => rfl⟩).pushAt (n2 := nA) (n3 := nA + 2) (x := ⟨by omega, fun q hq => xA.2 q (by omega)⟩) (c := oc) (bytes := 24) (id := nx + 7) (id2 := nx + 8) (q := (some (id, 0), true)) (r := enc M j w)
      ⟨enc_len _ _ _, .inr ⟨id, rfl, by omega, l2, bA⟩⟩ (fun q hq => by
        obtain rfl : id = q := by simpa using hq
        omega) (growOk_of (by rw [encs_len]; omega) (by omega)) (by omega) (by omega) (by omega) (by omega) (by omega)
    rw [encs_len] at f1 f2
    rw [← encs_succ] at f3
    rw [F26_L1_eq, if_pos (by simpa using hj), eA]
    simp only [mst_]
    rw [src_lit1, some_bind, f1, some_bind, f2, wsucc (by omega)]
    exact ih f (j + 1) e.a e.c _ (nA + 2) (by omega) (by omega) (hx.then f4) f3

theorem encode_spec {f : Nat} (hf : 5004 ≤ f) {M : List (List Nat)} {w : Nat} (h1 : 1 ≤ M.length) (hM : M.length ≤ 12) (hw : w ≤ 4096) (hs : SmallM M) {a : Option (Nat × Nat)} (c : Bool) {h : AHeap} {nx : Nat} (mt : Mat h nx .u8 a M w) (p : Nat) (hp1 : 1 ≤ p) (hp : p ≤ 3) :
    ∃ oa oc h' nx', callP Try.prog keepT f Y0 26 [.slice a M.length c, .int .i64 (p : Int)] h nx = some (.tuple [.slice oa p oc, .int .i64 0], h', nx') ∧ WMat h' nx nx' .u8 oa (encs M w p) w ∧ Ext h nx h' nx' := by
  obtain ⟨f, rfl⟩ : ∃ m, f = m + 1 := ⟨f - 1, by omega⟩
  obtain ⟨h2, n2, e2, x2⟩ := cmay_spec (f := f) (by omega) h1 hM hw c (mt.ext (nx' := nx + 5) ⟨by omega, fun _ _ => rfl⟩)
  have y2 := x2.1
  obtain ⟨k, rfl⟩ : ∃ m, f = m + 1 := ⟨f - 1, by omega⟩
  have x3 : Ext h nx h2 (n2 + 3 + 8 + 3) := (x2.from (by omega)).le (by omega)
  obtain ⟨oa, oc, h', nx', e', w', x'⟩ := encs_loop (k0 := k + 1) (by omega) (k + 1) h1 (by omega) hw hs c mt p (by omega) p (k + 1) 0 none false h2 (n2 + 3 + 8 + 3) (by omega) (by omega) x3 (WMat.nil _ _ _ _ _)
  rw [show ((0 : Nat) : Int) = 0 from rfl] at e'
  rw [F26_eq, e2]
  simp only [mst_]
  rw [F36_eq, if_pos (by simp; omega), decide_eq_true (by omega)]
  simp only [mst_]
  rw [e']
  exact ⟨oa, oc, h', nx', rfl, w', x'⟩

/-! ### columns of bytes -/
def cols (l : List Nat) (s n : Nat) : List (List Nat) := (List.range n).map fun i => (l.drop (i * s)).take s
theorem cols_len (l : List Nat) (s n : Nat) : (cols l s n).length = n := by simp [cols]
theorem cols_succ (l : List Nat) (s n : Nat) : cols l s (n + 1) = cols l s n ++ [(l.drop (n * s)).take s] := by simp [cols, List.range_succ]
theorem nints_take (l : List Nat) (n : Nat) : nints (l.take n) = (nints l).take n := by simp [nints, List.map_take]
theorem nints_drop (l : List Nat) (n : Nat) : nints (l.drop n) = (nints l).drop n := by simp [nints, List.map_drop]

end Go.Proofs.Ytalfcokiooaliaa.T
