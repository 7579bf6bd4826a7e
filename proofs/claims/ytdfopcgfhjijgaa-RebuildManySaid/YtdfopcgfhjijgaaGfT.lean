/- The field with 256 elements on natural numbers: products by shift and add, their laws, powers, logarithms. Nothing of a program. -/
set_option linter.unusedVariables false
set_option linter.unusedSimpArgs false
namespace Go.Proofs.Ytdfopcgfhjijgaa.Gf

def xt (a : Nat) : Nat := if a < 128 then 2 * a else (2 * a) ^^^ 285
def gmN : Nat → Nat → Nat → Nat
  | 0, _, _ => 0
  | n + 1, a, b => (if b % 2 = 1 then a else 0) ^^^ gmN n (xt a) (b / 2)
def gm (a b : Nat) : Nat := gmN 8 a b

theorem xt_lt : ∀ a, a < 256 → xt a < 256 := by decide +kernel
theorem xor_lt {a b : Nat} (ha : a < 256) (hb : b < 256) : a ^^^ b < 256 := Nat.xor_lt_two_pow (n := 8) ha hb
theorem ite_xor (c d : Prop) [Decidable c] [Decidable d] (a : Nat) : ((if c then a else 0) ^^^ (if d then a else 0)) = if (c ↔ ¬ d) then a else 0 := by
  by_cases hc : c <;> by_cases hd : d <;> simp [hc, hd]
theorem xor_odd (b c : Nat) : ((b ^^^ c) % 2 = 1) ↔ ((b % 2 = 1) ↔ ¬ (c % 2 = 1)) := by
  have h := Nat.testBit_xor b c 0
  simp only [Nat.testBit_zero] at h
  by_cases hb : b % 2 = 1 <;> by_cases hc : c % 2 = 1 <;> simp [hb, hc] at h ⊢ <;> omega
theorem xor_half (b c : Nat) : (b ^^^ c) / 2 = (b / 2) ^^^ (c / 2) := by
  apply Nat.eq_of_testBit_eq; intro i
  simp [Nat.testBit_div_two, Nat.testBit_xor]

theorem gmN_right (n : Nat) : ∀ a b c, gmN n a (b ^^^ c) = gmN n a b ^^^ gmN n a c := by
  induction n with
  | zero => intro a b c; simp [gmN]
  | succ n ih =>
    intro a b c
    simp only [gmN]
    rw [xor_half, ih]
    have h : (if (b ^^^ c) % 2 = 1 then a else 0) = (if b % 2 = 1 then a else 0) ^^^ (if c % 2 = 1 then a else 0) := by
      rw [ite_xor]
      by_cases hh : (b ^^^ c) % 2 = 1
      · rw [if_pos hh, if_pos ((xor_odd b c).1 hh)]
      · rw [if_neg hh, if_neg (fun k => hh ((xor_odd b c).2 k))]
    rw [h]
    generalize (if b % 2 = 1 then a else 0) = p
    generalize (if c % 2 = 1 then a else 0) = q
    generalize gmN n (xt a) (b / 2) = r
    generalize gmN n (xt a) (c / 2) = s
    ac_rfl

/-- Additive on the elements. -/
def Lin (f : Nat → Nat) : Prop := ∀ a b, a < 256 → b < 256 → f (a ^^^ b) = f a ^^^ f b

theorem parts : ∀ a, a < 256 → a = ((if a.testBit 0 then 1 else 0) ^^^ ((if a.testBit 1 then 2 else 0) ^^^ ((if a.testBit 2 then 4 else 0) ^^^ ((if a.testBit 3 then 8 else 0) ^^^ ((if a.testBit 4 then 16 else 0) ^^^ ((if a.testBit 5 then 32 else 0) ^^^ ((if a.testBit 6 then 64 else 0) ^^^ (if a.testBit 7 then 128 else 0)))))))) := by decide +kernel

theorem Lin.zero {f : Nat → Nat} (h : Lin f) : f 0 = 0 := by
  have := h 0 0 (by omega) (by omega)
  simpa using this

theorem Lin.eq {f g : Nat → Nat} (hf : Lin f) (hg : Lin g) (h : ∀ i, i < 8 → f (2 ^ i) = g (2 ^ i)) (a : Nat) (ha : a < 256) : f a = g a := by
  have one : ∀ (c : Bool) (i : Nat), i < 8 → f (if c then 2 ^ i else 0) = g (if c then 2 ^ i else 0) := by
    intro c i hi
    cases c
    · simp [hf.zero, hg.zero]
    · simpa using h i hi
  have small : ∀ (c : Bool) (i : Nat), i < 8 → (if c then 2 ^ i else 0) < 256 := by
    intro c i hi
    have : 2 ^ i ≤ 2 ^ 7 := Nat.pow_le_pow_right (by omega) (by omega)
    split <;> omega
  have s0 := small (a.testBit 0) 0 (by omega); have s1 := small (a.testBit 1) 1 (by omega); have s2 := small (a.testBit 2) 2 (by omega); have s3 := small (a.testBit 3) 3 (by omega)
  have s4 := small (a.testBit 4) 4 (by omega); have s5 := small (a.testBit 5) 5 (by omega); have s6 := small (a.testBit 6) 6 (by omega); have s7 := small (a.testBit 7) 7 (by omega)
  have o0 := one (a.testBit 0) 0 (by omega); have o1 := one (a.testBit 1) 1 (by omega); have o2 := one (a.testBit 2) 2 (by omega); have o3 := one (a.testBit 3) 3 (by omega)
  have o4 := one (a.testBit 4) 4 (by omega); have o5 := one (a.testBit 5) 5 (by omega); have o6 := one (a.testBit 6) 6 (by omega); have o7 := one (a.testBit 7) 7 (by omega)
  simp only [Nat.reducePow] at s0 s1 s2 s3 s4 s5 s6 s7 o0 o1 o2 o3 o4 o5 o6 o7
  have t7 := s7
  have t6 := xor_lt s6 t7; have t5 := xor_lt s5 t6; have t4 := xor_lt s4 t5; have t3 := xor_lt s3 t4; have t2 := xor_lt s2 t3; have t1 := xor_lt s1 t2
  rw [parts a ha]
  rw [hf _ _ s0 t1, hf _ _ s1 t2, hf _ _ s2 t3, hf _ _ s3 t4, hf _ _ s4 t5, hf _ _ s5 t6, hf _ _ s6 t7]
  rw [hg _ _ s0 t1, hg _ _ s1 t2, hg _ _ s2 t3, hg _ _ s3 t4, hg _ _ s4 t5, hg _ _ s5 t6, hg _ _ s6 t7]
  rw [o0, o1, o2, o3, o4, o5, o6, o7]

theorem xt_lin : Lin xt := by
  intro a b ha hb
  have e : ∀ x, x < 256 → xt x = (2 * x) ^^^ (if x.testBit 7 then 285 else 0) := by decide +kernel
  rw [e _ (xor_lt ha hb), e _ ha, e _ hb, Nat.testBit_xor]
  have d : 2 * (a ^^^ b) = (2 * a) ^^^ (2 * b) := by
    apply Nat.eq_of_testBit_eq; intro i
    cases i with
    | zero => simp
    | succ i => rw [Nat.testBit_succ, Nat.testBit_succ, xor_half]; simp
  rw [d]
  generalize 2 * a = p
  generalize 2 * b = q
  cases a.testBit 7 <;> cases b.testBit 7 <;> simp
  · ac_rfl
  · ac_rfl
  · have : (p ^^^ 285) ^^^ (q ^^^ 285) = (p ^^^ q) ^^^ (285 ^^^ 285) := by ac_rfl
    rw [this]; simp

theorem gmN_lt (n : Nat) : ∀ a b, a < 256 → gmN n a b < 256 := by
  induction n with
  | zero => intro a b _; simp [gmN]
  | succ n ih =>
    intro a b ha
    simp only [gmN]
    exact xor_lt (by split <;> omega) (ih _ _ (xt_lt a ha))

theorem gmN_left (n : Nat) : ∀ a b c, a < 256 → b < 256 → gmN n (a ^^^ b) c = gmN n a c ^^^ gmN n b c := by
  induction n with
  | zero => intro a b c _ _; simp [gmN]
  | succ n ih =>
    intro a b c ha hb
    simp only [gmN]
    rw [xt_lin a b ha hb, ih _ _ _ (xt_lt a ha) (xt_lt b hb)]
    split
    · generalize gmN n (xt a) (c / 2) = r
      generalize gmN n (xt b) (c / 2) = s
      ac_rfl
    · simp

theorem gm_lt {a b : Nat} (ha : a < 256) : gm a b < 256 := gmN_lt 8 a b ha
theorem gm_xor_right (a b c : Nat) : gm a (b ^^^ c) = gm a b ^^^ gm a c := gmN_right 8 a b c
theorem gm_xor_left {a b : Nat} (c : Nat) (ha : a < 256) (hb : b < 256) : gm (a ^^^ b) c = gm a c ^^^ gm b c := gmN_left 8 a b c ha hb

theorem lin_r (a : Nat) : Lin (gm a) := fun b c _ _ => gm_xor_right a b c
theorem lin_l (c : Nat) : Lin (fun a => gm a c) := fun _ _ ha hb => gm_xor_left c ha hb

theorem pow_lt : ∀ i, i < 8 → 2 ^ i < 256 := by decide
theorem comm_basis : ∀ i, i < 8 → ∀ j, j < 8 → gm (2 ^ i) (2 ^ j) = gm (2 ^ j) (2 ^ i) := by decide +kernel
theorem gm_comm {a b : Nat} (ha : a < 256) (hb : b < 256) : gm a b = gm b a := by
  refine (lin_l b).eq (lin_r b) (fun i hi => ?_) a ha
  exact (lin_r (2 ^ i)).eq (lin_l (2 ^ i)) (fun j hj => comm_basis i hi j hj) b hb

theorem assoc_basis : ∀ i, i < 8 → ∀ j, j < 8 → ∀ k, k < 8 → gm (gm (2 ^ i) (2 ^ j)) (2 ^ k) = gm (2 ^ i) (gm (2 ^ j) (2 ^ k)) := by decide +kernel
theorem gm_assoc {a b c : Nat} (ha : a < 256) (hb : b < 256) (hc : c < 256) : gm (gm a b) c = gm a (gm b c) := by
  refine Lin.eq (f := fun a => gm (gm a b) c) (g := fun a => gm a (gm b c)) ?_ (lin_l _) (fun i hi => ?_) a ha
  · intro x y hx hy
    show gm (gm (x ^^^ y) b) c = _
    rw [gm_xor_left b hx hy, gm_xor_left c (gm_lt hx) (gm_lt hy)]
  have pi := pow_lt i hi
  refine Lin.eq (f := fun b => gm (gm (2 ^ i) b) c) (g := fun b => gm (2 ^ i) (gm b c)) ?_ ?_ (fun j hj => ?_) b hb
  · intro x y hx hy
    show gm (gm (2 ^ i) (x ^^^ y)) c = _
    rw [gm_xor_right, gm_xor_left c (gm_lt pi) (gm_lt pi)]
  · intro x y hx hy
    show gm (2 ^ i) (gm (x ^^^ y) c) = _
    rw [gm_xor_left c hx hy, gm_xor_right]
  have pj := pow_lt j hj
  refine Lin.eq (f := fun c => gm (gm (2 ^ i) (2 ^ j)) c) (g := fun c => gm (2 ^ i) (gm (2 ^ j) c)) (lin_r _) ?_ (fun k hk => assoc_basis i hi j hj k hk) c hc
  intro x y hx hy
  show gm (2 ^ i) (gm (2 ^ j) (x ^^^ y)) = _
  rw [gm_xor_right, gm_xor_right]

theorem gm_one : ∀ a, a < 256 → gm a 1 = a := by decide +kernel
theorem one_gm {a : Nat} (ha : a < 256) : gm 1 a = a := by rw [gm_comm (by omega) ha, gm_one a ha]
theorem gm_zero (a : Nat) : gm a 0 = 0 := by simpa using (lin_r a).zero
theorem zero_gm (a : Nat) : gm 0 a = 0 := (lin_l a).zero

/-- Powers. -/
def gp (a : Nat) : Nat → Nat
  | 0 => 1
  | n + 1 => gm a (gp a n)
theorem gp_lt {a : Nat} (ha : a < 256) (n : Nat) : gp a n < 256 := by
  cases n with
  | zero => simp [gp]
  | succ n => exact gm_lt ha
theorem gp_add {a : Nat} (ha : a < 256) (m n : Nat) : gp a (m + n) = gm (gp a m) (gp a n) := by
  induction m with
  | zero => rw [Nat.zero_add]; exact (one_gm (gp_lt ha n)).symm
  | succ m ih =>
    rw [Nat.succ_add]
    show gm a (gp a (m + n)) = gm (gm a (gp a m)) (gp a n)
    rw [ih, gm_assoc ha (gp_lt ha m) (gp_lt ha n)]
theorem gp_one {a : Nat} (ha : a < 256) : gp a 1 = a := gm_one a ha
theorem gp_sq {a : Nat} (ha : a < 256) (n : Nat) : gp (gm a a) n = gp a (2 * n) := by
  induction n with
  | zero => rfl
  | succ n ih =>
    show gm (gm a a) (gp (gm a a) n) = gp a (2 * n + 1 + 1)
    rw [ih, gm_assoc ha ha (gp_lt ha _)]; rfl

/-- Powers by squaring: k rounds. -/
def pw : Nat → Nat → Nat → Nat → Nat
  | 0, _, _, out => out
  | k + 1, a, n, out => if n = 0 then out else if n % 2 = 1 then pw k (gm a a) (n / 2) (gm out a) else pw k (gm a a) (n / 2) out
theorem pw_eq (k : Nat) : ∀ a n out, a < 256 → out < 256 → n < 2 ^ k → pw k a n out = gm out (gp a n) := by
  induction k with
  | zero =>
    intro a n out ha ho hn
    obtain rfl : n = 0 := by simp at hn; exact hn
    exact (gm_one out ho).symm
  | succ k ih =>
    intro a n out ha ho hn
    have hq : n / 2 < 2 ^ k := by rw [Nat.pow_succ] at hn; omega
    simp only [pw]
    by_cases h0 : n = 0
    · subst h0; rw [if_pos rfl]; exact (gm_one out ho).symm
    rw [if_neg h0]
    by_cases h1 : n % 2 = 1
    · rw [if_pos h1, ih _ _ _ (gm_lt ha) (gm_lt ho) hq, gp_sq ha, gm_assoc ho ha (gp_lt ha _)]
      have : n = 2 * (n / 2) + 1 := by omega
      conv => rhs; rw [this]
      rfl
    · rw [if_neg h1, ih _ _ _ (gm_lt ha) ho hq, gp_sq ha]
      have : n = 2 * (n / 2) := by omega
      conv => rhs; rw [this]

theorem inv_all : ∀ a, a < 256 → a ≠ 0 → gm (pw 8 a 254 1) a = 1 := by decide +kernel
/-- The inverse. -/
def gi (a : Nat) : Nat := gp a 254
theorem gi_lt {a : Nat} (ha : a < 256) : gi a < 256 := gp_lt ha 254
theorem gi_gm {a : Nat} (ha : a < 256) (h : a ≠ 0) : gm (gi a) a = 1 := by
  have := inv_all a ha h
  rwa [pw_eq 8 a 254 1 ha (by omega) (by omega), one_gm (gp_lt ha _)] at this
theorem gm_gi {a : Nat} (ha : a < 256) (h : a ≠ 0) : gm a (gi a) = 1 := by rw [gm_comm ha (gi_lt ha), gi_gm ha h]
theorem gm_eq_zero {a b : Nat} (ha : a < 256) (hb : b < 256) : gm a b = 0 ↔ a = 0 ∨ b = 0 := by
  constructor
  · intro h
    by_cases hb0 : b = 0
    · exact .inr hb0
    · left
      have : gm (gm a b) (gi b) = a := by rw [gm_assoc ha hb (gi_lt hb), gm_gi hb hb0, gm_one a ha]
      rw [← this, h, zero_gm]
  · rintro (rfl | rfl)
    · exact zero_gm b
    · exact gm_zero a

/-- The logarithm: n is counted up from the power x on. -/
def lg : Nat → Nat → Nat → Nat → Nat
  | 0, _, n, _ => n
  | k + 1, a, n, x => if x = a then n else lg k a (n + 1) (xt x)
theorem gm_two : ∀ a, a < 256 → gm a 2 = xt a := by decide +kernel
/-- Powers of 2, by doubling. -/
def x2 : Nat → Nat
  | 0 => 1
  | n + 1 => xt (x2 n)
theorem x2_lt (n : Nat) : x2 n < 256 := by
  induction n with
  | zero => simp [x2]
  | succ n ih => exact xt_lt _ ih
theorem x2_eq (n : Nat) : x2 n = gp 2 n := by
  induction n with
  | zero => rfl
  | succ n ih =>
    show xt (x2 n) = gm 2 (gp 2 n)
    rw [← gm_two _ (x2_lt n), ih, gm_comm (gp_lt (by omega) n) (by omega)]
def lgo (a : Nat) : Nat := lg 255 a 0 1
theorem log_all : ∀ a, a < 256 → a ≠ 0 → lgo a < 255 := by decide +kernel
/-- lg walks up the powers: if it stops ahead of k rounds, it stopped at a. -/
theorem lg_at (k : Nat) : ∀ a n, lg k a n (x2 n) < n + k → x2 (lg k a n (x2 n)) = a ∧ ∀ m, n ≤ m → m < lg k a n (x2 n) → x2 m ≠ a := by
  induction k with
  | zero => intro a n h; simp [lg] at h
  | succ k ih =>
    intro a n h
    simp only [lg] at h ⊢
    by_cases e : x2 n = a
    · rw [if_pos e]; exact ⟨e, fun m h1 h2 => by omega⟩
    · rw [if_neg e] at h ⊢
      have h' : lg k a (n + 1) (x2 (n + 1)) < n + 1 + k := by show lg k a (n + 1) (xt (x2 n)) < _; omega
      obtain ⟨p, q⟩ := ih a (n + 1) h'
      refine ⟨p, fun m h1 h2 => ?_⟩
      by_cases hm : m = n
      · rw [hm]; exact e
      · exact q m (by omega) h2
theorem x2_lgo {a : Nat} (ha : a < 256) (h : a ≠ 0) : x2 (lgo a) = a := (lg_at 255 a 0 (by have := log_all a ha h; unfold lgo at this; show lg 255 a 0 1 < 0 + 255; omega)).1
theorem lgo_least {a : Nat} (ha : a < 256) (h : a ≠ 0) (m : Nat) (hm : m < lgo a) : x2 m ≠ a := (lg_at 255 a 0 (by have := log_all a ha h; unfold lgo at this; show lg 255 a 0 1 < 0 + 255; omega)).2 m (Nat.zero_le _) hm
theorem x2_255 : x2 255 = 1 := by decide +kernel
theorem x2_add (m n : Nat) : x2 (m + n) = gm (x2 m) (x2 n) := by rw [x2_eq, x2_eq, x2_eq, gp_add (by omega)]
theorem x2_mod (n : Nat) : x2 (n % 255) = x2 n := by
  have e : x2 n = x2 (255 * (n / 255) + n % 255) := by rw [Nat.div_add_mod]
  have z : ∀ q, x2 (255 * q) = 1 := by
    intro q
    induction q with
    | zero => rfl
    | succ q ih => rw [Nat.mul_succ, x2_add, ih, x2_255]; decide +kernel
  rw [e, x2_add, z, one_gm (x2_lt _)]
theorem x2_ne : ∀ n, x2 n ≠ 0 := by
  intro n h
  have h1 : x2 (n + (255 * (n + 1) - n)) = gm (x2 n) (x2 (255 * (n + 1) - n)) := x2_add _ _
  have h2 : n + (255 * (n + 1) - n) = 255 * (n + 1) := by omega
  rw [h2, h, zero_gm, ← x2_mod] at h1
  have h3 : 255 * (n + 1) % 255 = 0 := by omega
  rw [h3] at h1
  simp [x2] at h1
theorem lgo_x2_all : ∀ n, n < 255 → lgo (x2 n) = n := by decide +kernel
theorem lgo_x2 (n : Nat) : lgo (x2 n) = n % 255 := by rw [← x2_mod n]; exact lgo_x2_all _ (Nat.mod_lt _ (by omega))
theorem lgo_gm {a b : Nat} (ha : a < 256) (hb : b < 256) (h : a ≠ 0) (k : b ≠ 0) : lgo (gm a b) = (lgo a + lgo b) % 255 := by
  rw [← lgo_x2, x2_add, x2_lgo ha h, x2_lgo hb k]

end Go.Proofs.Ytdfopcgfhjijgaa.Gf
