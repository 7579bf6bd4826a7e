/- Rank and inverse over the field with 256 elements. Nothing of a program. -/
import Derived.Test.YtdfopcgfhjijgaaLG
set_option linter.unusedVariables false
set_option linter.unusedSimpArgs false
namespace Go.Proofs.Ytdfopcgfhjijgaa.T
open Go Go.RowKit Go.Proofs

theorem xsum_dr (n j : Nat) (f : Nat → Nat) (hf : ∀ k, f k < 256) (hj : j < n) : xsum n (fun k => Gf.gm (f k) (dl k j)) = f j := by
  rw [← xsum_dl n j f hf hj]
  exact xsum_congr fun k _ => by rw [Gf.gm_comm (hf k) (dl_lt _ _), dl_comm]

/-! ### more do not go into fewer -/
theorem pigeon : ∀ (m n : Nat) (f : Nat → Nat), (∀ i, i < n → f i < m) → (∀ i j, i < n → j < n → f i = f j → i = j) → n ≤ m
  | 0, n, f, h, _ => by
    by_cases hn : n = 0
    · omega
    · have := h 0 (by omega); omega
  | m + 1, n, f, h, hi => by
    by_cases hn : n = 0
    · omega
    obtain ⟨k, rfl⟩ : ∃ k, n = k + 1 := ⟨n - 1, by omega⟩
    have : k ≤ m := by
      refine pigeon m k (fun i => if f i = m then f k else f i) (fun i hik => ?_) (fun i j hik hjk e => ?_)
      · by_cases c : f i = m
        · simp only [if_pos c]
          have h1 := h k (by omega)
          have h2 : f k ≠ m := fun e => by have := hi i k (by omega) (by omega) (by omega); omega
          omega
        · simp only [if_neg c]
          have := h i (by omega); omega
      · by_cases c : f i = m
        · by_cases d : f j = m
          · exact hi i j (by omega) (by omega) (by omega)
          · simp only [if_pos c, if_neg d] at e
            have := hi k j (by omega) (by omega) e; omega
        · by_cases d : f j = m
          · simp only [if_neg c, if_pos d] at e
            have := hi i k (by omega) (by omega) e; omega
          · simp only [if_neg c, if_neg d] at e
            exact hi i j (by omega) (by omega) e
    omega

def dig : Nat → Nat → Nat
  | 0, v => v % 256
  | t + 1, v => dig t (v / 256)
theorem dig_lt : ∀ t v, dig t v < 256
  | 0, v => by show v % 256 < 256; omega
  | t + 1, v => dig_lt t (v / 256)
theorem dig_inj : ∀ (r v u : Nat), v < 256 ^ r → u < 256 ^ r → (∀ t, t < r → dig t v = dig t u) → v = u
  | 0, v, u, hv, hu, _ => by simp at hv hu; omega
  | r + 1, v, u, hv, hu, h => by
    rw [Nat.pow_succ] at hv hu
    have h0 : v % 256 = u % 256 := h 0 (by omega)
    have h1 : v / 256 = u / 256 := dig_inj r _ _ (by omega) (by omega) fun t ht => h (t + 1) (by omega)
    omega
def enc256 : Nat → (Nat → Nat) → Nat
  | 0, _ => 0
  | s + 1, g => g 0 + 256 * enc256 s fun k => g (k + 1)
theorem enc256_lt : ∀ (s : Nat) (g : Nat → Nat), (∀ k, g k < 256) → enc256 s g < 256 ^ s
  | 0, g, _ => by simp [enc256]
  | s + 1, g, h => by
    have := enc256_lt s (fun k => g (k + 1)) fun k => h _
    have := h 0
    rw [Nat.pow_succ]
    show g 0 + 256 * enc256 s (fun k => g (k + 1)) < _
    omega
theorem enc256_inj : ∀ (s : Nat) (g f : Nat → Nat), (∀ k, g k < 256) → (∀ k, f k < 256) → enc256 s g = enc256 s f → ∀ k, k < s → g k = f k
  | 0, _, _, _, _, _, k, hk => by omega
  | s + 1, g, f, hg, hf, e, k, hk => by
    have e : g 0 + 256 * enc256 s (fun k => g (k + 1)) = f 0 + 256 * enc256 s (fun k => f (k + 1)) := e
    have h1 := hg 0
    have h2 := hf 0
    cases k with
    | zero => omega
    | succ k => exact enc256_inj s (fun k => g (k + 1)) (fun k => f (k + 1)) (fun _ => hg _) (fun _ => hf _) (by omega) k (by omega)

theorem inner_le {r s : Nat} {A B : Fm} (hA : F8 A) (hB : F8 B) (h : ∀ t u, t < r → u < r → xsum s (fun k => Gf.gm (A t k) (B k u)) = dl t u) : r ≤ s := by
  have hp : 256 ^ r ≤ 256 ^ s := by
    have sm : ∀ v k, xsum r (fun t => Gf.gm (dig t v) (A t k)) < 256 := fun v k => xsum_lt r fun t _ => Gf.gm_lt (dig_lt t v)
    refine pigeon (256 ^ s) (256 ^ r) (fun v => enc256 s fun k => xsum r fun t => Gf.gm (dig t v) (A t k)) (fun v _ => enc256_lt s _ fun k => sm v k) (fun v u hv hu e => ?_)
    have e' := enc256_inj s _ _ (fun k => sm v k) (fun k => sm u k) e
    have back : ∀ v x, x < r → xsum s (fun k => Gf.gm (xsum r fun t => Gf.gm (dig t v) (A t k)) (B k x)) = dig x v := by
      intro v x hx
      rw [xsum_congr (g := fun k => xsum r fun t => Gf.gm (dig t v) (Gf.gm (A t k) (B k x))) fun k _ => by
        rw [gm_xsum_left _ _ _ fun t _ => Gf.gm_lt (dig_lt t v)]
        exact xsum_congr fun t _ => Gf.gm_assoc (dig_lt t v) (hA t k) (hB k x)]
      rw [xsum_comm]
      rw [xsum_congr (g := fun t => Gf.gm (dig t v) (dl t x)) fun t ht => by rw [← gm_xsum_right, h t x ht hx]]
      exact xsum_dr r x (fun t => dig t v) (fun t => dig_lt t v) hx
    refine dig_inj r v u hv hu fun x hx => ?_
    rw [← back v x hx, ← back u x hx]
    exact xsum_congr fun k hk => by rw [e' k hk]
  by_cases hc : r ≤ s
  · exact hc
  · have := Nat.pow_lt_pow_right (show 1 < 256 by omega) (show s < r by omega)
    omega

/-! ### factors -/
def Fac (n C : Nat) (M : Fm) (s : Nat) : Prop := ∃ P Q : Fm, F8 P ∧ F8 Q ∧ ∀ i j, i < n → j < C → M i j = xsum s fun k => Gf.gm (P i k) (Q k j)

theorem assoc3 {n s : Nat} {e : Nat → Nat} {P Q : Fm} (he : ∀ k, e k < 256) (hP : F8 P) (hQ : F8 Q) (j : Nat) : xsum n (fun i => Gf.gm (e i) (xsum s fun k => Gf.gm (P i k) (Q k j))) = xsum s fun k => Gf.gm (xsum n fun i => Gf.gm (e i) (P i k)) (Q k j) := by
  rw [xsum_congr (g := fun i => xsum s fun k => Gf.gm (Gf.gm (e i) (P i k)) (Q k j)) fun i _ => by
    rw [gm_xsum_right]
    exact xsum_congr fun k _ => (Gf.gm_assoc (he i) (hP i k) (hQ k j)).symm]
  rw [xsum_comm]
  exact xsum_congr fun k _ => (gm_xsum_left _ _ _ fun i _ => Gf.gm_lt (he i)).symm

theorem GaussRes.le_of_fac {n C r s : Nat} {M0 M : Fm} (v : GaussRes n C M0 M r) (f : Fac n C M0 s) : r ≤ s := by
  obtain ⟨P, Q, hP, hQ, e⟩ := f
  obtain ⟨p, p1, p2⟩ := v.piv
  have hrn := v.rn
  have ex : ∀ t, ∃ g : Nat → Nat, (∀ k, g k < 256) ∧ (t < n → ∀ j, M t j = xsum n fun k => Gf.gm (g k) (M0 k j)) := by
    intro t
    by_cases ht : t < n
    · obtain ⟨g, g1, g2⟩ := v.comb.1 t ht
      exact ⟨g, g1, fun _ => g2⟩
    · exact ⟨fun _ => 0, fun _ => by show 0 < 256; omega, fun h => absurd h ht⟩
  refine inner_le (A := fun t k => xsum n fun i => Gf.gm (Classical.choose (ex t) i) (P i k)) (B := fun k u => Q k (p u)) (fun t k => xsum_lt n fun i _ => Gf.gm_lt ((Classical.choose_spec (ex t)).1 i)) (fun k u => hQ _ _) (fun t u ht hu => ?_)
  rw [← p2 t u (by omega) hu, (Classical.choose_spec (ex t)).2 (by omega), ← assoc3 (Classical.choose_spec (ex t)).1 hP hQ]
  exact xsum_congr fun i hi => by rw [e i (p u) hi (p1 u hu)]

theorem xsum_short {f : Nat → Nat} {r : Nat} : ∀ n, r ≤ n → (∀ k, r ≤ k → k < n → f k = 0) → xsum n f = xsum r f
  | 0, h, _ => by obtain rfl : r = 0 := by omega
                  rfl
  | n + 1, h, z => by
    by_cases e : r = n + 1
    · rw [e]
    · show xsum n f ^^^ f n = _
      rw [z n (by omega) (by omega), Nat.xor_zero, xsum_short n (by omega) fun k h1 h2 => z k h1 (by omega)]

theorem GaussRes.fac {n C r : Nat} {M0 M : Fm} (v : GaussRes n C M0 M r) : Fac n C M0 r := by
  have ex : ∀ t, ∃ g : Nat → Nat, (∀ k, g k < 256) ∧ (t < n → ∀ j, M0 t j = xsum n fun k => Gf.gm (g k) (M k j)) := by
    intro t
    by_cases ht : t < n
    · obtain ⟨g, g1, g2⟩ := v.comb.2 t ht
      exact ⟨g, g1, fun _ => g2⟩
    · exact ⟨fun _ => 0, fun _ => by show 0 < 256; omega, fun h => absurd h ht⟩
  refine ⟨fun t k => Classical.choose (ex t) k, M, fun t k => (Classical.choose_spec (ex t)).1 k, v.f8, fun i j hi hj => ?_⟩
  rw [(Classical.choose_spec (ex i)).2 hi]
  exact xsum_short n v.rn fun k h1 h2 => by rw [v.zero k j h2 h1 hj, Gf.gm_zero]

def mulF (s : Nat) (A B : Fm) : Fm := fun i j => xsum s fun k => Gf.gm (A i k) (B k j)
theorem mulF_F8 {s : Nat} {A B : Fm} (hA : F8 A) : F8 (mulF s A B) := fun i j => xsum_lt s fun k _ => Gf.gm_lt (hA i k)
theorem Fac.mulR {n s C r : Nat} {A B : Fm} (hA : F8 A) (f : Fac s C B r) : Fac n C (mulF s A B) r := by
  obtain ⟨P, Q, hP, hQ, e⟩ := f
  refine ⟨mulF s A P, Q, mulF_F8 hA, hQ, fun i j _ hj => ?_⟩
  show xsum s (fun k => Gf.gm (A i k) (B k j)) = _
  rw [xsum_congr (g := fun k => Gf.gm (A i k) (xsum r fun q => Gf.gm (P k q) (Q q j))) fun k hk => by rw [e k j hk hj]]
  exact assoc3 (hA i) hP hQ j
theorem Fac.mulL {n s C r : Nat} {A B : Fm} (hB : F8 B) (f : Fac n s A r) : Fac n C (mulF s A B) r := by
  obtain ⟨P, Q, hP, hQ, e⟩ := f
  refine ⟨P, mulF s Q B, hP, mulF_F8 hQ, fun i j hi _ => ?_⟩
  show xsum s (fun k => Gf.gm (A i k) (B k j)) = _
  rw [xsum_congr (g := fun k => Gf.gm (xsum r fun q => Gf.gm (P i q) (Q q k)) (B k j)) fun k hk => by rw [e i k hi hk]]
  exact (assoc3 (hP i) hQ hB j).symm
theorem Fac.one_le {n s : Nat} {M : Fm} (f : Fac n n M s) (h : ∀ i j, i < n → j < n → M i j = dl i j) : n ≤ s := by
  obtain ⟨P, Q, hP, hQ, e⟩ := f
  exact inner_le hP hQ fun t u ht hu => by rw [← e t u ht hu, h t u ht hu]
theorem Fac.congr {n C s : Nat} {M N : Fm} (f : Fac n C M s) (h : ∀ i j, i < n → j < C → N i j = M i j) : Fac n C N s := by
  obtain ⟨P, Q, hP, hQ, e⟩ := f
  exact ⟨P, Q, hP, hQ, fun i j hi hj => by rw [h i j hi hj, e i j hi hj]⟩

/-! ### the rank and the inverse that the steps give -/
def rk (n C : Nat) (M : Fm) : Nat := (red n C 0 0 M).2
theorem rk_le {n C : Nat} {M : Fm} (h : F8 M) : rk n C M ≤ n := (red_all h).rn
theorem rk_fac {n C : Nat} {M : Fm} (h : F8 M) : Fac n C M (rk n C M) := (red_all h).fac
theorem rk_min {n C s : Nat} {M : Fm} (h : F8 M) (f : Fac n C M s) : rk n C M ≤ s := (red_all h).le_of_fac f
theorem rk_congr {n C : Nat} {M N : Fm} (h : ∀ i j, i < n → j < C → M i j = N i j) : rk n C M = rk n C N := (red_agree C 0 0 M N (by omega) h).1

/-- A matrix with the one beside it. -/
def aug (n : Nat) (m : Fm) : Fm := fun i j => if j < n then m i j else dl i (j - n)
theorem aug_F8 {n : Nat} {m : Fm} (h : F8 m) : F8 (aug n m) := by
  intro i j; unfold aug; split
  · exact h _ _
  · exact dl_lt _ _
theorem aug_l {n : Nat} {m : Fm} {i j : Nat} (h : j < n) : aug n m i j = m i j := by unfold aug; rw [if_pos h]
theorem aug_r {n : Nat} {m : Fm} (i j : Nat) : aug n m i (n + j) = dl i j := by unfold aug; rw [if_neg (by omega)]; congr 1; omega
theorem rk_aug {n : Nat} {m : Fm} : rk n n (aug n m) = rk n n m := rk_congr fun i j _ hj => aug_l hj

def invF (n : Nat) (m : Fm) : Fm := fun i k => (red n n 0 0 (aug n m)).1 i (n + k)
theorem invF_both {n : Nat} {m : Fm} (h : F8 m) (hr : rk n n m = n) :
    (∀ i j, i < n → j < n → mulF n (invF n m) m i j = dl i j) ∧ ∀ i j, i < n → j < n → mulF n m (invF n m) i j = dl i j := by
  have v := red_all (n := n) (C := n) (aug_F8 (n := n) h)
  have hr' : (red n n 0 0 (aug n m)).2 = n := by show rk n n (aug n m) = n; rw [rk_aug, hr]
  have full := v.full hr' rfl
  constructor
  · intro i j hi hj
    obtain ⟨e, e1, e2⟩ := v.comb.1 i hi
    have he : ∀ k, k < n → invF n m i k = e k := by
      intro k hk
      unfold invF
      rw [e2, xsum_congr (g := fun q => Gf.gm (e q) (dl q k)) fun q _ => by rw [aug_r]]
      exact xsum_dr n k e e1 hk
    unfold mulF
    rw [xsum_congr (g := fun k => Gf.gm (e k) (aug n m k j)) fun k hk => by rw [he k hk, aug_l hj], ← e2, full i j hi hj]
  · intro i j hi hj
    obtain ⟨e, e1, e2⟩ := v.comb.2 i hi
    have he : ∀ k, k < n → m i k = e k := by
      intro k hk
      rw [← aug_l (n := n) (m := m) hk, e2, xsum_congr (g := fun q => Gf.gm (e q) (dl q k)) fun q hq => by rw [full q k hq hk]]
      exact xsum_dr n k e e1 hk
    unfold mulF invF
    rw [xsum_congr (g := fun k => Gf.gm (e k) ((red n n 0 0 (aug n m)).1 k (n + j))) fun k hk => by rw [he k hk], ← e2, aug_r]
theorem invF_F8 {n : Nat} {m : Fm} (h : F8 m) : F8 (invF n m) := fun i k => (red_all (aug_F8 h)).f8 _ _
theorem rk_left {n : Nat} {J m : Fm} (hJ : F8 J) (hm : F8 m) (h : ∀ i j, i < n → j < n → mulF n J m i j = dl i j) : rk n n m = n := by
  have := Fac.one_le (Fac.mulR (n := n) hJ (rk_fac (n := n) (C := n) hm)) h
  have := rk_le (n := n) (C := n) hm
  omega
theorem rk_right {n : Nat} {B m : Fm} (hB : F8 B) (hm : F8 m) (h : ∀ i j, i < n → j < n → mulF n m B i j = dl i j) : rk n n m = n := by
  have := Fac.one_le (Fac.mulL (C := n) hB (rk_fac (n := n) (C := n) hm)) h
  have := rk_le (n := n) (C := n) hm
  omega

end Go.Proofs.Ytdfopcgfhjijgaa.T
