import Derived.Test.YtalfcokiooaliaaEA2
import Derived.Test.YtalfcokiooaliaaEA1
set_option linter.unusedVariables false
set_option linter.unusedSimpArgs false
namespace Go.Proofs.Ytalfcokiooaliaa.T
open Go Go.RowKit Go.Proofs

/-! ### Vandermonde: polynomials that are 0 at all points but one -/
theorem xsum_shift (f : Nat → Nat) : ∀ s, xsum (s + 1) f = f 0 ^^^ xsum s fun k => f (k + 1)
  | 0 => by simp [xsum]
  | s + 1 => by
    show xsum (s + 1) f ^^^ f (s + 1) = f 0 ^^^ (xsum s (fun k => f (k + 1)) ^^^ f (s + 1))
    rw [xsum_shift f s, Nat.xor_assoc]
def ev (s : Nat) (q : Nat → Nat) (x : Nat) : Nat := xsum s fun k => Gf.gm (Gf.gp x k) (q k)
def mulLin (q : Nat → Nat) (c : Nat) : Nat → Nat := fun k => (if k = 0 then 0 else q (k - 1)) ^^^ Gf.gm c (q k)
theorem ev_mulLin {s : Nat} {q : Nat → Nat} {c x : Nat} (hq : ∀ k, q k < 256) (hz : q s = 0) (hc : c < 256) (hx : x < 256) : ev (s + 1) (mulLin q c) x = Gf.gm (x ^^^ c) (ev s q x) := by
  unfold ev
  have e1 : xsum (s + 1) (fun k => Gf.gm (Gf.gp x k) (mulLin q c k)) = xsum (s + 1) (fun k => Gf.gm (Gf.gp x k) (if k = 0 then 0 else q (k - 1))) ^^^ xsum (s + 1) (fun k => Gf.gm (Gf.gp x k) (Gf.gm c (q k))) := by
    rw [← xsum_xor]; exact xsum_congr fun k _ => Gf.gm_xor_right _ _ _
  have e2 : xsum (s + 1) (fun k => Gf.gm (Gf.gp x k) (if k = 0 then 0 else q (k - 1))) = Gf.gm x (xsum s fun k => Gf.gm (Gf.gp x k) (q k)) := by
    rw [xsum_shift, if_pos rfl, Gf.gm_zero, Nat.zero_xor, gm_xsum_right]
    refine xsum_congr fun k _ => ?_
    rw [if_neg (by omega), Nat.add_sub_cancel, ← Gf.gm_assoc hx (Gf.gp_lt hx k) (hq k)]; rfl
  have e3 : xsum (s + 1) (fun k => Gf.gm (Gf.gp x k) (Gf.gm c (q k))) = Gf.gm c (xsum s fun k => Gf.gm (Gf.gp x k) (q k)) := by
    show xsum s (fun k => Gf.gm (Gf.gp x k) (Gf.gm c (q k))) ^^^ Gf.gm (Gf.gp x s) (Gf.gm c (q s)) = _
    rw [hz, Gf.gm_zero, Gf.gm_zero, Nat.xor_zero, gm_xsum_right]
    refine xsum_congr fun k _ => ?_
    rw [← Gf.gm_assoc (Gf.gp_lt hx k) hc (hq k), Gf.gm_comm (Gf.gp_lt hx k) hc, Gf.gm_assoc hc (Gf.gp_lt hx k) (hq k)]
  rw [e1, e2, e3, Gf.gm_xor_left _ hx hc]
def prodP (r : Nat → Nat) : Nat → Nat → Nat
  | 0 => dl 0
  | m + 1 => mulLin (prodP r m) (r m)
theorem prodP_lt {r : Nat → Nat} (hr : ∀ v, r v < 256) : ∀ m k, prodP r m k < 256
  | 0, k => dl_lt _ _
  | m + 1, k => by
    show (if k = 0 then 0 else prodP r m (k - 1)) ^^^ Gf.gm (r m) (prodP r m k) < 256
    refine Gf.xor_lt ?_ (Gf.gm_lt (hr m))
    split
    · omega
    · exact prodP_lt hr m _
theorem prodP_zero {r : Nat → Nat} : ∀ m k, m < k → prodP r m k = 0
  | 0, k, h => by show dl 0 k = 0; unfold dl; rw [if_neg (by omega)]
  | m + 1, k, h => by
    show (if k = 0 then 0 else prodP r m (k - 1)) ^^^ Gf.gm (r m) (prodP r m k) = 0
    rw [if_neg (by omega), prodP_zero m (k - 1) (by omega), prodP_zero m k (by omega), Gf.gm_zero, Nat.xor_zero]
def pr (r : Nat → Nat) (x : Nat) : Nat → Nat
  | 0 => 1
  | m + 1 => Gf.gm (x ^^^ r m) (pr r x m)
theorem pr_lt {r : Nat → Nat} (hr : ∀ v, r v < 256) {x : Nat} (hx : x < 256) : ∀ m, pr r x m < 256
  | 0 => by show 1 < 256; omega
  | m + 1 => Gf.gm_lt (Gf.xor_lt hx (hr m))
theorem ev_prodP {r : Nat → Nat} (hr : ∀ v, r v < 256) {x : Nat} (hx : x < 256) : ∀ m, ev (m + 1) (prodP r m) x = pr r x m
  | 0 => by
    show xsum 1 (fun k => Gf.gm (Gf.gp x k) (dl 0 k)) = 1
    simp only [xsum, Nat.zero_xor]
    rw [dl, if_pos rfl]; exact Gf.gm_one 1 (by omega)
  | m + 1 => by
    show ev (m + 1 + 1) (mulLin (prodP r m) (r m)) x = Gf.gm (x ^^^ r m) (pr r x m)
    rw [ev_mulLin (prodP_lt hr m) (prodP_zero m _ (by omega)) (hr m) hx, ev_prodP hr hx m]
theorem xor_eq_zero {a b : Nat} : a ^^^ b = 0 ↔ a = b := by
  constructor
  · intro h
    have := congrArg (· ^^^ b) h
    simpa [Nat.xor_assoc] using this
  · rintro rfl; exact Nat.xor_self _
theorem pr_root {r : Nat → Nat} (hr : ∀ v, r v < 256) {x : Nat} (hx : x < 256) : ∀ m, pr r x m = 0 ↔ ∃ v, v < m ∧ r v = x
  | 0 => by
    constructor
    · intro h; cases h
    · rintro ⟨v, h, _⟩; omega
  | m + 1 => by
    show Gf.gm (x ^^^ r m) (pr r x m) = 0 ↔ _
    rw [Gf.gm_eq_zero (Gf.xor_lt hx (hr m)) (pr_lt hr hx m), pr_root hr hx m, xor_eq_zero]
    constructor
    · rintro (h | ⟨v, h1, h2⟩)
      · exact ⟨m, by omega, h.symm⟩
      · exact ⟨v, by omega, h2⟩
    · rintro ⟨v, h1, h2⟩
      by_cases e : v = m
      · subst e; exact .inl h2.symm
      · exact .inr ⟨v, by omega, h2⟩

def van (p : Nat → Nat) : Fm := fun i k => Gf.gp (p i) k
theorem van_F8 {p : Nat → Nat} (hp : ∀ i, p i < 256) : F8 (van p) := fun i k => Gf.gp_lt (hp i) k
theorem van_right {p : Nat → Nat} (hp : ∀ i, p i < 256) {n : Nat} (hd : ∀ i j, i < n → j < i → p i ≠ p j) : rk n n (van p) = n := by
  have hd' : ∀ i j, i < n → j < n → i ≠ j → p i ≠ p j := by
    intro i j hi hj hij
    by_cases h : j < i
    · exact hd i j hi h
    · exact fun e => hd j i hj (by omega) e.symm
  have hrt : ∀ u v, (if v < u then p v else p (v + 1)) < 256 := fun u v => by split <;> exact hp _
  refine rk_right (B := fun k u => Gf.gm (prodP (fun v => if v < u then p v else p (v + 1)) (n - 1) k) (Gf.gi (pr (fun v => if v < u then p v else p (v + 1)) (p u) (n - 1)))) (fun k u => Gf.gm_lt (prodP_lt (hrt u) _ _)) (van_F8 hp) fun i u hi hu => ?_
  have hpr : ∀ x, x < 256 → pr (fun v => if v < u then p v else p (v + 1)) x (n - 1) < 256 := fun x hx => pr_lt (hrt u) hx _
  have hg := Gf.gi_lt (hpr (p u) (hp u))
  have e : mulF n (van p) (fun k u => Gf.gm (prodP (fun v => if v < u then p v else p (v + 1)) (n - 1) k) (Gf.gi (pr (fun v => if v < u then p v else p (v + 1)) (p u) (n - 1)))) i u = Gf.gm (pr (fun v => if v < u then p v else p (v + 1)) (p i) (n - 1)) (Gf.gi (pr (fun v => if v < u then p v else p (v + 1)) (p u) (n - 1))) := by
    rw [← ev_prodP (hrt u) (hp i) (n - 1), show n - 1 + 1 = n from by omega]
    unfold ev mulF
    rw [gm_xsum_left _ _ _ fun k _ => Gf.gm_lt (Gf.gp_lt (hp i) k)]
    exact xsum_congr fun k _ => (Gf.gm_assoc (Gf.gp_lt (hp i) k) (prodP_lt (hrt u) _ _) hg).symm
  rw [e]
  have root := fun x hx => pr_root (r := fun v => if v < u then p v else p (v + 1)) (hrt u) (x := x) hx (n - 1)
  by_cases hiu : i = u
  · subst hiu
    have hne : pr (fun v => if v < i then p v else p (v + 1)) (p i) (n - 1) ≠ 0 := by
      intro h
      obtain ⟨v, hv, h2⟩ := (root (p i) (hp i)).1 h
      by_cases c : v < i
      · simp only [if_pos c] at h2
        exact hd' v i (by omega) hi (by omega) h2
      · simp only [if_neg c] at h2
        exact hd' (v + 1) i (by omega) hi (by omega) h2
    rw [Gf.gm_gi (hpr _ (hp i)) hne, dl, if_pos rfl]
  · have hz : pr (fun v => if v < u then p v else p (v + 1)) (p i) (n - 1) = 0 := by
      refine (root (p i) (hp i)).2 ?_
      by_cases c : i < u
      · exact ⟨i, by omega, by simp only [if_pos c]⟩
      · refine ⟨i - 1, by omega, ?_⟩
        simp only [if_neg (show ¬ i - 1 < u by omega)]
        rw [show i - 1 + 1 = i from by omega]
    rw [hz, Gf.zero_gm, dl, if_neg hiu]
end Go.Proofs.Ytalfcokiooaliaa.T

namespace Go.Proofs.Ytalfcokiooaliaa.T
open Go Go.RowKit Go.Proofs

/-! ### the plain law: what is lost is what the columns that are left give -/
theorem gp_mul {a : Nat} (ha : a < 256) (m n : Nat) : Gf.gp (Gf.gp a m) n = Gf.gp a (m * n) := by
  induction n with
  | zero => rfl
  | succ n ih =>
    show Gf.gm (Gf.gp a m) (Gf.gp (Gf.gp a m) n) = _
    rw [ih, ← Gf.gp_add ha]; congr 1; rw [Nat.mul_add, Nat.mul_one]; omega
theorem gp2_inj {m n : Nat} (hm : m < 255) (hn : n < 255) (e : Gf.gp 2 m = Gf.gp 2 n) : m = n := by
  rw [← Gf.x2_eq, ← Gf.x2_eq] at e
  have := congrArg Gf.lgo e
  rw [Gf.lgo_x2, Gf.lgo_x2, Nat.mod_eq_of_lt hm, Nat.mod_eq_of_lt hn] at this
  exact this

def facF (us hs : List Nat) : Fm := fun b a => fac (us.getD b 0) (hs.getD a 0)
theorem facF_F8 (us hs : List Nat) : F8 (facF us hs) := fun _ _ => fac_lt _ _

theorem ap_of {us : List Nat} (hp : us.Pairwise (· < ·)) (h3 : ∀ u ∈ us, u < 3) : ∃ u0 d, 1 ≤ d ∧ d ≤ 2 ∧ ∀ b, b < us.length → us.getD b 0 = u0 + d * b := by
  match us, hp, h3 with
  | [], _, _ => exact ⟨0, 1, by omega, by omega, fun b hb => by simp at hb⟩
  | [a], _, _ => exact ⟨a, 1, by omega, by omega, fun b hb => by simp at hb; subst hb; simp⟩
  | [a, b], hp, h3 =>
    have ha := h3 a (by simp)
    have hb := h3 b (by simp)
    have hab : a < b := by simpa using hp
    refine ⟨a, b - a, by omega, by omega, fun i hi => ?_⟩
    simp at hi
    obtain rfl | rfl : i = 0 ∨ i = 1 := by omega
    · simp
    · simp; omega
  | [a, b, c], hp, h3 =>
    have hc := h3 c (by simp)
    simp at hp
    refine ⟨0, 1, by omega, by omega, fun i hi => ?_⟩
    simp at hi
    obtain rfl | rfl | rfl : i = 0 ∨ i = 1 ∨ i = 2 := by omega
    · simp; omega
    · simp; omega
    · simp; omega
  | a :: b :: c :: d :: l, hp, h3 =>
    have hd := h3 d (by simp)
    simp at hp
    omega

theorem pw_ne {l : List Nat} (hp : l.Pairwise (· < ·)) {i j : Nat} (hj : j < i) (hi : i < l.length) : l.getD j 0 < l.getD i 0 := by
  rw [getD_at (by omega), getD_at hi]
  exact (List.pairwise_iff_getElem.1 hp) j i (by omega) hi hj

theorem facF_full {us hs : List Nat} {t : Nat} (hu : us.length = t) (hh : hs.length = t) (pu : us.Pairwise (· < ·)) (ph : hs.Pairwise (· < ·)) (u3 : ∀ u ∈ us, u < 3) (h12 : ∀ i ∈ hs, i < 12) : rk t t (facF us hs) = t := by
  obtain ⟨u0, d, d1, d2, hap⟩ := ap_of pu u3
  have h2 : (2 : Nat) < 256 := by omega
  have hp : ∀ i, (fun i => Gf.gp 2 (hs.getD i 0 * d)) i < 256 := fun i => Gf.gp_lt h2 _
  have hsl : ∀ i, i < t → hs.getD i 0 < 12 := fun i hi => by rw [getD_at (by omega)]; exact h12 _ (List.getElem_mem _)
  have hv := van_right hp (n := t) fun i j hi hj e => by
    have l1 := hsl i hi
    have l2 := hsl j (by omega)
    have lt := pw_ne ph hj (by omega)
    have hd : hs.getD i 0 * d < 255 := Nat.lt_of_le_of_lt (Nat.mul_le_mul (Nat.le_of_lt l1) d2) (by omega)
    have hd2 : hs.getD j 0 * d < 255 := Nat.lt_of_le_of_lt (Nat.mul_le_mul (Nat.le_of_lt l2) d2) (by omega)
    have := gp2_inj hd hd2 e
    have := Nat.eq_of_mul_eq_mul_right (by omega) this
    omega
  have inv := (invF_both (van_F8 hp) hv).1
  have hY := invF_F8 (n := t) (van_F8 hp)
  generalize invF t (van fun i => Gf.gp 2 (hs.getD i 0 * d)) = Y at inv hY
  have sl : ∀ a, Gf.gp 2 (hs.getD a 0 * u0) < 256 := fun a => Gf.gp_lt h2 _
  have sn : ∀ a, Gf.gp 2 (hs.getD a 0 * u0) ≠ 0 := fun a => by rw [← Gf.x2_eq]; exact Gf.x2_ne _
  refine rk_right (B := fun a c => Gf.gm (Gf.gi (Gf.gp 2 (hs.getD a 0 * u0))) (Y c a)) (fun a c => Gf.gm_lt (Gf.gi_lt (sl a))) (facF_F8 us hs) fun b c hb hc => ?_
  have e := inv c b hc hb
  have : mulF t (facF us hs) (fun a c => Gf.gm (Gf.gi (Gf.gp 2 (hs.getD a 0 * u0))) (Y c a)) b c = mulF t Y (van fun i => Gf.gp 2 (hs.getD i 0 * d)) c b := by
    unfold mulF
    refine xsum_congr fun a _ => ?_
    have ef : facF us hs b a = Gf.gm (Gf.gp 2 (hs.getD a 0 * u0)) (van (fun i => Gf.gp 2 (hs.getD i 0 * d)) a b) := by
      unfold facF van fac
      rw [hap b (by omega), gp_mul h2, ← Gf.gp_add h2]
      congr 1; rw [Nat.mul_add, Nat.mul_assoc]
    have hV : van (fun i => Gf.gp 2 (hs.getD i 0 * d)) a b < 256 := van_F8 hp a b
    generalize van (fun i => Gf.gp 2 (hs.getD i 0 * d)) a b = V at *
    have s1 := sl a
    have s2 := sn a
    show Gf.gm (facF us hs b a) (Gf.gm (Gf.gi (Gf.gp 2 (hs.getD a 0 * u0))) (Y c a)) = _
    rw [ef]
    generalize Gf.gp 2 (hs.getD a 0 * u0) = s at *
    have g1 := Gf.gi_lt s1
    rw [Gf.gm_comm s1 hV, Gf.gm_assoc hV s1 (Gf.gm_lt g1), ← Gf.gm_assoc s1 g1 (hY c a), Gf.gm_gi s1 s2, Gf.one_gm (hY c a), Gf.gm_comm hV (hY c a)]
  rw [this, e, dl_comm]



/-- A sum over the places that fit. -/
theorem xsum_filter (g : Nat → Bool) (f : Nat → Nat) : ∀ n, xsum n (fun i => if g i then f i else 0) = xsum ((List.range n).filter g).length (fun a => f (((List.range n).filter g).getD a 0))
  | 0 => rfl
  | n + 1 => by
    show xsum n _ ^^^ (if g n then f n else 0) = _
    rw [xsum_filter g f n, List.range_succ, List.filter_append]
    by_cases h : g n = true
    · rw [if_pos h]
      simp only [List.filter_cons, h, if_true, List.filter_nil, List.length_append, List.length_cons, List.length_nil, Nat.zero_add]
      show _ = xsum _ _ ^^^ f _
      congr 1
      · refine xsum_congr fun a ha => ?_
        simp only [List.getD, List.getElem?_append_left ha]
      · simp
    · rw [if_neg h]
      simp [h]

/-- The columns with noughts for those that are lost. -/
def holed (g : Nat → Bool) (M : List (List Nat)) (w : Nat) : List (List Nat) := (List.range M.length).map fun i => if g i then List.replicate w 0 else M.getD i []
theorem holed_len (g : Nat → Bool) (M : List (List Nat)) (w : Nat) : (holed g M w).length = M.length := by simp [holed]
theorem holed_small {g : Nat → Bool} {M : List (List Nat)} {w : Nat} (hM : SmallM M) : SmallM (holed g M w) := by
  intro r hr
  obtain ⟨i, hi, rfl⟩ := List.mem_map.1 hr
  split
  · intro x hx; rw [List.eq_of_mem_replicate hx]; omega
  · rw [getD_at (by simpa using hi)]; exact hM _ (List.getElem_mem _)
theorem holed_get {g : Nat → Bool} {M : List (List Nat)} {w i : Nat} (hi : i < M.length) : (holed g M w).getD i [] = if g i then List.replicate w 0 else M.getD i [] := by
  simp [holed, List.getD, List.getElem?_range hi]

/-- What the columns that are left lack. -/
def want (g : Nat → Bool) (M : List (List Nat)) (w j : Nat) : List Nat := mixed 1 (enc (holed g M w) j w) (enc M j w)
theorem want_len (g : Nat → Bool) (M : List (List Nat)) (w j : Nat) : (want g M w j).length = w := by
  unfold want; rw [mixed_len (by rw [enc_len, enc_len]), enc_len]
theorem enc_small (M : List (List Nat)) (j w : Nat) : Small (enc M j w) := encTo_small M j w _
theorem mixed_small {x : Nat} {d s : List Nat} (hx : x < 256) (hd : Small d) (h : d.length = s.length) : Small (mixed x d s) := by
  intro y hy
  obtain ⟨i, hi, rfl⟩ := List.getElem_of_mem hy
  rw [mixed_len h] at hi
  rw [mixed_get h hi]
  exact Gf.xor_lt (hd _ (List.getElem_mem _)) (Gf.gm_lt hx)
theorem want_small (g : Nat → Bool) (M : List (List Nat)) (w j : Nat) : Small (want g M w j) := mixed_small (by omega) (enc_small _ _ _) (by rw [enc_len, enc_len])
theorem enc_at (M : List (List Nat)) (j w k : Nat) (hk : k < w) : (enc M j w).getD k 0 = xsum M.length fun i => Gf.gm (fac j i) ((M.getD i []).getD k 0) := by
  simp [enc, encTo, List.getD, List.getElem?_range hk]
theorem mixed_at {x : Nat} {d s : List Nat} (h : d.length = s.length) {k : Nat} (hk : k < d.length) : (mixed x d s).getD k 0 = d.getD k 0 ^^^ Gf.gm x (s.getD k 0) := by
  rw [getD_at (by rw [mixed_len h]; exact hk), mixed_get h hk, getD_at hk, getD_at (by omega)]
theorem want_at {g : Nat → Bool} {M : List (List Nat)} {w : Nat} (j k : Nat) (hk : k < w) : (want g M w j).getD k 0 = xsum ((List.range M.length).filter g).length fun a => Gf.gm (fac j (((List.range M.length).filter g).getD a 0)) ((M.getD (((List.range M.length).filter g).getD a 0) []).getD k 0) := by
  unfold want
  have l1 := enc_len M j w
  rw [mixed_at (by rw [enc_len, enc_len]) (by rw [enc_len]; exact hk), Gf.one_gm, enc_at _ _ _ _ hk, enc_at _ _ _ _ hk, holed_len, ← xsum_xor, ← xsum_filter g fun i => Gf.gm (fac j i) ((M.getD i []).getD k 0)]
  · refine xsum_congr fun i hi => ?_
    rw [holed_get hi]
    by_cases h : g i = true
    · rw [if_pos h, if_pos h]
      simp [List.getD, List.getElem?_replicate, hk, Gf.gm_zero]
    · rw [if_neg h, if_neg h, Nat.xor_self]
  · rw [getD_at (by omega)]; exact enc_small M j w _ (List.getElem_mem _)

/-- A hole after b columns. -/
def fillTo (Rm : Fm) (W : Nat → List Nat) (w a b : Nat) : List Nat := (List.range w).map fun k => xsum b fun c => Gf.gm (Rm a c) ((W c).getD k 0)
theorem fillTo_len (Rm : Fm) (W : Nat → List Nat) (w a b : Nat) : (fillTo Rm W w a b).length = w := by simp [fillTo]
theorem fillTo_zero (Rm : Fm) (W : Nat → List Nat) (w a : Nat) : fillTo Rm W w a 0 = List.replicate w 0 := by
  unfold fillTo
  apply List.ext_getElem
  · simp
  · intro i h1 h2; simp [xsum]
theorem fillTo_small {Rm : Fm} (hR : F8 Rm) (W : Nat → List Nat) (w a b : Nat) : Small (fillTo Rm W w a b) := by
  intro x hx
  obtain ⟨k, _, rfl⟩ := List.mem_map.1 hx
  exact xsum_lt _ fun c _ => Gf.gm_lt (hR _ _)
theorem fillTo_succ {Rm : Fm} {W : Nat → List Nat} {w a b : Nat} (hW : (W b).length = w) : mixed (Rm a b) (fillTo Rm W w a b) (W b) = fillTo Rm W w a (b + 1) := by
  apply List.ext_getElem
  · rw [mixed_len (by rw [fillTo_len, hW]), fillTo_len, fillTo_len]
  · intro k h1 h2
    rw [fillTo_len] at h2
    rw [mixed_get (by rw [fillTo_len, hW]) (by rw [fillTo_len]; exact h2)]
    simp only [fillTo, List.getElem_map, List.getElem_range]
    show _ = xsum b _ ^^^ Gf.gm (Rm a b) ((W b).getD k 0)
    rw [getD_at (by omega)]

theorem fill_law {g : Nat → Bool} {M : List (List Nat)} {w t : Nat} {us : List Nat} (hM : ∀ r ∈ M, r.length = w) (sM : SmallM M) (hn : M.length ≤ 12) (hu : us.length = t) (hh : ((List.range M.length).filter g).length = t) (pu : us.Pairwise (· < ·)) (u3 : ∀ u ∈ us, u < 3) {a : Nat} (ha : a < t) :
    fillTo (invF t (facF us ((List.range M.length).filter g))) (fun b => want g M w (us.getD b 0)) w a t = M.getD (((List.range M.length).filter g).getD a 0) [] := by
  have ph : ((List.range M.length).filter g).Pairwise (· < ·) := List.Pairwise.filter _ List.pairwise_lt_range
  have h12 : ∀ i ∈ (List.range M.length).filter g, i < 12 := fun i hi => by
    have := List.mem_range.1 (List.mem_filter.1 hi).1; omega
  have hlt : ∀ a, a < t → ((List.range M.length).filter g).getD a 0 < M.length := fun a ha => by
    rw [getD_at (by omega)]; exact List.mem_range.1 (List.mem_filter.1 (List.getElem_mem _)).1
  have full := facF_full hu hh pu ph u3 h12
  have inv := (invF_both (facF_F8 us _) full).1
  have hR := invF_F8 (n := t) (facF_F8 us ((List.range M.length).filter g))
  generalize hRe : invF t (facF us ((List.range M.length).filter g)) = Rm at *
  have hl := hlt a ha
  apply List.ext_getElem
  · rw [fillTo_len, getD_at hl, hM _ (List.getElem_mem _)]
  · intro k h1 h2
    rw [fillTo_len] at h1
    simp only [fillTo, List.getElem_map, List.getElem_range]
    have hD : F8 fun c k => (M.getD (((List.range M.length).filter g).getD c 0) []).getD k 0 := fun c k => entD_lt sM _ _
    rw [xsum_congr (g := fun c => Gf.gm (Rm a c) (xsum t fun a => Gf.gm (facF us ((List.range M.length).filter g) c a) ((M.getD (((List.range M.length).filter g).getD a 0) []).getD k 0))) fun c _ => by rw [want_at _ _ h1, hh]; rfl]
    rw [assoc3 (fun k => hR a k) (facF_F8 us _) hD k]
    rw [xsum_congr (g := fun c => Gf.gm (dl a c) ((M.getD (((List.range M.length).filter g).getD c 0) []).getD k 0)) fun c hc => by rw [← inv a c ha hc]; rfl]
    rw [xsum_dl t a _ (fun c => entD_lt sM _ _) ha, getD_at h2]

end Go.Proofs.Ytalfcokiooaliaa.T

namespace Go.Proofs.Ytalfcokiooaliaa.T
open Go Go.RowKit Go.Proofs

/-! ### lists are the same -/
theorem sb_loop (call : YldF → CallF) (lf : Nat) (l : List Nat) (hl : l.length ≤ 1000000000000000) {sa ta : Option (Nat × Nat)} (sc tc : Bool) {h : AHeap} {n1 n2 : Nat} (hs : Sl h n1 sa l.length 1 (ints .u8 (nints l))) (ht : Sl h n2 ta l.length 1 (ints .u8 (nints l))) (m : Nat) :
    ∀ (r i nx : Nat), i + m = l.length → m < r → ∃ nx', nx ≤ nx' ∧ F13_L1 call Y0 lf r sa l.length sc ta l.length tc (i : Int) h nx = some (.bool true, h, nx') := by
  induction m with
  | zero =>
    intro r i nx e hr
    obtain ⟨r, rfl⟩ : ∃ m, r = m + 1 := ⟨r - 1, by omega⟩
    obtain rfl : i = l.length := by omega
    rw [F13_L1_eq, if_neg (by simp)]
    exact ⟨_, by omega, rfl⟩
  | succ m ih =>
    intro r i nx e hr
    obtain ⟨r, rfl⟩ : ∃ m, r = m + 1 := ⟨r - 1, by omega⟩
    have hi : i < l.length := by omega
    rw [F13_L1_eq, if_pos (by simpa using hi), hs.readN rfl hi]
    simp only [mst_]
    rw [ht.readN rfl hi]
    simp only [mst_]
    rw [if_neg (by simp), wsucc (by omega)]
    obtain ⟨nx', l', e'⟩ := ih r (i + 1) (nx + 16) (by omega) (by omega)
    exact ⟨nx', by omega, e'⟩
theorem sb_spec {f : Nat} (l : List Nat) {w : Nat} (hw : l.length = w) (hf : w + 2 ≤ f) (hl : w ≤ 1000000) {sa ta : Option (Nat × Nat)} (sc tc : Bool) {h : AHeap} {n1 n2 : Nat} (hs : Sl h n1 sa w 1 (ints .u8 (nints l))) (ht : Sl h n2 ta w 1 (ints .u8 (nints l))) (nx : Nat) :
    ∃ nx', nx ≤ nx' ∧ callP Try.prog keepT f Y0 13 [.slice sa w sc, .slice ta w tc] h nx = some (.bool true, h, nx') := by
  subst hw
  obtain ⟨f, rfl⟩ : ∃ m, f = m + 1 := ⟨f - 1, by omega⟩
  rw [F13_eq, if_neg (by simp)]
  obtain ⟨nx', l', e'⟩ := sb_loop (callP Try.prog keepT f) f l (by omega) sc tc hs ht l.length f 0 (nx + 7) (by omega) (by omega)
  exact ⟨nx', by omega, e'⟩



/-! ### a copy of bytes -/
theorem bclone_spec {f : Nat} (hf : 1 ≤ f) {l : List Nat} {w : Nat} (hl : l.length = w) (hk : w ≤ 1000000) {a : Option (Nat × Nat)} (c : Bool) {h : AHeap} {nx : Nat} (s : Sl h nx a w 1 (ints .u8 (nints l))) :
    ∃ (q : Rw) (h' : AHeap) (nx' : Nat), callP Try.prog keepT f Y0 24 [.slice a w c] h nx = some (.slice q.1 w q.2, h', nx') ∧ RowOwn h' nx nx' .u8 w q l ∧ Ext h nx h' nx' := by
  obtain ⟨f, rfl⟩ : ∃ m, f = m + 1 := ⟨f - 1, by omega⟩
  cases a with
  | none =>
    have w0 : w = 0 := by
      rcases Nat.eq_zero_or_pos w with e | e
      · exact e
      · obtain ⟨p, b, e1, _⟩ := s.2 0 e; cases e1
    subst w0
    rw [F24_eq, if_pos (by simp)]
    exact ⟨(none, false), h, nx + 4, rfl, ⟨hl, .inl ⟨rfl, rfl⟩⟩, by omega, fun _ _ => rfl⟩
  | some a =>
    have x1 : Ext h nx (h.put (nx + 3) (some ⟨[], 1, true⟩)) (nx + 4) := ⟨by omega, fun j hj => put_ne (by omega)⟩
    obtain ⟨rd, e1⟩ := (s.ext x1).src'
    have o : OwnSl (h.put (nx + 3) (some ⟨[], 1, true⟩)) nx (nx + 4) (some (nx + 3, 0)) 0 1 [] := ⟨by simp, .inr ⟨nx + 3, rfl, by omega, by omega, put_same _ _ _⟩⟩
    obtain ⟨e, f1, f2, f3, f4, _⟩ := o.appendS true (bytes := 1) (id := nx + 5) (k := w) (ws := ints .u8 (nints l)) (rd := rd) s.1 (growOk_of (by omega) (by omega)) (by omega) (by omega)
    rw [Nat.zero_add] at f2 f3
    rw [List.nil_append] at f3
    rw [F24_eq, if_neg (by simp)]
    dsimp only
    rw [e1, some_bind, f1, some_bind, f2]
    refine ⟨(e.a, e.c), _, nx + 7, rfl, ⟨hl, ?_⟩, ⟨by omega, fun j hj => by rw [f4.2 j (by omega), put_ne (by omega)]⟩⟩
    rcases f3.2 with ⟨g0, z⟩ | ⟨id, g1, g2, g3, g4⟩
    · exact .inl ⟨g0, z⟩
    · exact .inr ⟨id, g1, g2, by omega, g4⟩

/-! ### rows that one pushes: matrices -/
theorem appD_reads {h : AHeap} {a : Option (Nat × Nat)} {n : Nat} {c : Bool} {es bytes id k : Nat} {ws : List AV} {rd : List Nat} {e : AE} (he : appD h a n c es bytes id (k, ws, rd) = some e) : ∀ i ∈ e.reads, ownOf a i ∨ i ∈ rd := by
  unfold appD at he
  split at he
  · obtain rfl := Option.some.inj he; exact fun i hi => .inr hi
  · split at he
    · cases a with
      | none => simp only at he; obtain rfl := Option.some.inj he; exact fun i hi => .inr hi
      | some a =>
        simp only at he
        cases hb : h a.1 with
        | none => rw [hb] at he; cases he
        | some b =>
          rw [hb, Option.bind_some] at he
          split at he
          · split at he
            · obtain rfl := Option.some.inj he
              intro i hi
              rcases List.mem_cons.1 hi with rfl | hi
              · exact .inl ⟨a.2, rfl⟩
              · exact .inr hi
            · split at he
              · obtain rfl := Option.some.inj he
                intro i hi
                rcases List.mem_cons.1 hi with rfl | hi
                · exact .inl ⟨a.2, rfl⟩
                · exact .inr hi
              · cases he
          · cases he
    · cases he
theorem OwnRows.pushE {α : Type} {Q : α → List AV → Prop} {h0 h : AHeap} {n0 nx : Nat} {a : Option (Nat × Nat)} {es : Nat} {l : List α} (w : OwnRows Q h nx a es l) (x0 : Ext h0 n0 h nx) (lo : ∀ i, ownOf a i → n0 ≤ i) (c : Bool) {bytes id id2 : Nat} {x : α} {r : List AV} (hr : r.length = es) (hq : Q x r) (hg : growOk (l.length + 1) bytes = true) (h1 : nx ≤ id) (h2 : id < id2) :
    ∃ e, srcS (h.put id (some ⟨r, es, true⟩)) (some (id, 0)) 1 es = some (1, r, [id]) ∧ appD (h.put id (some ⟨r, es, true⟩)) a l.length c es bytes id2 (1, r, [id]) = some e ∧ e.a = some (id2, 0) ∧ e.n = l.length + 1 ∧
      OwnRows Q ((h.put id (some ⟨r, es, true⟩)).puts e.sets) (id2 + 1) e.a es (l ++ [x]) ∧ Frm (ownOf a) h nx ((h.put id (some ⟨r, es, true⟩)).puts e.sets) (id2 + 1) ∧ Ext h0 n0 ((h.put id (some ⟨r, es, true⟩)).puts e.sets) (id2 + 1) ∧ (∀ i, ownOf e.a i → i = id2) ∧ ∀ i, i ∈ e.reads → ownOf a i ∨ i = id := by
  obtain ⟨e, s1, s2, s3, s4, s5, s6, s7, s8⟩ := w.push c hr hq hg h1 h2
  refine ⟨e, s1, s2, s3, s4, s5, s6, ⟨by have := s6.1; have := x0.1; omega, fun i hi => ?_⟩, fun i hi => ?_, ?_⟩
  · rw [s6.2 i (by have := x0.1; omega) (fun q => by have := lo i q; omega), x0.2 i hi]
  · obtain ⟨o, ho⟩ := hi
    rw [s3] at ho
    have := congrArg Prod.fst (Option.some.inj ho)
    exact this.symm
  · intro i hi
    rcases appD_reads s2 i hi with q | q
    · exact .inl q
    · simp at q; exact .inr q

theorem RowsAt_all {α : Type} {h : AHeap} {nx w : Nat} {kd : IntKind} {Q : α → List AV → Prop} {D : α → List Nat} : ∀ {l : List α} {rows : List (List AV)}, All2 Q l rows → (∀ x ∈ l, ∀ r, Q x r → ∃ q : Rw, r = [rcell w q] ∧ (D x).length = w ∧ Sl h nx q.1 w 1 (ints kd (nints (D x)))) → ∃ qs : List Rw, rows.flatten = qs.map (rcell w) ∧ RowsAt h nx kd w qs (l.map D)
  | [], rows, e, _ => by simp only [All2] at e; subst e; exact ⟨[], rfl, trivial⟩
  | x :: l, rows, e, k => by
    obtain ⟨r, rs, rfl, a, b⟩ := e
    obtain ⟨q, rfl, q1, q2⟩ := k x List.mem_cons_self r a
    obtain ⟨qs, e1, e2⟩ := RowsAt_all b fun y hy => k y (List.mem_cons_of_mem _ hy)
    exact ⟨q :: qs, by simp [e1], ⟨q1, q2⟩, e2⟩
theorem OwnRows.mat {α : Type} {h : AHeap} {nx w : Nat} {kd : IntKind} {Q : α → List AV → Prop} {D : α → List Nat} {a : Option (Nat × Nat)} {l : List α} (o : OwnRows Q h nx a 1 l) (k : ∀ x ∈ l, ∀ r, Q x r → ∃ q : Rw, r = [rcell w q] ∧ (D x).length = w ∧ Sl h nx q.1 w 1 (ints kd (nints (D x)))) : Mat h nx kd a (l.map D) w := by
  obtain ⟨rows, q, len, s, _⟩ := o.rows (A := fun _ => False) (fun _ _ q => q)
  obtain ⟨qs, e1, e2⟩ := RowsAt_all q k
  refine ⟨qs, e2, ?_⟩
  rw [← e1, List.length_map]; exact s
theorem RowsAt_map {h : AHeap} {nx w : Nat} {kd : IntKind} {q : Nat → Rw} {D : Nat → List Nat} : ∀ {l : List Nat}, (∀ k ∈ l, (D k).length = w ∧ Sl h nx (q k).1 w 1 (ints kd (nints (D k)))) → RowsAt h nx kd w (l.map q) (l.map D)
  | [], _ => trivial
  | x :: l, k => ⟨k x List.mem_cons_self, RowsAt_map fun y hy => k y (List.mem_cons_of_mem _ hy)⟩

/-! ### columns of which some may be lost -/
def bls (g : Nat → Bool) (n : Nat) : List AV := (List.range n).map fun k => .bool (g k)
theorem bls_len (g : Nat → Bool) (n : Nat) : (bls g n).length = n := by simp [bls]
theorem bls_get (g : Nat → Bool) {n k : Nat} (hk : k < n) : (bls g n)[k]? = some (.bool (g k)) := by simp [bls, List.getElem?_range hk]
theorem bls_false (n : Nat) : madeA [AV.bool false] n = bls (fun _ => false) n := by
  rw [made1]; unfold bls
  apply List.ext_getElem
  · simp
  · intro i h1 h2; simp
theorem bls_set {g : Nat → Bool} {n k : Nat} : (bls g n).set k (.bool true) = bls (fun j => j == k || g j) n := by
  apply List.ext_getElem
  · simp [bls]
  · intro i h1 h2
    rw [List.getElem_set]
    simp only [bls, List.getElem_map, List.getElem_range]
    by_cases e : k = i
    · subst e; simp
    · rw [if_neg e]; simp [Ne.symm e]
theorem Sl.readB {R : Type} {h : AHeap} {nx : Nat} {a : Option (Nat × Nat)} {n : Nat} {g : Nat → Bool} (s : Sl h nx a n 1 (bls g n)) {i : Nat} (hi : i < n) (K : AV → Option R) :
    (a.bind fun p => if 0 ≤ (i : Int) ∧ (i : Int) < ((n : Nat) : Int) then (ldA h p.1 (p.2 + Int.toNat (i : Int) * 1)).bind K else none) = K (.bool (g i)) :=
  s.read0 (by omega) (by omega) (by omega) (by rw [Int.toNat_natCast, Nat.mul_one]; exact bls_get g hi) K

def Torn (h : AHeap) (nx : Nat) (a : Option (Nat × Nat)) (n : Nat) (g : Nat → Bool) (w : Nat) (D : Nat → List Nat) : Prop :=
  ∃ P : Nat → Option (Nat × Nat) × Nat × Bool, Sl h nx a n 1 ((List.range n).map fun k => .slice (P k).1 (P k).2.1 (P k).2.2) ∧ ∀ k, k < n → g k = false → (P k).2.1 = w ∧ (D k).length = w ∧ Sl h nx (P k).1 w 1 (ints .u8 (nints (D k)))
theorem Torn.ext {h h' : AHeap} {nx nx' : Nat} {a : Option (Nat × Nat)} {n : Nat} {g : Nat → Bool} {w : Nat} {D : Nat → List Nat} (t : Torn h nx a n g w D) (x : Ext h nx h' nx') : Torn h' nx' a n g w D := by
  obtain ⟨P, s, k⟩ := t
  exact ⟨P, s.ext x, fun i hi hg => ⟨(k i hi hg).1, (k i hi hg).2.1, (k i hi hg).2.2.ext x⟩⟩
theorem Torn.of {h : AHeap} {nx : Nat} {a : Option (Nat × Nat)} {n : Nat} {M : List (List Nat)} {w : Nat} (m : Mat h nx .u8 a M w) (hn : M.length = n) (g : Nat → Bool) : Torn h nx a n g w (fun k => M.getD k []) := by
  subst hn
  obtain ⟨qs, r, s⟩ := m
  refine ⟨fun k => ((qs.getD k (none, false)).1, w, (qs.getD k (none, false)).2), ?_, fun k hk _ => ⟨rfl, ?_⟩⟩
  · have : (List.range M.length).map (fun k => AV.slice (qs.getD k (none, false)).1 w (qs.getD k (none, false)).2) = qs.map (rcell w) := by
      apply List.ext_getElem
      · simp [r.length]
      · intro i h1 h2
        have : i < qs.length := by simpa using h2
        simp [rcell, List.getElem?_eq_getElem this]
    rw [this]; exact s
  · obtain ⟨q, e1, e2, e3⟩ := r.get hk
    simp only [List.getD, e1, List.getElem?_eq_getElem hk, Option.getD_some]
    exact ⟨e2, e3⟩
theorem cells_get {P : Nat → Option (Nat × Nat) × Nat × Bool} {n k : Nat} (hk : k < n) : ((List.range n).map fun k => AV.slice (P k).1 (P k).2.1 (P k).2.2)[k]? = some (.slice (P k).1 (P k).2.1 (P k).2.2) := by
  simp [List.getElem?_range hk]
theorem Sl.readP {R : Type} {h : AHeap} {nx : Nat} {a : Option (Nat × Nat)} {n : Nat} {P : Nat → Option (Nat × Nat) × Nat × Bool} (s : Sl h nx a n 1 ((List.range n).map fun k => AV.slice (P k).1 (P k).2.1 (P k).2.2)) {i : Nat} (hi : i < n) (K : AV → Option R) :
    (a.bind fun p => if 0 ≤ (i : Int) ∧ (i : Int) < ((n : Nat) : Int) then (ldA h p.1 (p.2 + Int.toNat (i : Int) * 1)).bind K else none) = K (.slice (P i).1 (P i).2.1 (P i).2.2) :=
  s.read0 (by omega) (by omega) (by omega) (by rw [Int.toNat_natCast, Nat.mul_one]; exact cells_get hi) K

/-- Those that are not lost. -/
def kept (g : Nat → Bool) (n : Nat) : List Nat := (List.range n).filter fun k => !g k
theorem kept_succ (g : Nat → Bool) (n : Nat) : kept g (n + 1) = if g n then kept g n else kept g n ++ [n] := by
  unfold kept
  rw [List.range_succ, List.filter_append]
  by_cases h : g n = true
  · simp [h]
  · simp [h]
theorem kept_le (g : Nat → Bool) (n : Nat) : (kept g n).length ≤ n := by
  have := List.length_filter_le (fun k => !g k) (List.range n)
  simpa [kept] using this
theorem kept_mem {g : Nat → Bool} {n k : Nat} (h : k ∈ kept g n) : k < n ∧ g k = false := by
  obtain ⟨h1, h2⟩ := List.mem_filter.1 h
  exact ⟨List.mem_range.1 h1, by simpa using h2⟩

theorem left_loop (call : YldF → CallF) (lf : Nat) {a ga : Option (Nat × Nat)} (c gc : Bool) {n : Nat} (hn : n ≤ 256) {g : Nat → Bool} {P : Nat → Option (Nat × Nat) × Nat × Bool} {h0 : AHeap} {n0 : Nat} (s : Sl h0 n0 a n 1 ((List.range n).map fun k => AV.slice (P k).1 (P k).2.1 (P k).2.2)) (sg : Sl h0 n0 ga n 1 (bls g n)) (m : Nat) :
    ∀ (f i : Nat) (oa : Option (Nat × Nat)) (oc : Bool) (h : AHeap) (nx : Nat), i + m = n → m < f → Ext h0 n0 h nx → OwnRows (fun k r => r = [AV.slice (P k).1 (P k).2.1 (P k).2.2]) h nx oa 1 (kept g i) → (∀ i, ownOf oa i → n0 ≤ i) →
    ∃ oa' oc' h' nx', F43_L1 call Y0 lf f ga n gc oa (kept g i).length oc a n c ((n : Nat) : Int) (i : Int) h nx = some (.slice oa' (kept g n).length oc', h', nx') ∧ Ext h0 n0 h' nx' ∧ OwnRows (fun k r => r = [AV.slice (P k).1 (P k).2.1 (P k).2.2]) h' nx' oa' 1 (kept g n) := by
  induction m with
  | zero =>
    intro f i oa oc h nx e hf x o lo
    obtain ⟨f, rfl⟩ : ∃ m, f = m + 1 := ⟨f - 1, by omega⟩
    obtain rfl : i = n := by omega
    rw [F43_L1_eq, if_neg (by simp)]
    exact ⟨oa, oc, h, _, rfl, x.le (by omega), o.go (D := fun _ => False) ⟨by omega, fun _ _ _ => rfl⟩ (fun _ _ q => q) (fun _ _ q => q)⟩
  | succ m ih =>
    intro f i oa oc h nx e hf x o lo
    obtain ⟨f, rfl⟩ : ∃ m, f = m + 1 := ⟨f - 1, by omega⟩
    have hi : i < n := by omega
    have y := x.1
    rw [F43_L1_eq, if_pos (by simpa using hi), (s.ext x).readP hi]
    simp only [mst_]
    rw [(sg.ext x).readB hi]
    simp only [mst_]
    have ks := kept_succ g i
    by_cases hg : g i = true
    · rw [if_pos hg] at ks
      rw [hg, if_not_true', wsucc (by omega), ← ks]
      exact ih f (i + 1) oa oc h (nx + 13) (by omega) (by omega) (x.le (by omega)) (by rw [ks]; exact o.go (D := fun _ => False) ⟨by omega, fun _ _ _ => rfl⟩ (fun _ _ q => q) (fun _ _ q => q)) lo
    · have hg : g i = false := by simpa using hg
      rw [if_neg (by simp [hg])] at ks
      have kl := kept_le g i
      obtain ⟨e, s1, s2, s3, s4, s5, s6, s7, s8, _⟩ := o.pushE x lo oc (bytes := 24) (id := nx + 13) (id2 := nx + 14) (x := i) (r := [AV.slice (P i).1 (P i).2.1 (P i).2.2]) rfl rfl (growOk_of (by omega) (by omega)) (by omega) (by omega)
      rw [hg, if_not_false', s1, some_bind, s2, some_bind, s4, wsucc (by omega), show (kept g i).length + 1 = (kept g (i + 1)).length from by rw [ks]; simp]
      exact ih f (i + 1) e.a e.c _ (nx + 18) (by omega) (by omega) (s7.le (by omega)) (by rw [ks]; exact s5.go (D := fun _ => False) ⟨by omega, fun _ _ _ => rfl⟩ (fun _ _ q => q) (fun _ _ q => q)) (fun j hj => by have := s8 j hj; omega)

theorem left_spec {f : Nat} (hf : 300 ≤ f) {a ga : Option (Nat × Nat)} (c gc : Bool) {n w : Nat} (hn : n ≤ 256) {g : Nat → Bool} {D : Nat → List Nat} {h : AHeap} {nx : Nat} (t : Torn h nx a n g w D) (sg : Sl h nx ga n 1 (bls g n)) :
    ∃ oa oc h' nx', callP Try.prog keepT f Y0 43 [.slice a n c, .slice ga n gc] h nx = some (.slice oa (kept g n).length oc, h', nx') ∧ Ext h nx h' nx' ∧ Mat h' nx' .u8 oa ((kept g n).map D) w := by
  obtain ⟨f, rfl⟩ : ∃ m, f = m + 1 := ⟨f - 1, by omega⟩
  obtain ⟨P, s, k⟩ := t
  obtain ⟨oa, oc, h', nx', e', x', o'⟩ := left_loop (callP Try.prog keepT f) f c gc hn s sg n f 0 none false h (nx + 5) (by omega) (by omega) ⟨by omega, fun _ _ => rfl⟩ (OwnRows.nil _ _ _ _) (fun i hi => by obtain ⟨o, ho⟩ := hi; cases ho)
  rw [show ((0 : Nat) : Int) = 0 from rfl] at e'
  rw [F43_eq]
  refine ⟨oa, oc, h', nx', e', x', o'.mat fun i hi r hr => ?_⟩
  obtain ⟨h1, h2⟩ := kept_mem hi
  obtain ⟨k1, k2, k3⟩ := k i h1 h2
  exact ⟨((P i).1, (P i).2.2), by rw [hr, k1]; rfl, k2, k3.ext x'⟩

end Go.Proofs.Ytalfcokiooaliaa.T

namespace Go.Proofs.Ytalfcokiooaliaa.T
open Go Go.RowKit Go.Proofs

/-! ### the columns that one builds -/
def outCells (w n : Nat) (ok : Nat → Bool) (q : Nat → Rw) : List AV := (List.range n).map fun k => if ok k then rcell w (q k) else .slice none 0 false
theorem outCells_len (w n : Nat) (ok : Nat → Bool) (q : Nat → Rw) : (outCells w n ok q).length = n := by simp [outCells]
theorem outCells_get {w n : Nat} {ok : Nat → Bool} {q : Nat → Rw} {k : Nat} (hk : k < n) (h : ok k = true) : (outCells w n ok q)[k]? = some (rcell w (q k)) := by
  simp [outCells, List.getElem?_range hk, h]
theorem outCells_set {w n : Nat} {ok : Nat → Bool} {q : Nat → Rw} {k : Nat} {r : Rw} : (outCells w n ok q).set k (rcell w r) = outCells w n (fun j => j == k || ok j) (fun j => if j = k then r else q j) := by
  apply List.ext_getElem
  · simp [outCells]
  · intro i h1 h2
    rw [List.getElem_set]
    simp only [outCells, List.getElem_map, List.getElem_range]
    by_cases e : k = i
    · subst e; simp
    · rw [if_neg e]; simp [Ne.symm e]
theorem outCells_zero (w n : Nat) (q : Nat → Rw) : madeA [AV.slice none 0 false] n = outCells w n (fun _ => false) q := by
  rw [made1]
  apply List.ext_getElem
  · simp [outCells]
  · intro i h1 h2; simp [outCells]
theorem outCells_congr {w n : Nat} {ok ok' : Nat → Bool} {q : Nat → Rw} (e : ∀ k, k < n → ok k = ok' k) : outCells w n ok q = outCells w n ok' q :=
  List.map_congr_left fun k hk => by rw [e k (List.mem_range.1 hk)]

structure Bld (h : AHeap) (lo nx ob w n : Nat) (ok : Nat → Bool) (q : Nat → Rw) (D : Nat → List Nat) (X : Nat → Prop) : Prop where
  hd : h ob = some ⟨outCells w n ok q, 1, true⟩
  b0 : lo ≤ ob
  b1 : ob < nx
  bx : ¬ X ob
  row : ∀ k, k < n → ok k = true → RowOwn h lo nx .u8 w (q k) (D k)
  rx : ∀ k, k < n → ok k = true → ∀ id, (q k).1 = some (id, 0) → id ≠ ob ∧ ¬ X id
  ds : ∀ k j, k < n → j < n → ok k = true → ok j = true → k ≠ j → ∀ id, (q k).1 = some (id, 0) → (q j).1 ≠ some (id, 0)

variable {h h' : AHeap} {lo nx nx' ob w n : Nat} {ok : Nat → Bool} {q : Nat → Rw} {D : Nat → List Nat} {X X' : Nat → Prop}

theorem RowOwn.in {k : IntKind} {r : List Nat} {p : Rw} (a : RowOwn h lo nx k w p r) {id o : Nat} (e : p.1 = some (id, o)) : lo ≤ id ∧ id < nx := by
  rcases a.2 with ⟨z, _⟩ | ⟨i, z, l0, l1, _⟩
  · rw [z] at e; cases e
  · rw [z] at e
    have := congrArg Prod.fst (Option.some.inj e)
    simp only at this; omega

theorem Bld.go {Y : Nat → Prop} (o : Bld h lo nx ob w n ok q D X) (f : Frm Y h nx h' nx') (d : ∀ i, i < nx → Y i → X i) (g : ∀ i, i < nx → X' i → X i) : Bld h' lo nx' ob w n ok q D X' where
  hd := (f.2 ob o.b1 fun y => o.bx (d _ o.b1 y)).trans o.hd
  b0 := o.b0
  b1 := by have := o.b1; have := f.1; omega
  bx := fun x => o.bx (g _ o.b1 x)
  row := fun k hk hok => (o.row k hk hok).keep f.1 fun id e hlt => f.2 id hlt fun y => (o.rx k hk hok id e).2 (d _ hlt y)
  rx := fun k hk hok id e => ⟨(o.rx k hk hok id e).1, fun x => (o.rx k hk hok id e).2 (g _ ((o.row k hk hok).in e).2 x)⟩
  ds := o.ds
theorem Bld.ext (o : Bld h lo nx ob w n ok q D X) (x : Ext h nx h' nx') (g : ∀ i, i < nx → X' i → X i) : Bld h' lo nx' ob w n ok q D X' :=
  o.go (x.fr fun _ => False) (fun _ _ q => q.elim) g
theorem Bld.congr {ok' : Nat → Bool} {D' : Nat → List Nat} (o : Bld h lo nx ob w n ok q D X) (e : ∀ k, k < n → ok k = ok' k) (f : ∀ k, k < n → ok' k = true → D k = D' k) : Bld h lo nx ob w n ok' q D' X where
  hd := by rw [← outCells_congr e]; exact o.hd
  b0 := o.b0
  b1 := o.b1
  bx := o.bx
  row := fun k hk hok => by rw [← f k hk hok]; exact o.row k hk (by rw [e k hk]; exact hok)
  rx := fun k hk hok => o.rx k hk (by rw [e k hk]; exact hok)
  ds := fun k j hk hj h1 h2 => o.ds k j hk hj (by rw [e k hk]; exact h1) (by rw [e j hj]; exact h2)
theorem Bld.new (hob : h ob = some ⟨outCells w n (fun _ => false) q, 1, true⟩) (b0 : lo ≤ ob) (b1 : ob < nx) (bx : ¬ X ob) (D : Nat → List Nat) : Bld h lo nx ob w n (fun _ => false) q D X :=
  ⟨hob, b0, b1, bx, fun _ _ e => (by cases e), fun _ _ e => (by cases e), fun _ _ _ _ e => (by cases e)⟩





/-- A column of one's own is set. -/
theorem Bld.set (o : Bld h lo nx ob w n ok q D X) {k : Nat} (hk : k < n) {r : Rw} (hr : RowOwn h lo nx .u8 w r (D k)) (hx : ∀ id, r.1 = some (id, 0) → id ≠ ob ∧ ¬ X id ∧ ∀ j, j < n → ok j = true → j ≠ k → (q j).1 ≠ some (id, 0)) :
    (∀ {R : Type} (K : ABlk → Option R), (stA h ob (0 + Int.toNat (k : Int) * 1) (.slice r.1 w r.2) 1).bind K = K ⟨outCells w n (fun j => j == k || ok j) (fun j => if j = k then r else q j), 1, true⟩) ∧
    Bld (h.put ob (some ⟨outCells w n (fun j => j == k || ok j) (fun j => if j = k then r else q j), 1, true⟩)) lo nx ob w n (fun j => j == k || ok j) (fun j => if j = k then r else q j) D X := by
  have okd : ∀ j, (j == k || ok j) = true → j = k ∨ (j ≠ k ∧ ok j = true) := fun j hj => by
    by_cases e : j = k
    · exact .inl e
    · right; simpa [e] using hj
  refine ⟨fun K => ?_, ?_⟩
  · rw [show 0 + Int.toNat (k : Int) * 1 = k from by omega]
    exact st_to o.hd rfl (by rw [outCells_len]; exact hk) outCells_set K
  · refine ⟨put_same _ _ _, o.b0, o.b1, o.bx, ?_, ?_, ?_⟩
    · intro j hj hok
      rcases okd j hok with rfl | ⟨e, hok⟩
      · simp only [if_true]
        exact hr.keep (Nat.le_refl _) fun id e _ => put_ne (hx id e).1
      · simp only [if_neg e]
        exact (o.row j hj hok).keep (Nat.le_refl _) fun id e _ => put_ne (o.rx j hj hok id e).1
    · intro j hj hok id e1
      rcases okd j hok with rfl | ⟨e, hok⟩
      · simp only [if_true] at e1
        exact ⟨(hx id e1).1, (hx id e1).2.1⟩
      · simp only [if_neg e] at e1
        exact o.rx j hj hok id e1
    · intro i j hi hj h1 h2 hij id e1 e2
      rcases okd i h1 with rfl | ⟨ei, h3⟩
      · simp only [if_true] at e1
        rcases okd j h2 with rfl | ⟨ej, h2⟩
        · exact hij rfl
        · simp only [if_neg ej] at e2
          exact (hx id e1).2.2 j hj h2 ej e2
      · simp only [if_neg ei] at e1
        rcases okd j h2 with rfl | ⟨ej, h2⟩
        · simp only [if_true] at e2
          exact (hx id e2).2.2 i hi h3 ei e1
        · simp only [if_neg ej] at e2
          exact o.ds i j hi hj h3 h2 hij id e1 e2
/-- A column is changed in place. -/
theorem Bld.chg (o : Bld h lo nx ob w n ok q D X) {k : Nat} (hk : k < n) (hok : ok k = true) {id : Nat} (e : (q k).1 = some (id, 0)) {r : List Nat} (hr : r.length = w) (l : nx ≤ nx') (hb : h' id = some ⟨ints .u8 (nints r), 1, true⟩) (hk' : ∀ j, j < nx → j ≠ id → h' j = h j) : Bld h' lo nx' ob w n ok q (fun j => if j = k then r else D j) X := by
  have l1 := (o.row k hk hok).in e
  refine ⟨(hk' ob o.b1 fun e1 => (o.rx k hk hok id e).1 e1.symm).trans o.hd, o.b0, by have := o.b1; omega, o.bx, ?_, o.rx, o.ds⟩
  intro j hj okj
  by_cases ej : j = k
  · subst ej; simp only [if_true]; exact ⟨hr, .inr ⟨id, e, l1.1, by omega, hb⟩⟩
  · simp only [if_neg ej]
    refine (o.row j hj okj).keep l fun id' e' hlt => hk' id' hlt ?_
    rintro rfl
    exact o.ds j k hj hk okj hok ej _ e' e
/-- The first columns. -/
theorem Bld.cut (o : Bld h lo nx ob w n ok q D X) {m : Nat} (hm : m ≤ n) (hok : ∀ k, k < m → ok k = true) (c : Bool) : ∃ p cc, cutA h (some (ob, 0)) n c 1 none (some (.int .i64 (m : Int))) none = some (p, m, cc) ∧ Mat h nx .u8 p ((List.range m).map D) w := by
  have s : Sl h nx (some (ob, 0)) n 1 (outCells w n ok q) := Sl.ofBlk o.hd (by rw [outCells_len]; omega) o.b1
  obtain ⟨c1, c2, _⟩ := s.cut c (lo := 0) (hi := m) (l := none) (r := some (.int .i64 (m : Int))) (by omega) hm bound_none (bound_some hm)
  rw [Nat.sub_zero] at c1 c2
  refine ⟨_, _, c1, (List.range m).map q, RowsAt_map fun k hk => ?_, ?_⟩
  · have hk := List.mem_range.1 hk
    have := o.row k (by omega) (hok k hk)
    exact ⟨this.1, this.sl⟩
  · have : ((outCells w n ok q).drop (0 * 1)).take (m * 1) = ((List.range m).map q).map (rcell w) := by
      apply List.ext_getElem
      · simp [outCells]; omega
      · intro i h1 h2
        have hi : i < m := by simpa using h2
        simp [outCells, hok i hi]
    rw [this] at c2
    rw [List.length_map, List.length_range]
    exact c2
theorem Bld.rd {R : Type} (o : Bld h lo nx ob w n ok q D X) {k : Nat} (hk : k < n) (hok : ok k = true) (K : AV → Option R) : (ldA h ob (0 + Int.toNat (k : Int) * 1)).bind K = K (.slice (q k).1 w (q k).2) := by
  rw [show 0 + Int.toNat (k : Int) * 1 = k from by omega]
  exact ld_at o.hd (outCells_get hk hok) K
theorem Bld.all (o : Bld h lo nx ob w n ok q D X) (hok : ∀ k, k < n → ok k = true) : Mat h nx .u8 (some (ob, 0)) ((List.range n).map D) w := by
  refine ⟨(List.range n).map q, RowsAt_map fun k hk => ?_, ?_⟩
  · have hk := List.mem_range.1 hk
    have := o.row k hk (hok k hk)
    exact ⟨this.1, this.sl⟩
  · rw [List.length_map, List.length_range]
    have : outCells w n ok q = ((List.range n).map q).map (rcell w) := by
      unfold outCells; rw [List.map_map]
      exact List.map_congr_left fun k hk => by rw [hok k (List.mem_range.1 hk)]; rfl
    rw [← this]
    exact Sl.ofBlk o.hd (by rw [outCells_len]; omega) o.b1

/-! ### rows in blocks of one's own -/
def BlkRow (kd : IntKind) (h : AHeap) (nx : Nat) (A : Nat → Prop) (w : Nat) (row : List Nat) (r : List AV) : Prop :=
  ∃ id c, r = [.slice (some (id, 0)) w c] ∧ row.length = w ∧ id < nx ∧ ¬ A id ∧ h id = some ⟨ints kd (nints row), 1, true⟩
theorem BlkRow.go {kd : IntKind} {A A' Y : Nat → Prop} {row : List Nat} {r : List AV} (b : BlkRow kd h nx A w row r) (f : Frm Y h nx h' nx') (d : ∀ i, i < nx → Y i → A i) (g : ∀ i, i < nx → A' i → A i) : BlkRow kd h' nx' A' w row r := by
  obtain ⟨id, c, e1, e2, e3, e4, e5⟩ := b
  exact ⟨id, c, e1, e2, by have := f.1; omega, fun a => e4 (g _ e3 a), (f.2 id e3 fun y => e4 (d _ e3 y)).trans e5⟩
theorem BlkRow.rw {kd : IntKind} {A : Nat → Prop} {row : List Nat} {r : List AV} (b : BlkRow kd h nx A w row r) : ∃ q : Rw, r = [rcell w q] ∧ row.length = w ∧ Sl h nx q.1 w 1 (ints kd (nints row)) := by
  obtain ⟨id, c, e1, e2, e3, e4, e5⟩ := b
  exact ⟨(some (id, 0), c), e1, e2, Sl.ofBlk e5 (by simp [nints_len, e2]) e3⟩

end Go.Proofs.Ytalfcokiooaliaa.T

namespace Go.Proofs.Ytalfcokiooaliaa.T
open Go Go.RowKit Go.Proofs

/-! ### par.fill: the matrix and what is wanted -/
theorem OwnRows.lt {α : Type} {Q : α → List AV → Prop} {h : AHeap} {nx es : Nat} {a : Option (Nat × Nat)} {l : List α} (o : OwnRows Q h nx a es l) : ∀ i, ownOf a i → i < nx := by
  obtain ⟨_, _, _, s⟩ := o
  intro i ⟨z, hz⟩
  rcases s with ⟨e, _⟩ | ⟨b, e, hb, _⟩
  · rw [e] at hz; cases hz
  · rw [e] at hz
    have := congrArg Prod.fst (Option.some.inj hz)
    simp only at this; omega

def avF (n0 : Nat) (ma wa : Option (Nat × Nat)) : Nat → Prop := fun i => i < n0 ∨ ownOf ma i ∨ ownOf wa i
def rowL (us hs : List Nat) (b a : Nat) : List Nat := (List.range a).map fun i => facF us hs b i
theorem rowL_succ (us hs : List Nat) (b a : Nat) : rowL us hs b (a + 1) = rowL us hs b a ++ [facF us hs b a] := by simp [rowL, List.range_succ]
theorem rowL_len (us hs : List Nat) (b a : Nat) : (rowL us hs b a).length = a := by simp [rowL]
def msL (us hs : List Nat) (t b : Nat) : List (List Nat) := (List.range b).map fun c => rowL us hs c t
theorem msL_succ (us hs : List Nat) (t b : Nat) : msL us hs t (b + 1) = msL us hs t b ++ [rowL us hs b t] := by simp [msL, List.range_succ]
theorem msL_len (us hs : List Nat) (t b : Nat) : (msL us hs t b).length = b := by simp [msL]
def wsL (g : Nat → Bool) (M : List (List Nat)) (w : Nat) (us : List Nat) (b : Nat) : List (List Nat) := (List.range b).map fun c => want g M w (us.getD c 0)
theorem wsL_succ (g : Nat → Bool) (M : List (List Nat)) (w : Nat) (us : List Nat) (b : Nat) : wsL g M w us (b + 1) = wsL g M w us b ++ [want g M w (us.getD b 0)] := by simp [wsL, List.range_succ]
theorem wsL_len (g : Nat → Bool) (M : List (List Nat)) (w : Nat) (us : List Nat) (b : Nat) : (wsL g M w us b).length = b := by simp [wsL]
theorem facF_eq (us hs : List Nat) (b a : Nat) : facF us hs b a = fac (us.getD b 0) (hs.getD a 0) := rfl

theorem frow_loop {k0 : Nat} (hk0 : 40 ≤ k0) (lf n0 : Nat) {us hs : List Nat} {t b j : Nat} (hh : hs.length = t) (ht : t ≤ 16) (h12 : ∀ i ∈ hs, i ≤ 256) (hj : us.getD b 0 = j) (hj16 : j ≤ 16) (X0 X8 X10 X24 : Option (Nat × Nat)) (N0 N8 N10 N24 : Nat) (C0 C8 C10 C24 : Bool) (x1 x25 x26 : Int) {ha : Option (Nat × Nat)} (hc : Bool) {h00 : AHeap} {n00 : Nat} (sh : Sl h00 n00 ha t 1 (ints .i64 (nints hs))) {hO : AHeap} {nO : Nat} (xO : Ext h00 n00 hO nO) (m : Nat) :
    ∀ (f a : Nat) (ra : Option (Nat × Nat)) (rc : Bool) (h : AHeap) (nx : Nat), a + m = t → m < f → Ext hO nO h nx → OwnSl h nO nx ra a 1 (ints .i64 (nints (rowL us hs b a))) →
    ∃ (f' : Nat) (ra' : Option (Nat × Nat)) (rc' : Bool) (h' : AHeap) (nx' : Nat), F49_L2 (callP Try.prog keepT k0) Y0 lf n0 f X0 N0 C0 x1 ha t hc X8 N8 C8 X10 N10 C10 (j : Int) ra a rc X24 N24 C24 x25 x26 ha t hc ((t : Nat) : Int) (a : Int) h nx =
        F49_L2 (callP Try.prog keepT k0) Y0 lf n0 (f' + 1) X0 N0 C0 x1 ha t hc X8 N8 C8 X10 N10 C10 (j : Int) ra' t rc' X24 N24 C24 x25 x26 ha t hc ((t : Nat) : Int) (t : Int) h' nx' ∧ Ext hO nO h' nx' ∧ OwnSl h' nO nx' ra' t 1 (ints .i64 (nints (rowL us hs b t))) := by
  induction m with
  | zero =>
    intro f a ra rc h nx e hf x o
    obtain ⟨f, rfl⟩ : ∃ m, f = m + 1 := ⟨f - 1, by omega⟩
    obtain rfl : a = t := by omega
    exact ⟨f, ra, rc, h, nx, rfl, x, o⟩
  | succ m ih =>
    intro f a ra rc h nx e hf x o
    obtain ⟨f, rfl⟩ : ∃ m, f = m + 1 := ⟨f - 1, by omega⟩
    have hi : a < t := by omega
    have y := x.1
    have hhi : hs[a]'(by omega) ≤ 256 := h12 _ (List.getElem_mem _)
    obtain ⟨h1, n1, e1, x1⟩ := fac_spec (f := k0) hk0 j (hs[a]'(by omega)) hj16 hhi h (nx + 11)
    have y1 := x1.1
    have o1 : OwnSl h1 nO nx ra a 1 (ints .i64 (nints (rowL us hs b a))) := o.ext ⟨Nat.le_refl _, fun i hi => x1.2 i (by omega)⟩
    obtain ⟨e, f1, f2, f3, f4⟩ := o1.push (c := rc) (bytes := 8) (id := nx + 8) (id2 := nx + 9) (ws := [.int .i64 ((fac j (hs[a]'(by omega)) : Nat) : Int)]) rfl (growOk_of (by omega) (by omega)) (by omega) (by omega) (by omega)
    rw [F49_L2_eq, if_pos (by simpa using hi), ((sh.ext (xO.trans x))).readN hh (by omega)]
    simp only [mst_]
    rw [e1]
    simp only [mst_]
    rw [src_lit1, some_bind, f1, some_bind, f2, wsucc (by omega)]
    refine ih f (a + 1) e.a e.c _ (n1 + 2) (by omega) (by omega) ⟨by omega, fun i hi => ?_⟩ ?_
    · rw [f4.2 i hi, x1.2 i (by omega), x.2 i hi]
    · have : ints .i64 (nints (rowL us hs b (a + 1))) = ints .i64 (nints (rowL us hs b a)) ++ [.int .i64 ((fac j (hs[a]'(by omega)) : Nat) : Int)] := by
        rw [rowL_succ, facF_eq, hj, getD_at (show a < hs.length by omega)]; simp [ints, nints]
      rw [this]
      exact f3.le (by omega)

theorem fill_first {k0 : Nat} (hk0 : 5010 ≤ k0) (lf : Nat) (hlf : 100 ≤ lf) {g : Nat → Bool} {M : List (List Nat)} {w n t N : Nat} (hn : M.length = n) (hn1 : 1 ≤ n) (hn12 : n ≤ 12) (hN : N ≤ 256) (hM : ∀ r ∈ M, r.length = w) (sM : SmallM M) (hw : w ≤ 4096)
    {us hs : List Nat} (hu : us.length = t) (hh : hs.length = t) (ht1 : 1 ≤ t) (ht : t ≤ 16) (h12 : ∀ i ∈ hs, i ≤ 256) (u16 : ∀ u ∈ us, u ≤ 16) (uN : ∀ u ∈ us, n + u < N)
    {ha ua : Option (Nat × Nat)} (hc uc oc : Bool) {h0 : AHeap} {n0 lo ob : Nat} {ok : Nat → Bool} {q : Nat → Rw} {D : Nat → List Nat} {X : Nat → Prop} (B : Bld h0 lo n0 ob w N ok q D X) (ok1 : ∀ k, k < n → ok k = true) (ok2 : ∀ u ∈ us, ok (n + u) = true)
    (D1 : ∀ k, k < n → D k = if g k then List.replicate w 0 else M.getD k []) (D2 : ∀ u ∈ us, D (n + u) = enc M u w) (sh : Sl h0 n0 ha t 1 (ints .i64 (nints hs))) (su : Sl h0 n0 ua t 1 (ints .i64 (nints us))) (m : Nat) :
    ∀ (f b : Nat) (ma wa : Option (Nat × Nat)) (mc wc : Bool) (h : AHeap) (nx : Nat), b + m = t → m < f → Ext h0 n0 h nx → OwnRows (BlkRow .i64 h nx (avF n0 ma wa) t) h nx ma 1 (msL us hs t b) → OwnRows (BlkRow .u8 h nx (avF n0 ma wa) w) h nx wa 1 (wsL g M w us b) →
      (∀ i, ownOf ma i → n0 ≤ i) → (∀ i, ownOf wa i → n0 ≤ i) → (∀ i, ownOf ma i → ¬ ownOf wa i) →
    ∃ (f' : Nat) (ma' wa' : Option (Nat × Nat)) (mc' wc' : Bool) (h' : AHeap) (nx' : Nat), F49_L1 (callP Try.prog keepT k0) Y0 lf f (some (ob, 0)) N oc (n : Int) ha t hc ma b mc wa b wc ua t uc ((t : Nat) : Int) (b : Int) h nx =
        F49_L1 (callP Try.prog keepT k0) Y0 lf (f' + 1) (some (ob, 0)) N oc (n : Int) ha t hc ma' t mc' wa' t wc' ua t uc ((t : Nat) : Int) (t : Int) h' nx' ∧ Ext h0 n0 h' nx' ∧ OwnRows (BlkRow .i64 h' nx' (avF n0 ma' wa') t) h' nx' ma' 1 (msL us hs t t) ∧ OwnRows (BlkRow .u8 h' nx' (avF n0 ma' wa') w) h' nx' wa' 1 (wsL g M w us t) ∧ (∀ i, ownOf wa' i → n0 ≤ i) := by
  induction m with
  | zero =>
    intro f b ma wa mc wc h nx e hf x om ow lm lw dj
    obtain ⟨f, rfl⟩ : ∃ m, f = m + 1 := ⟨f - 1, by omega⟩
    obtain rfl : b = t := by omega
    exact ⟨f, ma, wa, mc, wc, h, nx, rfl, x, om, ow, lw⟩
  | succ m ih =>
    intro f b ma wa mc wc h nx e hf x om ow lm lw dj
    obtain ⟨f, rfl⟩ : ∃ m, f = m + 1 := ⟨f - 1, by omega⟩
    have hi : b < t := by omega
    have y := x.1
    obtain ⟨j, hj⟩ : ∃ j, us.getD b 0 = j := ⟨_, rfl⟩
    have hju : us[b]'(by omega) = j := by rw [← hj, getD_at (by omega)]
    have jm : j ∈ us := by rw [← hju]; exact List.getElem_mem _
    have hj16 := u16 j jm
    have hjN := uN j jm
    -- the row
    obtain ⟨f', ra, rc, h1, n1, e1, x1, o1⟩ := frow_loop (k0 := k0) (by omega) lf f (us := us) (b := b) (j := j) hh ht h12 hj hj16 (some (ob, 0)) ma wa ua N b b t oc mc wc uc (n : Int) (t : Int) (b : Int) hc sh (x.le (show nx ≤ nx + 8 by omega)) t lf 0 none false h (nx + 8) (by omega) (by omega) (Ext.refl _ _) (OwnSl.nil _ _ _ _)
    rw [show ((0 : Nat) : Int) = 0 from rfl] at e1
    have y1 := x1.1
    obtain ⟨rid, rfl, r0, r1, rb⟩ : ∃ rid, ra = some (rid, 0) ∧ nx + 8 ≤ rid ∧ rid < n1 ∧ h1 rid = some ⟨ints .i64 (nints (rowL us hs b t)), 1, true⟩ := by
      rcases o1.2 with ⟨_, z⟩ | ⟨i, a1, a2, a3, a4⟩
      · omega
      · exact ⟨i, a1, a2, a3, a4⟩
    have xx1 : Ext h nx h1 n1 := ⟨by omega, fun i hi => x1.2 i (by omega)⟩
    have ltm := om.lt
    have ltw := ow.lt
    -- the row is pushed
    have om1 : OwnRows (BlkRow .i64 h1 n1 (avF n0 ma wa) t) h1 n1 ma 1 (msL us hs t b) := om.go (xx1.fr fun _ => False) (fun _ _ q => q) fun x r b => b.go (xx1.fr fun _ => False) (fun _ _ q => q.elim) (fun _ _ q => q)
    have ow1 : OwnRows (BlkRow .u8 h1 n1 (avF n0 ma wa) w) h1 n1 wa 1 (wsL g M w us b) := ow.go (xx1.fr fun _ => False) (fun _ _ q => q) fun x r b => b.go (xx1.fr fun _ => False) (fun _ _ q => q.elim) (fun _ _ q => q)
    have bml := msL_len us hs t b
    have bwl := wsL_len g M w us b
    obtain ⟨E, s1, s2, s3, s4, s5, s6, s7, s8, _⟩ := om1.pushE (x.trans xx1) lm mc (bytes := 24) (id := n1 + 3) (id2 := n1 + 4) (x := rowL us hs b t) (r := [.slice (some (rid, 0)) t rc]) rfl
      ⟨rid, rc, rfl, rowL_len _ _ _ _, r1, (by
        rintro (q | q | q)
        · omega
        · have := ltm _ q; omega
        · have := ltw _ q; omega), rb⟩ (growOk_of (by omega) (by omega)) (by omega) (by omega)
    rw [bml] at s2 s4
    generalize hH : (h1.put (n1 + 3) (some ⟨[AV.slice (some (rid, 0)) t rc], 1, true⟩)).puts E.sets = H at s5 s6 s7
    obtain ⟨Ea, hEa⟩ : ∃ z, z = E.a := ⟨_, rfl⟩
    rw [← hEa] at s3 s5 s8
    have om2 : OwnRows (BlkRow .i64 H (n1 + 4 + 1) (avF n0 Ea wa) t) H (n1 + 4 + 1) Ea 1 (msL us hs t (b + 1)) := by
      rw [msL_succ]
      refine s5.go (D := fun _ => False) ⟨Nat.le_refl _, fun _ _ _ => rfl⟩ (fun _ _ q => q) fun x r bb => bb.go s6 (fun i _ q => .inr (.inl q)) fun i hi q => ?_
      rcases q with q | q | q
      · exact .inl q
      · have := s8 i q; omega
      · exact .inr (.inr q)
    have ow2 : OwnRows (BlkRow .u8 H (n1 + 4 + 1) (avF n0 Ea wa) w) H (n1 + 4 + 1) wa 1 (wsL g M w us b) := by
      refine ow1.go s6 (fun i q z => dj i z q) fun x r bb => bb.go s6 (fun i _ q => .inr (.inl q)) fun i hi q => ?_
      rcases q with q | q | q
      · exact .inl q
      · have := s8 i q; omega
      · exact .inr (.inr q)
    -- the column
    have BH := B.ext s7 (X' := X) (fun _ _ q => q)
    obtain ⟨cp, cc, c1, c2⟩ := BH.cut (m := n) (by omega) ok1 oc
    have c2' : Mat H (n1 + 4 + 1) .u8 cp (holed g M w) w := by
      have : (List.range n).map D = holed g M w := by
        unfold holed; rw [hn]
        exact List.map_congr_left fun k hk => D1 k (List.mem_range.1 hk)
      rw [← this]; exact c2
    have hol := holed_len g M w
    obtain ⟨id, h2, n2, e2, i0, i1, ib, x2⟩ := enc_spec (f := k0) (by omega) j hj16 (M := holed g M w) (w := w) (by omega) (by omega) hw (holed_small sM) cc (c2'.ext (nx' := n1 + 12) ⟨by omega, fun _ _ => rfl⟩)
    rw [holed_len, hn] at e2
    have y2 := x2.1
    have B2 := BH.ext (X' := X) (x2.from (show n1 + 4 + 1 ≤ n1 + 12 by omega)) (fun _ _ q => q)
    have rw2 := B2.row (n + j) hjN (ok2 j jm)
    have hD2 := D2 j jm
    rw [hD2] at rw2
    have rlt : ∀ p, (q (n + j)).1 = some p → p.1 < n0 := fun p hp => ((B.row (n + j) hjN (ok2 j jm)).in (id := p.1) (o := p.2) hp).2
    have sy := s7.1
    obtain ⟨h3, n3, e3, l3, b3, k3⟩ := mix_spec (f := k0) (by omega) 1 (by omega) (d := enc (holed g M w) j w) (s := enc M j w) (enc_small _ _ _) (enc_small _ _ _) (n := w) hw (enc_len _ _ _) (enc_len _ _ _) (tid := id) true (q (n + j)).2 (fa := (q (n + j)).1) (h := h2) (nx := n2 + 8) (by omega)
      (fun p hp _ => by have := rlt p hp; omega) ib (rw2.sl.ext (nx' := n2 + 8) ⟨by omega, fun _ _ => rfl⟩)
    rw [show ((1 : Nat) : Int) = 1 from rfl] at e3
    change h3 id = some ⟨ints .u8 (nints (want g M w j)), 1, true⟩ at b3
    have x3 : Ext H (n1 + 4 + 1) h3 n3 := ⟨by omega, fun i hi => by rw [k3 i (by omega) (by omega), x2.2 i (by omega)]⟩
    -- what is wanted is pushed
    have om3 : OwnRows (BlkRow .i64 h3 n3 (avF n0 Ea wa) t) h3 n3 Ea 1 (msL us hs t (b + 1)) := om2.go (x3.fr fun _ => False) (fun _ _ q => q) fun x r b => b.go (x3.fr fun _ => False) (fun _ _ q => q.elim) (fun _ _ q => q)
    have ow3 : OwnRows (BlkRow .u8 h3 n3 (avF n0 Ea wa) w) h3 n3 wa 1 (wsL g M w us b) := ow2.go (x3.fr fun _ => False) (fun _ _ q => q) fun x r b => b.go (x3.fr fun _ => False) (fun _ _ q => q.elim) (fun _ _ q => q)
    obtain ⟨G, t1, t2, t3, t4, t5, t6, t7, t8, _⟩ := ow3.pushE (s7.trans x3) lw wc (bytes := 24) (id := n3 + 2) (id2 := n3 + 3) (x := want g M w j) (r := [.slice (some (id, 0)) w true]) rfl
      ⟨id, true, rfl, want_len _ _ _ _, by omega, (by
        rintro (q | q | q)
        · omega
        · have := s8 _ q; omega
        · have := ltw _ q; omega), b3⟩ (growOk_of (by omega) (by omega)) (by omega) (by omega)
    rw [bwl] at t2 t4
    obtain ⟨Ga, hGa⟩ : ∃ z, z = G.a := ⟨_, rfl⟩
    rw [← hGa] at t3 t5 t8
    have dj2 : ∀ i, ownOf Ea i → ¬ ownOf wa i := fun i q z => by have := s8 i q; have := ltw i z; omega
    generalize hH3 : (h3.put (n3 + 2) (some ⟨[AV.slice (some (id, 0)) w true], 1, true⟩)).puts G.sets = H3 at t5 t6 t7
    have om4 : OwnRows (BlkRow .i64 H3 (n3 + 7) (avF n0 Ea Ga) t) H3 (n3 + 7) Ea 1 (msL us hs t (b + 1)) := by
      refine om3.go (t6.le (by omega)) dj2 fun x r bb => bb.go (t6.le (by omega)) (fun i _ q => .inr (.inr q)) fun i hi q => ?_
      rcases q with q | q | q
      · exact .inl q
      · exact .inr (.inl q)
      · have := t8 i q; omega
    have ow4 : OwnRows (BlkRow .u8 H3 (n3 + 7) (avF n0 Ea Ga) w) H3 (n3 + 7) Ga 1 (wsL g M w us (b + 1)) := by
      rw [wsL_succ, hj]
      refine t5.go (D := fun _ => False) ⟨by omega, fun _ _ _ => rfl⟩ (fun _ _ q => q) fun x r bb => bb.go (t6.le (by omega)) (fun i _ q => .inr (.inr q)) fun i hi q => ?_
      rcases q with q | q | q
      · exact .inl q
      · exact .inr (.inl q)
      · have := t8 i q; omega
    rw [F49_L1_eq, if_pos (by simpa using hi), (su.ext x).readN hu (by omega)]
    simp only [mst_]
    rw [hju, e1, F49_L2_eq, if_neg (by simp)]
    dsimp only
    rw [s1, some_bind, s2, some_bind, hH, c1, some_bind]
    dsimp only
    rw [e2]
    simp only [mst_]
    rw [if_pos ⟨by rw [wA (by omega) (by omega)]; omega, by rw [wA (by omega) (by omega)]; omega⟩, show wrapA .i64 ((n : Int) + (j : Int)) = ((n + j : Nat) : Int) from by rw [wA (by omega) (by omega)]; omega, B2.rd hjN (ok2 j jm)]
    simp only [mst_]
    rw [e3]
    simp only [mst_]
    rw [t1, some_bind, t2, some_bind, hH3, s4, t4, wsucc (by omega), ← hEa, ← hGa]
    exact ih f (b + 1) Ea Ga E.c G.c H3 (n3 + 7) (by omega) (by omega) (t7.le (by omega)) om4 ow4 (fun i q => by have := s8 i q; omega) (fun i q => by have := t8 i q; omega) (fun i q z => by have := s8 i q; have := t8 i z; omega)

end Go.Proofs.Ytalfcokiooaliaa.T

namespace Go.Proofs.Ytalfcokiooaliaa.T
open Go Go.RowKit Go.Proofs

/-! ### par.fill: the holes -/
theorem invF_congr {t : Nat} {m m' : Fm} (e : ∀ i j, i < t → j < t → m i j = m' i j) {i k : Nat} (hi : i < t) (hk : k < t) : invF t m i k = invF t m' i k := by
  unfold invF
  refine (red_agree (n := t) (C := t + t) t 0 0 (aug t m) (aug t m') (by omega) fun i j hi hj => ?_).2 i (t + k) hi (by omega)
  by_cases h : j < t
  · rw [aug_l h, aug_l h, e i j hi h]
  · unfold aug; rw [if_neg h, if_neg h]
theorem ent_msL {us hs : List Nat} {t i j : Nat} (hi : i < t) (hj : j < t) : ent (msL us hs t t) i j = facF us hs i j := by
  simp [ent, msL, rowL, List.getD, List.getElem?_range hi, List.getElem?_range hj]

def fY (lo n0 : Nat) (X : Nat → Prop) : Nat → Prop := fun i => lo ≤ i ∧ i < n0 ∧ ¬ X i

theorem hole_loop {k0 : Nat} (hk0 : 5010 ≤ k0) (lf L0 : Nat) {w n t N : Nat} (hw : w ≤ 4096) (hN : N ≤ 256) (ht : t ≤ 16) {Rm : Fm} (hR : F8 Rm) {W : Nat → List Nat} (hWl : ∀ c, (W c).length = w) (hWs : ∀ c, Small (W c)) {a k : Nat} (ha' : a < t) (hk : k < N)
    {ok : Nat → Bool} {q : Nat → Rw} {Dc : Nat → List Nat} {X : Nat → Prop} (okk : ok k = true) {tid : Nat} {ob lo n0 : Nat} (qk : (q k).1 = some (tid, 0)) (t0 : lo ≤ tid) (t1 : tid < n0) (tX : ¬ X tid) (oc : Bool)
    {h1 : AHeap} {n1 : Nat} (l01 : n0 ≤ n1) {wa ha : Option (Nat × Nat)} (wc hc : Bool) {A : Nat → Prop} (hA : ∀ i, i < n0 → A i) {ws : List (List Nat)} (wsl : ws.length = t) (wsg : ∀ c (hc : c < t), ws[c]'(by omega) = W c) (ow : OwnRows (BlkRow .u8 h1 n1 A w) h1 n1 wa 1 ws) (lw : ∀ i, ownOf wa i → n0 ≤ i)
    {lr hd : Nat} {bl : Nat → Nat} {cl : Nat → Bool} (gm : GM h1 lr n1 t t hd bl cl Rm) (lrn : n0 ≤ lr) (rc : Bool) (m : Nat) :
    ∀ (f b : Nat) (h : AHeap) (nx : Nat), b + m = t → m < f → Frm (fY lo n0 X) h1 n1 h nx → Bld h lo nx ob w N ok q (fun j => if j = k then fillTo Rm W w a b else Dc j) X →
    ∃ (h' : AHeap) (nx' : Nat), F49_L4 (callP Try.prog keepT k0) Y0 lf L0 f (some (ob, 0)) N oc (some (hd, 0)) t rc wa t wc (a : Int) (k : Int) ha t hc ((t : Nat) : Int) (a : Int) wa t wc ((t : Nat) : Int) (b : Int) h nx =
        F49_L3 (callP Try.prog keepT k0) Y0 lf L0 (some (ob, 0)) N oc (some (hd, 0)) t rc wa t wc ha t hc ((t : Nat) : Int) ((a + 1 : Nat) : Int) h' nx' ∧ Frm (fY lo n0 X) h1 n1 h' nx' ∧ Bld h' lo nx' ob w N ok q (fun j => if j = k then fillTo Rm W w a t else Dc j) X := by
  induction m with
  | zero =>
    intro f b h nx e hf fr B
    obtain ⟨f, rfl⟩ : ∃ m, f = m + 1 := ⟨f - 1, by omega⟩
    obtain rfl : b = t := by omega
    rw [F49_L4_eq, if_neg (by simp), wsucc (by omega)]
    exact ⟨h, nx + 3, rfl, fr.le (by omega), B.ext ⟨by omega, fun _ _ => rfl⟩ (fun _ _ q => q)⟩
  | succ m ih =>
    intro f b h nx e hf fr B
    obtain ⟨f, rfl⟩ : ∃ m, f = m + 1 := ⟨f - 1, by omega⟩
    have hi : b < t := by omega
    have y := fr.1
    have ow' : OwnRows (BlkRow .u8 h nx A w) h nx wa 1 ws := ow.go fr (fun i q z => by have := lw i q; have := z.2.1; omega) fun x r bb => bb.go fr (fun i _ z => hA i z.2.1) (fun _ _ q => q)
    have rws := ow'.rows (A := fun _ => False) (fun _ _ q => q)
    have hget : ws[b]? = some (W b) := by rw [List.getElem?_eq_getElem (by omega), wsg b hi]
    obtain ⟨r, ⟨id, c, rfl, i2, i3, i4, i5⟩, _, rd⟩ := rws.read0 (R := AV × AHeap × Nat) hget (by omega)
    rw [wsl] at rd
    have gm' := gm.keep (h' := h) fun j hj1 hj2 => fr.2 j hj2 fun z => by have := z.2.1; omega
    have hrow := B.row k hk okk
    simp only [if_true] at hrow
    have hbk : h tid = some ⟨ints .u8 (nints (fillTo Rm W w a b)), 1, true⟩ := by
      rcases hrow.2 with ⟨z, _⟩ | ⟨i, z, _, _, z4⟩
      · rw [z] at qk; cases qk
      · rw [z] at qk
        have := congrArg Prod.fst (Option.some.inj qk)
        simp only at this; subst this; exact z4
    obtain ⟨h3, n3, e3, l3, b3, k3⟩ := mix_spec (f := k0) (by omega) (Rm a b) (hR a b) (d := fillTo Rm W w a b) (s := W b) (fillTo_small hR _ _ _ _) (hWs b) (n := w) hw (fillTo_len _ _ _ _ _) (hWl b) (tid := tid) (q k).2 c (fa := some (id, 0)) (h := h) (nx := nx + 19) (by omega)
      (fun p hp _ => by
        obtain rfl := Option.some.inj hp
        rintro rfl
        exact i4 (hA _ t1)) hbk (Sl.ofBlk i5 (by simp [nints_len, hWl]) (by omega))
    rw [fillTo_succ (hWl b)] at b3
    rw [F49_L4_eq, if_pos (by simpa using hi)]
    rw [rd (.slice (some (id, 0)) w c) _ rfl]
    simp only [mst_]
    rw [if_pos ⟨by omega, by omega⟩, B.rd hk okk]
    simp only [mst_]
    rw [gm'.rd ha']
    simp only [mst_]
    rw [irow_rd (gm'.row a ha') hi]
    simp only [mst_]
    rw [qk, e3]
    simp only [mst_]
    rw [wsucc (by omega)]
    refine ih f (b + 1) h3 (n3 + 2) (by omega) (by omega) (fr.trans (D1 := fun i => i = tid) ⟨by omega, fun i hi hne => k3 i (by omega) hne⟩ fun i _ z => by subst z; exact ⟨t0, t1, tX⟩) ?_
    refine (B.chg hk okk qk (fillTo_len _ _ _ _ _) (nx' := n3 + 2) (by omega) b3 fun j hj hne => k3 j (by omega) hne).congr (fun _ _ => rfl) fun j _ _ => ?_
    by_cases e : j = k
    · simp only [if_pos e]
    · simp only [if_neg e]

theorem fill_second {k0 : Nat} (hk0 : 5010 ≤ k0) (lf : Nat) (hlf : 100 ≤ lf) {M : List (List Nat)} {w n t N : Nat} (hw : w ≤ 4096) (hN : N ≤ 256) (hnN : n ≤ N) (ht : t ≤ 16) {Rm : Fm} (hR : F8 Rm) {W : Nat → List Nat} (hWl : ∀ c, (W c).length = w) (hWs : ∀ c, Small (W c)) {hs : List Nat} (hh : hs.length = t) (nd : hs.Pairwise (· < ·)) (hn : ∀ i ∈ hs, i < n)
    (hfin : ∀ a, a < t → fillTo Rm W w a t = M.getD (hs.getD a 0) [])
    {ok : Nat → Bool} {q : Nat → Rw} {D : Nat → List Nat} {X : Nat → Prop} (ok1 : ∀ k, k < n → ok k = true) {ob lo n0 : Nat} (hq : ∀ k ∈ hs, ∃ tid, (q k).1 = some (tid, 0) ∧ tid < n0) (D1 : ∀ k ∈ hs, D k = List.replicate w 0) (oc : Bool)
    {h1 : AHeap} {n1 : Nat} (l01 : n0 ≤ n1) {wa ha : Option (Nat × Nat)} (wc hc : Bool) {A : Nat → Prop} (hA : ∀ i, i < n0 → A i) {ws : List (List Nat)} (wsl : ws.length = t) (wsg : ∀ c (hc : c < t), ws[c]'(by omega) = W c) (ow : OwnRows (BlkRow .u8 h1 n1 A w) h1 n1 wa 1 ws) (lw : ∀ i, ownOf wa i → n0 ≤ i)
    {lr hd : Nat} {bl : Nat → Nat} {cl : Nat → Bool} (gm : GM h1 lr n1 t t hd bl cl Rm) (lrn : n0 ≤ lr) (rc : Bool) (sh : Sl h1 n1 ha t 1 (ints .i64 (nints hs))) (hX : ∀ i, ownOf ha i → X i) (m : Nat) :
    ∀ (f a : Nat) (h : AHeap) (nx : Nat), a + m = t → m < f → Frm (fY lo n0 X) h1 n1 h nx → Bld h lo nx ob w N ok q (fun j => if j ∈ hs.take a then M.getD j [] else D j) X →
    ∃ (h' : AHeap) (nx' : Nat), F49_L3 (callP Try.prog keepT k0) Y0 lf f (some (ob, 0)) N oc (some (hd, 0)) t rc wa t wc ha t hc ((t : Nat) : Int) (a : Int) h nx = some (.tuple [], h', nx') ∧ Frm (fY lo n0 X) h1 n1 h' nx' ∧ Bld h' lo nx' ob w N ok q (fun j => if j ∈ hs then M.getD j [] else D j) X := by
  induction m with
  | zero =>
    intro f a h nx e hf fr B
    obtain ⟨f, rfl⟩ : ∃ m, f = m + 1 := ⟨f - 1, by omega⟩
    obtain rfl : a = t := by omega
    rw [F49_L3_eq, if_neg (by simp)]
    rw [List.take_of_length_le (by omega)] at B
    exact ⟨h, nx + 1, rfl, fr.le (by omega), B.ext ⟨by omega, fun _ _ => rfl⟩ (fun _ _ q => q)⟩
  | succ m ih =>
    intro f a h nx e hf fr B
    obtain ⟨f, rfl⟩ : ∃ m, f = m + 1 := ⟨f - 1, by omega⟩
    have hi : a < t := by omega
    obtain ⟨k, hk⟩ : ∃ k, hs[a]'(by omega) = k := ⟨_, rfl⟩
    have km : k ∈ hs := by rw [← hk]; exact List.getElem_mem _
    have kn := hn k km
    obtain ⟨tid, qk, t1⟩ := hq k km
    have okk := ok1 k kn
    have hin := (B.row k (by omega) okk).in qk
    have tX := (B.rx k (by omega) okk tid qk).2
    have sh' : Sl h nx ha t 1 (ints .i64 (nints hs)) := sh.fr (D := fY lo n0 X) (fun _ p hp z => z.2.2 (hX _ ⟨p.2, by rw [hp]⟩)) fr
    have knt : k ∉ hs.take a := by
      intro hm
      obtain ⟨i, hi', e'⟩ := List.getElem_of_mem hm
      have hia : i < a := by rw [List.length_take] at hi'; omega
      rw [List.getElem_take] at e'
      have := (List.pairwise_iff_getElem.1 nd) i a (by omega) (by omega) hia
      omega
    have B' : Bld h lo (nx + 9) ob w N ok q (fun j => if j = k then fillTo Rm W w a 0 else if j ∈ hs.take a then M.getD j [] else D j) X := by
      refine (B.ext (nx' := nx + 9) ⟨by omega, fun _ _ => rfl⟩ (X' := X) (fun _ _ q => q)).congr (fun _ _ => rfl) fun j _ _ => ?_
      by_cases ej : j = k
      · subst ej; simp only [if_true]; rw [if_neg knt, fillTo_zero, D1 j km]
      · simp only [if_neg ej]
    obtain ⟨h2, n2, e2, f2, b2⟩ := hole_loop hk0 lf f (n := n) hw hN ht hR hWl hWs hi (by omega) okk qk hin.1 t1 tX oc l01 wc hc (ha := ha) hA wsl wsg ow lw gm lrn rc t lf 0 h (nx + 9) (by omega) (by omega) (fr.le (by omega)) B'
    rw [show ((0 : Nat) : Int) = 0 from rfl] at e2
    rw [F49_L3_eq, if_pos (by simpa using hi), sh'.readN hh (by omega)]
    simp only [mst_]
    rw [hk, e2]
    refine ih f (a + 1) h2 n2 (by omega) (by omega) f2 (b2.congr (fun _ _ => rfl) fun j _ _ => ?_)
    have htk : hs.take (a + 1) = hs.take a ++ [k] := by rw [← hk]; exact List.take_succ_eq_append_getElem (by omega)
    rw [htk]
    by_cases ej : j = k
    · subst ej
      rw [if_pos rfl, if_pos (by simp), hfin a hi, getD_at (l := hs) (by omega), hk]
    · rw [if_neg ej]
      simp only [List.mem_append, List.mem_singleton, ej, or_false]

/-- par.fill: what was lost is there again. -/
theorem fill_spec {f : Nat} (hf : 5200 ≤ f) {g : Nat → Bool} {M : List (List Nat)} {w n t N : Nat} (hn : M.length = n) (hn1 : 1 ≤ n) (hn12 : n ≤ 12) (hnN : n ≤ N) (hN : N ≤ 256) (hM : ∀ r ∈ M, r.length = w) (sM : SmallM M) (hw : w ≤ 4096)
    {us hs : List Nat} (hu : us.length = t) (hh : hs.length = t) (hhs : hs = (List.range n).filter g) (pu : us.Pairwise (· < ·)) (u3 : ∀ u ∈ us, u < 3) (uN : ∀ u ∈ us, n + u < N) (t8 : t ≤ 8)
    {ha ua : Option (Nat × Nat)} (hc uc oc : Bool) {h : AHeap} {nx lo ob : Nat} {ok : Nat → Bool} {q : Nat → Rw} {D : Nat → List Nat} {X : Nat → Prop} (B : Bld h lo nx ob w N ok q D X) (ok1 : ∀ k, k < n → ok k = true) (ok2 : ∀ u ∈ us, ok (n + u) = true)
    (hq : ∀ k, k < n → g k = true → ∃ tid, (q k).1 = some (tid, 0))
    (D1 : ∀ k, k < n → D k = if g k then List.replicate w 0 else M.getD k []) (D2 : ∀ u ∈ us, D (n + u) = enc M u w) (sh : Sl h nx ha t 1 (ints .i64 (nints hs))) (su : Sl h nx ua t 1 (ints .i64 (nints us))) (hX : ∀ i, ownOf ha i → X i) :
    ∃ (h' : AHeap) (nx' : Nat), callP Try.prog keepT f Y0 49 [.slice (some (ob, 0)) N oc, .int .i64 (n : Int), .slice ha t hc, .slice ua t uc] h nx = some (.tuple [], h', nx') ∧ Frm (fun i => lo ≤ i ∧ ¬ X i) h nx h' nx' ∧ Bld h' lo nx' ob w N ok q (fun j => if j < n then M.getD j [] else D j) X := by
  obtain ⟨f, rfl⟩ : ∃ m, f = m + 1 := ⟨f - 1, by omega⟩
  have hmem : ∀ k, k ∈ hs ↔ k < n ∧ g k = true := fun k => by rw [hhs]; simp [List.mem_filter]
  have fin : ∀ j, (if j < n then M.getD j [] else D j) = if j ∈ hs then M.getD j [] else D j := fun j => by
    by_cases hj : j < n
    · rw [if_pos hj]
      by_cases hg : g j = true
      · rw [if_pos ((hmem j).2 ⟨hj, hg⟩)]
      · rw [if_neg fun z => hg ((hmem j).1 z).2, D1 j hj, if_neg hg]
    · rw [if_neg hj, if_neg fun z => hj ((hmem j).1 z).1]
  by_cases ht0 : t = 0
  · subst ht0
    rw [F49_eq, if_pos (by simp)]
    refine ⟨h, nx + 3, rfl, ⟨by omega, fun _ _ _ => rfl⟩, (B.ext (nx' := nx + 3) ⟨by omega, fun _ _ => rfl⟩ (fun _ _ q => q)).congr (fun _ _ => rfl) fun j _ _ => ?_⟩
    rw [fin j]
    have : hs = [] := List.length_eq_zero_iff.1 hh
    rw [this]; simp
  have nd : hs.Pairwise (· < ·) := by rw [hhs]; exact List.Pairwise.filter _ List.pairwise_lt_range
  have h12 : ∀ i ∈ hs, i < 12 := fun i hi => by have := ((hmem i).1 hi).1; omega
  obtain ⟨f', ma, wa, mc, wc, h1, n1, e1, x1, om, ow, lw⟩ := fill_first (k0 := f) (by omega) f (by omega) hn hn1 hn12 hN hM sM hw hu hh (by omega) (by omega) (fun i hi => by have := h12 i hi; omega) (fun u hu => by have := u3 u hu; omega) uN hc uc oc
    (B.ext (nx' := nx + 9) ⟨by omega, fun _ _ => rfl⟩ (X' := X) (fun _ _ q => q)) ok1 ok2 D1 D2 (sh.ext (nx' := nx + 9) ⟨by omega, fun _ _ => rfl⟩) (su.ext (nx' := nx + 9) ⟨by omega, fun _ _ => rfl⟩) t f 0 none none false false h (nx + 9) (by omega) (by omega) (Ext.refl _ _) (OwnRows.nil _ _ _ _) (OwnRows.nil _ _ _ _) (fun i ⟨_, z⟩ => by cases z) (fun i ⟨_, z⟩ => by cases z) (fun i ⟨_, z⟩ => by cases z)
  rw [show ((0 : Nat) : Int) = 0 from rfl] at e1
  have y1 := x1.1
  have mm : Mat h1 n1 .i64 ma (msL us hs t t) t := by
    have := om.mat (D := fun x => x) (kd := .i64) (w := t) fun x _ r b => b.rw
    rwa [List.map_id'] at this
  have sms : SmallM (msL us hs t t) := by
    intro r hr x hx
    obtain ⟨c, _, rfl⟩ := List.mem_map.1 hr
    obtain ⟨a, _, rfl⟩ := List.mem_map.1 hx
    exact fac_lt _ _
  have full : rk t t (ent (msL us hs t t)) = t := by
    rw [rk_congr (N := facF us hs) fun i j hi hj => ent_msL hi hj]
    exact facF_full hu hh pu nd u3 h12
  obtain ⟨oa, orc, h2, n2, e2, w2, x2⟩ := (inv_matrix (f := f) (by omega) (msL_len us hs t t) (by omega) t8 sms mc (mm.ext (nx' := n1 + 7) ⟨by omega, fun _ _ => rfl⟩)).2 full
  have y2 := x2.1
  obtain ⟨hd, bl, cl, rfl, gm⟩ := w2.gm (by omega) (by rw [lst_len]; omega)
  rw [lst_len] at gm
  have gm2 : GM h2 (n1 + 7) n2 t t hd bl cl (invF t (facF us hs)) := gm.congr fun i j hi hj => by
    rw [lst_ent hi hj]
    exact invF_congr (fun i j hi hj => ent_msL hi hj) hi hj
  have xx : Ext h (nx + 9) h2 n2 := x1.trans (x2.from (by omega))
  have B2 := (B.ext (nx' := nx + 9) ⟨by omega, fun _ _ => rfl⟩ (X' := X) (fun _ _ q => q)).ext xx (X' := X) (fun _ _ q => q)
  have ow2 : OwnRows (BlkRow .u8 h2 n2 (avF (nx + 9) ma wa) w) h2 n2 wa 1 (wsL g M w us t) := ow.go ((x2.from (show n1 ≤ n1 + 7 by omega)).fr fun _ => False) (fun _ _ q => q) fun x r b => b.go ((x2.from (show n1 ≤ n1 + 7 by omega)).fr fun _ => False) (fun _ _ q => q.elim) (fun _ _ q => q)
  have hfin : ∀ a, a < t → fillTo (invF t (facF us hs)) (fun b => want g M w (us.getD b 0)) w a t = M.getD (hs.getD a 0) [] := fun a ha => by
    rw [hhs, ← hn] at hh ⊢
    exact fill_law hM sM (by omega) hu hh pu u3 ha
  obtain ⟨h3, n3, e3, f3, b3⟩ := fill_second (k0 := f) (by omega) f (by omega) hw hN hnN (by omega) (invF_F8 (facF_F8 us hs)) (W := fun b => want g M w (us.getD b 0)) (fun _ => want_len _ _ _ _) (fun _ => want_small _ _ _ _) hh nd (fun i hi => ((hmem i).1 hi).1) hfin ok1 (lo := lo) (n0 := nx + 9) (ob := ob)
    (fun k hk => by
      obtain ⟨tid, z⟩ := hq k ((hmem k).1 hk).1 ((hmem k).1 hk).2
      exact ⟨tid, z, by have := ((B.row k (by have := ((hmem k).1 hk).1; omega) (ok1 k ((hmem k).1 hk).1)).in z).2; omega⟩)
    (D := D) (fun k hk => by rw [D1 k ((hmem k).1 hk).1, if_pos ((hmem k).1 hk).2]) oc (h1 := h2) (n1 := n2 + 3) (by omega) wc hc (A := avF (nx + 9) ma wa) (fun i hi => .inl hi) (wsL_len g M w us t) (fun c hc => by simp [wsL])
    (ow2.go (h' := h2) (nx' := n2 + 3) (D := fun _ => False) ⟨by omega, fun _ _ _ => rfl⟩ (fun _ _ q => q) fun x r b => b.go (Y := fun _ => False) ⟨by omega, fun _ _ _ => rfl⟩ (fun _ _ q => q.elim) (fun _ _ q => q)) lw
    (GM.mk gm2.hdr gm2.row gm2.inj gm2.ne gm2.lohd (by have := gm2.hdm; omega) gm2.lobl (fun i hi => by have := gm2.blm i hi; omega)) (by omega) orc
    ((sh.ext (nx' := nx + 9) ⟨by omega, fun _ _ => rfl⟩).ext (xx.le (show n2 ≤ n2 + 3 by omega))) hX t f 0 h2 (n2 + 3) (by omega) (by omega) (Frm.refl _ _ _)
    ((B2.ext (nx' := n2 + 3) ⟨by omega, fun _ _ => rfl⟩ (X' := X) (fun _ _ q => q)).congr (fun _ _ => rfl) fun j _ _ => by rw [List.take_zero]; simp)
  rw [show ((0 : Nat) : Int) = 0 from rfl] at e3
  have y3 := f3.1
  rw [F49_eq, if_neg (by simp; omega), e1, F49_L1_eq, if_neg (by simp), e2]
  simp only [mst_]
  rw [e3]
  refine ⟨h3, n3, rfl, ⟨by omega, fun i hi hne => ?_⟩, b3.congr (fun _ _ => rfl) fun j _ _ => (fin j).symm⟩
  rw [f3.2 i (by omega) fun z => hne ⟨z.1, z.2.2⟩, xx.2 i (by omega)]

end Go.Proofs.Ytalfcokiooaliaa.T

namespace Go.Proofs.Ytalfcokiooaliaa.T
open Go Go.RowKit Go.Proofs

def okA (g : Nat → Bool) (n i j : Nat) : Bool := decide (j < i) && (!g j || decide (j < n))
theorem okA_iff (g : Nat → Bool) (n i j : Nat) : okA g n i j = true ↔ j < i ∧ (g j = false ∨ j < n) := by simp [okA]
theorem okA_set {g : Nat → Bool} {n i : Nat} (h : g i = false ∨ i < n) (j : Nat) : (j == i || okA g n i j) = okA g n (i + 1) j := by
  rw [Bool.eq_iff_iff, Bool.or_eq_true, okA_iff, okA_iff, beq_iff_eq]
  constructor
  · rintro (rfl | ⟨a, b⟩)
    · exact ⟨by omega, h⟩
    · exact ⟨by omega, b⟩
  · rintro ⟨a, b⟩
    by_cases e : j = i
    · exact .inl e
    · exact .inr ⟨by omega, b⟩
theorem okA_skip {g : Nat → Bool} {n i : Nat} (h : g i = true) (h' : n ≤ i) (j : Nat) : okA g n i j = okA g n (i + 1) j := by
  rw [Bool.eq_iff_iff, okA_iff, okA_iff]
  constructor
  · rintro ⟨a, b⟩; exact ⟨by omega, b⟩
  · rintro ⟨a, b⟩
    refine ⟨?_, b⟩
    by_cases e : j = i
    · subst e
      rcases b with b | b
      · rw [h] at b; cases b
      · omega
    · omega
def hol (g : Nat → Bool) (n i : Nat) : List Nat := (List.range i).filter fun j => g j && decide (j < n)
theorem hol_succ (g : Nat → Bool) (n i : Nat) : hol g n (i + 1) = if g i = true ∧ i < n then hol g n i ++ [i] else hol g n i := by
  unfold hol
  rw [List.range_succ, List.filter_append]
  by_cases h : g i = true ∧ i < n
  · rw [if_pos h]; simp [h.1, h.2]
  · rw [if_neg h]
    have : (g i && decide (i < n)) = false := by
      rw [← Bool.not_eq_true, Bool.and_eq_true, decide_eq_true_eq]; exact h
    simp [this]
theorem hol_le (g : Nat → Bool) (n i : Nat) : (hol g n i).length ≤ i := by
  have := List.length_filter_le (fun j => g j && decide (j < n)) (List.range i)
  simpa [hol] using this
theorem hol_all (g : Nat → Bool) {n i : Nat} (h : n ≤ i) : hol g n i = (List.range n).filter g := by
  induction i with
  | zero => obtain rfl : n = 0 := by omega
            rfl
  | succ i ih =>
    by_cases e : n ≤ i
    · rw [hol_succ, if_neg (by omega), ih e]
    · obtain rfl : n = i + 1 := by omega
      unfold hol
      exact List.filter_congr fun j hj => by simp [List.mem_range.1 hj]

/-- Numbers in a block of one's own. -/
abbrev NRow : Nat → List AV → Prop := fun k r => r = [AV.int .i64 ((k : Nat) : Int)]
theorem NRow.sl {h : AHeap} {nx : Nat} {a : Option (Nat × Nat)} {l : List Nat} {n : Nat} (o : OwnRows NRow h nx a 1 l) (hl : l.length = n) : Sl h nx a n 1 (ints .i64 (nints l)) := by
  obtain ⟨rows, q, len, s, _⟩ := o.rows (A := fun _ => False) (fun _ _ q => q)
  subst hl
  have : ∀ {l : List Nat} {rows : List (List AV)}, All2 NRow l rows → rows.flatten = ints .i64 (nints l) := by
    intro l
    induction l with
    | nil => intro rows e; simp only [All2] at e; subst e; rfl
    | cons x l ih =>
      intro rows e
      obtain ⟨r, rs, rfl, rfl, b⟩ := e
      rw [List.flatten_cons, ih b]; rfl
  rw [← this q]; exact s

end Go.Proofs.Ytalfcokiooaliaa.T

namespace Go.Proofs.Ytalfcokiooaliaa.T
open Go Go.RowKit Go.Proofs

def surv (g : Nat → Bool) (n c : Nat) : List Nat := (List.range c).filter fun u => !g (n + u)
theorem surv_succ (g : Nat → Bool) (n c : Nat) : surv g n (c + 1) = if g (n + c) then surv g n c else surv g n c ++ [c] := by
  unfold surv
  rw [List.range_succ, List.filter_append]
  by_cases h : g (n + c) = true
  · simp [h]
  · simp [h]
theorem surv_le (g : Nat → Bool) (n c : Nat) : (surv g n c).length ≤ c := by
  have := List.length_filter_le (fun u => !g (n + u)) (List.range c)
  simpa [surv] using this
theorem surv_mem {g : Nat → Bool} {n c u : Nat} (h : u ∈ surv g n c) : u < c ∧ g (n + u) = false := by
  obtain ⟨h1, h2⟩ := List.mem_filter.1 h
  exact ⟨List.mem_range.1 h1, by simpa using h2⟩
theorem surv_pw (g : Nat → Bool) (n c : Nat) : (surv g n c).Pairwise (· < ·) := List.Pairwise.filter _ List.pairwise_lt_range

def hu (ha ua : Option (Nat × Nat)) : Nat → Prop := fun i => ownOf ha i ∨ ownOf ua i

def okB (g : Nat → Bool) (n i j : Nat) : Bool := decide (j < n) || !g j || decide (j < i)
theorem okB_iff (g : Nat → Bool) (n i j : Nat) : okB g n i j = true ↔ j < n ∨ g j = false ∨ j < i := by simp [okB, or_assoc]
theorem okB_set {g : Nat → Bool} {n i : Nat} (j : Nat) : (j == i || okB g n i j) = okB g n (i + 1) j := by
  rw [Bool.eq_iff_iff, Bool.or_eq_true, okB_iff, okB_iff, beq_iff_eq]
  constructor
  · rintro (rfl | a | a | a)
    · exact .inr (.inr (by omega))
    · exact .inl a
    · exact .inr (.inl a)
    · exact .inr (.inr (by omega))
  · rintro (a | a | a)
    · exact .inr (.inl a)
    · exact .inr (.inr (.inl a))
    · by_cases e : j = i
      · exact .inl e
      · exact .inr (.inr (.inr (by omega)))
theorem okB_skip {g : Nat → Bool} {n i : Nat} (h : g i = false) (j : Nat) : okB g n i j = okB g n (i + 1) j := by
  rw [Bool.eq_iff_iff, okB_iff, okB_iff]
  constructor
  · rintro (a | a | a)
    · exact .inl a
    · exact .inr (.inl a)
    · exact .inr (.inr (by omega))
  · rintro (a | a | a)
    · exact .inl a
    · exact .inr (.inl a)
    · by_cases e : j = i
      · subst e; exact .inr (.inl h)
      · exact .inr (.inr (by omega))

end Go.Proofs.Ytalfcokiooaliaa.T

namespace Go.Proofs.Ytalfcokiooaliaa.T
open Go Go.RowKit Go.Proofs

end Go.Proofs.Ytalfcokiooaliaa.T

namespace Go.Proofs.Ytalfcokiooaliaa.T
open Go Go.RowKit Go.Proofs

/-! ### counts -/
def cnt (g : Nat → Bool) (n : Nat) : Nat := ((List.range n).filter g).length
theorem cnt_succ (g : Nat → Bool) (n : Nat) : cnt g (n + 1) = cnt g n + if g n then 1 else 0 := by
  unfold cnt
  rw [List.range_succ, List.filter_append, List.length_append]
  by_cases h : g n = true
  · simp [h]
  · simp [h]
theorem cnt_le (g : Nat → Bool) (n : Nat) : cnt g n ≤ n := by
  have := List.length_filter_le g (List.range n)
  simpa [cnt] using this
theorem cnt_set {g : Nat → Bool} {k : Nat} (hk : g k = false) (n : Nat) : cnt (fun j => j == k || g j) n = cnt g n + if k < n then 1 else 0 := by
  induction n with
  | zero => simp [cnt]
  | succ n ih =>
    rw [cnt_succ, cnt_succ, ih]
    by_cases e : n = k
    · subst e; simp [hk]
    · have e2 : (n == k) = false := by simpa using e
      rw [e2, Bool.false_or]
      by_cases l : k < n
      · rw [if_pos l, if_pos (show k < n + 1 by omega)]; omega
      · rw [if_neg l, if_neg (show ¬ k < n + 1 by omega)]; omega
theorem cnt_surv (g : Nat → Bool) (n p : Nat) : cnt g (n + p) + (surv g n p).length = cnt g n + p := by
  induction p with
  | zero => simp [surv]
  | succ p ih =>
    rw [← Nat.add_assoc, cnt_succ, surv_succ]
    by_cases h : g (n + p) = true
    · rw [if_pos h, if_pos h]; omega
    · rw [if_neg h, if_neg h, List.length_append]; simp only [List.length_cons, List.length_nil]; omega
theorem cnt_kept (g : Nat → Bool) (n : Nat) : cnt g n + (kept g n).length = n := by
  induction n with
  | zero => simp [cnt, kept]
  | succ n ih =>
    rw [cnt_succ, kept_succ]
    by_cases h : g n = true
    · rw [if_pos h, if_pos h]; omega
    · rw [if_neg h, if_neg h, List.length_append]; simp only [List.length_cons, List.length_nil]; omega

end Go.Proofs.Ytalfcokiooaliaa.T

namespace Go.Proofs.Ytalfcokiooaliaa.T
open Go Go.RowKit Go.Proofs

/-! ### par.refused, par.Rebuild -/
def inL (ls : List Nat) (i j : Nat) : Bool := decide (j ∈ ls.take i)
theorem inL_zero (ls : List Nat) : inL ls 0 = fun _ => false := by funext j; simp [inL]
theorem inL_set {ls : List Nat} {i k : Nat} (hi : i < ls.length) (hk : ls[i] = k) (j : Nat) : (j == k || inL ls i j) = inL ls (i + 1) j := by
  unfold inL
  rw [show ls.take (i + 1) = ls.take i ++ [k] from by rw [← hk]; exact List.take_succ_eq_append_getElem hi]
  rw [Bool.eq_iff_iff]; simp [or_comm]
theorem bls_congr {g g' : Nat → Bool} {n : Nat} (e : ∀ j, j < n → g j = g' j) : bls g n = bls g' n := List.map_congr_left fun k hk => by rw [e k (List.mem_range.1 hk)]

end Go.Proofs.Ytalfcokiooaliaa.T

namespace Go.Proofs.Ytalfcokiooaliaa.T
open Go Go.RowKit Go.Proofs

theorem Sl.at1 {h : AHeap} {nx : Nat} {a : Option (Nat × Nat)} {n : Nat} {vs : List AV} (s : Sl h nx a n 1 vs) {i : Nat} (hi : i < n) {v : AV} (hv : vs[i]? = some v) : ∃ p, a = some p ∧ p.1 < nx ∧ ∀ {R : Type} (K : AV → Option R), (ldA h p.1 (p.2 + Int.toNat (i : Int) * 1)).bind K = K v := by
  obtain ⟨p, b, e1, e2, e3, e4, e5, e6⟩ := s.2 i hi
  refine ⟨p, e1, e2, fun K => ?_⟩
  have := e6 i (by omega)
  rw [show p.2 + Int.toNat (i : Int) * 1 = p.2 + i from by omega, ldA_at e3 (this.trans hv), Option.bind_some]

end Go.Proofs.Ytalfcokiooaliaa.T

namespace Go.Proofs.Ytalfcokiooaliaa.T
open Go Go.RowKit Go.Proofs

theorem ofB {l : List Int} (h : ∀ n ∈ l, (Lit.int .u8 n).wf = true) : ∃ b : List Nat, l = nints b ∧ Small b ∧ b.length = l.length := by
  refine ⟨l.map Int.toNat, ?_, ?_, by simp⟩
  · unfold nints
    rw [List.map_map]
    conv => lhs; rw [← List.map_id l]
    refine List.map_congr_left fun x hx => ?_
    have := h x hx
    simp [Lit.wf, IntKind.min, IntKind.max, IntKind.signed, IntKind.bits] at this
    simp; omega
  · intro x hx
    obtain ⟨y, hy, rfl⟩ := List.mem_map.1 hx
    have := h y hy
    simp [Lit.wf, IntKind.min, IntKind.max, IntKind.signed, IntKind.bits] at this
    omega
end Go.Proofs.Ytalfcokiooaliaa.T
