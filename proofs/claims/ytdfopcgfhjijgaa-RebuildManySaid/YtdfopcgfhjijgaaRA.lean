import Derived.Test.YtdfopcgfhjijgaaGI
import Derived.Test.YtdfopcgfhjijgaaEE
set_option linter.unusedVariables false
set_option linter.unusedSimpArgs false
namespace Go.Proofs.Ytdfopcgfhjijgaa.T
open Go Go.RowKit Go.Proofs

/-! ### Vandermonde: polynomials that are 0 at all points but one -/
theorem xsum_shift (f : Nat → Nat) : ∀ s, xsum (s + 1) f = f 0 ^^^ xsum s fun k => f (k + 1)
  | 0 => by simp [xsum]
  | s + 1 => by
    show xsum (s + 1) f ^^^ f (s + 1) = f 0 ^^^ (xsum s (fun k => f (k + 1)) ^^^ f (s + 1))
    rw [xsum_shift f s, Nat.xor_assoc]
def ev (s : Nat) (q : Nat → Nat) (x : Nat) : Nat := xsum s fun k => Gf.gm (Gf.gp x k) (q k)
def mulLin (q : Nat → Nat) (c : Nat) : Nat → Nat := fun k => (if k = 0 then 0 else q (k - 1)) ^^^ Gf.gm c (q k)
theorem ev_mulLin {s : Nat} {q : Nat → Nat} {c x : Nat} (hq : ∀ k, q k < 256) (hz : q s = 0) (hc : c < 256) (hx : x < 256) : ev (s + 1) (mulLin q c) x = Gf.gm (x ^^^ c) (ev s q x) := by
  unfold ev
  have e1 : xsum (s + 1) (fun k => Gf.gm (Gf.gp x k) (mulLin q c k)) = xsum (s + 1) (fun k => Gf.gm (Gf.gp x k) (if k = 0 then 0 else q (k - 1))) ^^^ xsum (s + 1) (fun k => Gf.gm (Gf.gp x k) (Gf.gm c (q k))) := by
    rw [← xsum_xor]; exact xsum_congr fun k _ => Gf.gm_xor_right _ _ _
  have e2 : xsum (s + 1) (fun k => Gf.gm (Gf.gp x k) (if k = 0 then 0 else q (k - 1))) = Gf.gm x (xsum s fun k => Gf.gm (Gf.gp x k) (q k)) := by
    rw [xsum_shift, if_pos rfl, Gf.gm_zero, Nat.zero_xor, gm_xsum_right]
    refine xsum_congr fun k _ => ?_
    rw [if_neg (by omega), Nat.add_sub_cancel, ← Gf.gm_assoc hx (Gf.gp_lt hx k) (hq k)]; rfl
  have e3 : xsum (s + 1) (fun k => Gf.gm (Gf.gp x k) (Gf.gm c (q k))) = Gf.gm c (xsum s fun k => Gf.gm (Gf.gp x k) (q k)) := by
    show xsum s (fun k => Gf.gm (Gf.gp x k) (Gf.gm c (q k))) ^^^ Gf.gm (Gf.gp x s) (Gf.gm c (q s)) = _
    rw [hz, Gf.gm_zero, Gf.gm_zero, Nat.xor_zero, gm_xsum_right]
    refine xsum_congr fun k _ => ?_
    rw [← Gf.gm_assoc (Gf.gp_lt hx k) hc (hq k), Gf.gm_comm (Gf.gp_lt hx k) hc, Gf.gm_assoc hc (Gf.gp_lt hx k) (hq k)]
  rw [e1, e2, e3, Gf.gm_xor_left _ hx hc]
def prodP (r : Nat → Nat) : Nat → Nat → Nat
  | 0 => dl 0
  | m + 1 => mulLin (prodP r m) (r m)
theorem prodP_lt {r : Nat → Nat} (hr : ∀ v, r v < 256) : ∀ m k, prodP r m k < 256
  | 0, k => dl_lt _ _
  | m + 1, k => by
    show (if k = 0 then 0 else prodP r m (k - 1)) ^^^ Gf.gm (r m) (prodP r m k) < 256
    refine Gf.xor_lt ?_ (Gf.gm_lt (hr m))
    split
    · omega
    · exact prodP_lt hr m _
theorem prodP_zero {r : Nat → Nat} : ∀ m k, m < k → prodP r m k = 0
  | 0, k, h => by show dl 0 k = 0; unfold dl; rw [if_neg (by omega)]
  | m + 1, k, h => by
    show (if k = 0 then 0 else prodP r m (k - 1)) ^^^ Gf.gm (r m) (prodP r m k) = 0
    rw [if_neg (by omega), prodP_zero m (k - 1) (by omega), prodP_zero m k (by omega), Gf.gm_zero, Nat.xor_zero]
def pr (r : Nat → Nat) (x : Nat) : Nat → Nat
  | 0 => 1
  | m + 1 => Gf.gm (x ^^^ r m) (pr r x m)
theorem pr_lt {r : Nat → Nat} (hr : ∀ v, r v < 256) {x : Nat} (hx : x < 256) : ∀ m, pr r x m < 256
  | 0 => by show 1 < 256; omega
  | m + 1 => Gf.gm_lt (Gf.xor_lt hx (hr m))
theorem ev_prodP {r : Nat → Nat} (hr : ∀ v, r v < 256) {x : Nat} (hx : x < 256) : ∀ m, ev (m + 1) (prodP r m) x = pr r x m
  | 0 => by
    show xsum 1 (fun k => Gf.gm (Gf.gp x k) (dl 0 k)) = 1
    simp only [xsum, Nat.zero_xor]
    rw [dl, if_pos rfl]; exact Gf.gm_one 1 (by omega)
  | m + 1 => by
    show ev (m + 1 + 1) (mulLin (prodP r m) (r m)) x = Gf.gm (x ^^^ r m) (pr r x m)
    rw [ev_mulLin (prodP_lt hr m) (prodP_zero m _ (by omega)) (hr m) hx, ev_prodP hr hx m]
theorem xor_eq_zero {a b : Nat} : a ^^^ b = 0 ↔ a = b := by
  constructor
  · intro h
    have := congrArg (· ^^^ b) h
    simpa [Nat.xor_assoc] using this
  · rintro rfl; exact Nat.xor_self _
theorem pr_root {r : Nat → Nat} (hr : ∀ v, r v < 256) {x : Nat} (hx : x < 256) : ∀ m, pr r x m = 0 ↔ ∃ v, v < m ∧ r v = x
  | 0 => by
    constructor
    · intro h; cases h
    · rintro ⟨v, h, _⟩; omega
  | m + 1 => by
    show Gf.gm (x ^^^ r m) (pr r x m) = 0 ↔ _
    rw [Gf.gm_eq_zero (Gf.xor_lt hx (hr m)) (pr_lt hr hx m), pr_root hr hx m, xor_eq_zero]
    constructor
    · rintro (h | ⟨v, h1, h2⟩)
      · exact ⟨m, by omega, h.symm⟩
      · exact ⟨v, by omega, h2⟩
    · rintro ⟨v, h1, h2⟩
      by_cases e : v = m
      · subst e; exact .inl h2.symm
      · exact .inr ⟨v, by omega, h2⟩

def van (p : Nat → Nat) : Fm := fun i k => Gf.gp (p i) k
theorem van_F8 {p : Nat → Nat} (hp : ∀ i, p i < 256) : F8 (van p) := fun i k => Gf.gp_lt (hp i) k
theorem van_right {p : Nat → Nat} (hp : ∀ i, p i < 256) {n : Nat} (hd : ∀ i j, i < n → j < i → p i ≠ p j) : rk n n (van p) = n := by
  have hd' : ∀ i j, i < n → j < n → i ≠ j → p i ≠ p j := by
    intro i j hi hj hij
    by_cases h : j < i
    · exact hd i j hi h
    · exact fun e => hd j i hj (by omega) e.symm
  have hrt : ∀ u v, (if v < u then p v else p (v + 1)) < 256 := fun u v => by split <;> exact hp _
  refine rk_right (B := fun k u => Gf.gm (prodP (fun v => if v < u then p v else p (v + 1)) (n - 1) k) (Gf.gi (pr (fun v => if v < u then p v else p (v + 1)) (p u) (n - 1)))) (fun k u => Gf.gm_lt (prodP_lt (hrt u) _ _)) (van_F8 hp) fun i u hi hu => ?_
  have hpr : ∀ x, x < 256 → pr (fun v => if v < u then p v else p (v + 1)) x (n - 1) < 256 := fun x hx => pr_lt (hrt u) hx _
  have hg := Gf.gi_lt (hpr (p u) (hp u))
  have e : mulF n (van p) (fun k u => Gf.gm (prodP (fun v => if v < u then p v else p (v + 1)) (n - 1) k) (Gf.gi (pr (fun v => if v < u then p v else p (v + 1)) (p u) (n - 1)))) i u = Gf.gm (pr (fun v => if v < u then p v else p (v + 1)) (p i) (n - 1)) (Gf.gi (pr (fun v => if v < u then p v else p (v + 1)) (p u) (n - 1))) := by
    rw [← ev_prodP (hrt u) (hp i) (n - 1), show n - 1 + 1 = n from by omega]
    unfold ev mulF
    rw [gm_xsum_left _ _ _ fun k _ => Gf.gm_lt (Gf.gp_lt (hp i) k)]
    exact xsum_congr fun k _ => (Gf.gm_assoc (Gf.gp_lt (hp i) k) (prodP_lt (hrt u) _ _) hg).symm
  rw [e]
  have root := fun x hx => pr_root (r := fun v => if v < u then p v else p (v + 1)) (hrt u) (x := x) hx (n - 1)
  by_cases hiu : i = u
  · subst hiu
    have hne : pr (fun v => if v < i then p v else p (v + 1)) (p i) (n - 1) ≠ 0 := by
      intro h
      obtain ⟨v, hv, h2⟩ := (root (p i) (hp i)).1 h
      by_cases c : v < i
      · simp only [if_pos c] at h2
        exact hd' v i (by omega) hi (by omega) h2
      · simp only [if_neg c] at h2
        exact hd' (v + 1) i (by omega) hi (by omega) h2
    rw [Gf.gm_gi (hpr _ (hp i)) hne, dl, if_pos rfl]
  · have hz : pr (fun v => if v < u then p v else p (v + 1)) (p i) (n - 1) = 0 := by
      refine (root (p i) (hp i)).2 ?_
      by_cases c : i < u
      · exact ⟨i, by omega, by simp only [if_pos c]⟩
      · refine ⟨i - 1, by omega, ?_⟩
        simp only [if_neg (show ¬ i - 1 < u by omega)]
        rw [show i - 1 + 1 = i from by omega]
    rw [hz, Gf.zero_gm, dl, if_neg hiu]
theorem van_same {p : Nat → Nat} (hp : ∀ i, p i < 256) {n i j : Nat} (hi : i < n) (hj : j < i) (e : p i = p j) : rk n n (van p) < n := by
  have hle := rk_le (n := n) (C := n) (van_F8 hp)
  by_cases hr : rk n n (van p) = n
  · have inv := (invF_both (van_F8 hp) hr).2
    have h1 := inv i i hi hi
    have h2 := inv j i (by omega) hi
    have : mulF n (van p) (invF n (van p)) i i = mulF n (van p) (invF n (van p)) j i := by
      unfold mulF van; rw [e]
    rw [h1, h2, dl, dl, if_pos rfl, if_neg (by omega)] at this
    omega
  · omega

end Go.Proofs.Ytdfopcgfhjijgaa.T

namespace Go.Proofs.Ytdfopcgfhjijgaa.T
open Go Go.RowKit Go.Proofs

/-! ### the plain law: what is lost is what the columns that are left give -/
theorem gp_mul {a : Nat} (ha : a < 256) (m n : Nat) : Gf.gp (Gf.gp a m) n = Gf.gp a (m * n) := by
  induction n with
  | zero => rfl
  | succ n ih =>
    show Gf.gm (Gf.gp a m) (Gf.gp (Gf.gp a m) n) = _
    rw [ih, ← Gf.gp_add ha]; congr 1; rw [Nat.mul_add, Nat.mul_one]; omega
theorem gp2_inj {m n : Nat} (hm : m < 255) (hn : n < 255) (e : Gf.gp 2 m = Gf.gp 2 n) : m = n := by
  rw [← Gf.x2_eq, ← Gf.x2_eq] at e
  have := congrArg Gf.lgo e
  rw [Gf.lgo_x2, Gf.lgo_x2, Nat.mod_eq_of_lt hm, Nat.mod_eq_of_lt hn] at this
  exact this

def facF (us hs : List Nat) : Fm := fun b a => fac (us.getD b 0) (hs.getD a 0)
theorem facF_F8 (us hs : List Nat) : F8 (facF us hs) := fun _ _ => fac_lt _ _

theorem ap_of {us : List Nat} (hp : us.Pairwise (· < ·)) (h3 : ∀ u ∈ us, u < 3) : ∃ u0 d, 1 ≤ d ∧ d ≤ 2 ∧ ∀ b, b < us.length → us.getD b 0 = u0 + d * b := by
  match us, hp, h3 with
  | [], _, _ => exact ⟨0, 1, by omega, by omega, fun b hb => by simp at hb⟩
  | [a], _, _ => exact ⟨a, 1, by omega, by omega, fun b hb => by simp at hb; subst hb; simp⟩
  | [a, b], hp, h3 =>
    have ha := h3 a (by simp)
    have hb := h3 b (by simp)
    have hab : a < b := by simpa using hp
    refine ⟨a, b - a, by omega, by omega, fun i hi => ?_⟩
    simp at hi
    obtain rfl | rfl : i = 0 ∨ i = 1 := by omega
    · simp
    · simp; omega
  | [a, b, c], hp, h3 =>
    have hc := h3 c (by simp)
    simp at hp
    refine ⟨0, 1, by omega, by omega, fun i hi => ?_⟩
    simp at hi
    obtain rfl | rfl | rfl : i = 0 ∨ i = 1 ∨ i = 2 := by omega
    · simp; omega
    · simp; omega
    · simp; omega
  | a :: b :: c :: d :: l, hp, h3 =>
    have hd := h3 d (by simp)
    simp at hp
    omega

theorem pw_ne {l : List Nat} (hp : l.Pairwise (· < ·)) {i j : Nat} (hj : j < i) (hi : i < l.length) : l.getD j 0 < l.getD i 0 := by
  rw [getD_at (by omega), getD_at hi]
  exact (List.pairwise_iff_getElem.1 hp) j i (by omega) hi hj

theorem facF_full {us hs : List Nat} {t : Nat} (hu : us.length = t) (hh : hs.length = t) (pu : us.Pairwise (· < ·)) (ph : hs.Pairwise (· < ·)) (u3 : ∀ u ∈ us, u < 3) (h12 : ∀ i ∈ hs, i < 12) : rk t t (facF us hs) = t := by
  obtain ⟨u0, d, d1, d2, hap⟩ := ap_of pu u3
  have h2 : (2 : Nat) < 256 := by omega
  have hp : ∀ i, (fun i => Gf.gp 2 (hs.getD i 0 * d)) i < 256 := fun i => Gf.gp_lt h2 _
  have hsl : ∀ i, i < t → hs.getD i 0 < 12 := fun i hi => by rw [getD_at (by omega)]; exact h12 _ (List.getElem_mem _)
  have hv := van_right hp (n := t) fun i j hi hj e => by
    have l1 := hsl i hi
    have l2 := hsl j (by omega)
    have lt := pw_ne ph hj (by omega)
    have hd : hs.getD i 0 * d < 255 := Nat.lt_of_le_of_lt (Nat.mul_le_mul (Nat.le_of_lt l1) d2) (by omega)
    have hd2 : hs.getD j 0 * d < 255 := Nat.lt_of_le_of_lt (Nat.mul_le_mul (Nat.le_of_lt l2) d2) (by omega)
    have := gp2_inj hd hd2 e
    have := Nat.eq_of_mul_eq_mul_right (by omega) this
    omega
  have inv := (invF_both (van_F8 hp) hv).1
  have hY := invF_F8 (n := t) (van_F8 hp)
  generalize invF t (van fun i => Gf.gp 2 (hs.getD i 0 * d)) = Y at inv hY
  have sl : ∀ a, Gf.gp 2 (hs.getD a 0 * u0) < 256 := fun a => Gf.gp_lt h2 _
  have sn : ∀ a, Gf.gp 2 (hs.getD a 0 * u0) ≠ 0 := fun a => by rw [← Gf.x2_eq]; exact Gf.x2_ne _
  refine rk_right (B := fun a c => Gf.gm (Gf.gi (Gf.gp 2 (hs.getD a 0 * u0))) (Y c a)) (fun a c => Gf.gm_lt (Gf.gi_lt (sl a))) (facF_F8 us hs) fun b c hb hc => ?_
  have e := inv c b hc hb
  have : mulF t (facF us hs) (fun a c => Gf.gm (Gf.gi (Gf.gp 2 (hs.getD a 0 * u0))) (Y c a)) b c = mulF t Y (van fun i => Gf.gp 2 (hs.getD i 0 * d)) c b := by
    unfold mulF
    refine xsum_congr fun a _ => ?_
    have ef : facF us hs b a = Gf.gm (Gf.gp 2 (hs.getD a 0 * u0)) (van (fun i => Gf.gp 2 (hs.getD i 0 * d)) a b) := by
      unfold facF van fac
      rw [hap b (by omega), gp_mul h2, ← Gf.gp_add h2]
      congr 1; rw [Nat.mul_add, Nat.mul_assoc]
    have hV : van (fun i => Gf.gp 2 (hs.getD i 0 * d)) a b < 256 := van_F8 hp a b
    generalize van (fun i => Gf.gp 2 (hs.getD i 0 * d)) a b = V at *
    have s1 := sl a
    have s2 := sn a
    show Gf.gm (facF us hs b a) (Gf.gm (Gf.gi (Gf.gp 2 (hs.getD a 0 * u0))) (Y c a)) = _
    rw [ef]
    generalize Gf.gp 2 (hs.getD a 0 * u0) = s at *
    have g1 := Gf.gi_lt s1
    rw [Gf.gm_comm s1 hV, Gf.gm_assoc hV s1 (Gf.gm_lt g1), ← Gf.gm_assoc s1 g1 (hY c a), Gf.gm_gi s1 s2, Gf.one_gm (hY c a), Gf.gm_comm hV (hY c a)]
  rw [this, e, dl_comm]

/-- A sum over the places that fit. -/
theorem xsum_filter (g : Nat → Bool) (f : Nat → Nat) : ∀ n, xsum n (fun i => if g i then f i else 0) = xsum ((List.range n).filter g).length (fun a => f (((List.range n).filter g).getD a 0))
  | 0 => rfl
  | n + 1 => by
    show xsum n _ ^^^ (if g n then f n else 0) = _
    rw [xsum_filter g f n, List.range_succ, List.filter_append]
    by_cases h : g n = true
    · rw [if_pos h]
      simp only [List.filter_cons, h, if_true, List.filter_nil, List.length_append, List.length_cons, List.length_nil, Nat.zero_add]
      show _ = xsum _ _ ^^^ f _
      congr 1
      · refine xsum_congr fun a ha => ?_
        simp only [List.getD, List.getElem?_append_left ha]
      · simp
    · rw [if_neg h]
      simp [h]

/-- The columns with noughts for those that are lost. -/
def holed (g : Nat → Bool) (M : List (List Nat)) (w : Nat) : List (List Nat) := (List.range M.length).map fun i => if g i then List.replicate w 0 else M.getD i []
theorem holed_len (g : Nat → Bool) (M : List (List Nat)) (w : Nat) : (holed g M w).length = M.length := by simp [holed]
theorem holed_row {g : Nat → Bool} {M : List (List Nat)} {w : Nat} (hM : ∀ r ∈ M, r.length = w) : ∀ r ∈ holed g M w, r.length = w := by
  intro r hr
  obtain ⟨i, hi, rfl⟩ := List.mem_map.1 hr
  split
  · simp
  · rw [getD_at (by simpa using hi)]; exact hM _ (List.getElem_mem _)
theorem holed_small {g : Nat → Bool} {M : List (List Nat)} {w : Nat} (hM : SmallM M) : SmallM (holed g M w) := by
  intro r hr
  obtain ⟨i, hi, rfl⟩ := List.mem_map.1 hr
  split
  · intro x hx; rw [List.eq_of_mem_replicate hx]; omega
  · rw [getD_at (by simpa using hi)]; exact hM _ (List.getElem_mem _)
theorem holed_get {g : Nat → Bool} {M : List (List Nat)} {w i : Nat} (hi : i < M.length) : (holed g M w).getD i [] = if g i then List.replicate w 0 else M.getD i [] := by
  simp [holed, List.getD, List.getElem?_range hi]

/-- What the columns that are left lack. -/
def want (g : Nat → Bool) (M : List (List Nat)) (w j : Nat) : List Nat := mixed 1 (enc (holed g M w) j w) (enc M j w)
theorem want_len (g : Nat → Bool) (M : List (List Nat)) (w j : Nat) : (want g M w j).length = w := by
  unfold want; rw [mixed_len (by rw [enc_len, enc_len]), enc_len]
theorem enc_small (M : List (List Nat)) (j w : Nat) : Small (enc M j w) := encTo_small M j w _
theorem mixed_small {x : Nat} {d s : List Nat} (hx : x < 256) (hd : Small d) (h : d.length = s.length) : Small (mixed x d s) := by
  intro y hy
  obtain ⟨i, hi, rfl⟩ := List.getElem_of_mem hy
  rw [mixed_len h] at hi
  rw [mixed_get h hi]
  exact Gf.xor_lt (hd _ (List.getElem_mem _)) (Gf.gm_lt hx)
theorem want_small (g : Nat → Bool) (M : List (List Nat)) (w j : Nat) : Small (want g M w j) := mixed_small (by omega) (enc_small _ _ _) (by rw [enc_len, enc_len])
theorem enc_at (M : List (List Nat)) (j w k : Nat) (hk : k < w) : (enc M j w).getD k 0 = xsum M.length fun i => Gf.gm (fac j i) ((M.getD i []).getD k 0) := by
  simp [enc, encTo, List.getD, List.getElem?_range hk]
theorem mixed_at {x : Nat} {d s : List Nat} (h : d.length = s.length) {k : Nat} (hk : k < d.length) : (mixed x d s).getD k 0 = d.getD k 0 ^^^ Gf.gm x (s.getD k 0) := by
  rw [getD_at (by rw [mixed_len h]; exact hk), mixed_get h hk, getD_at hk, getD_at (by omega)]
theorem want_at {g : Nat → Bool} {M : List (List Nat)} {w : Nat} (j k : Nat) (hk : k < w) : (want g M w j).getD k 0 = xsum ((List.range M.length).filter g).length fun a => Gf.gm (fac j (((List.range M.length).filter g).getD a 0)) ((M.getD (((List.range M.length).filter g).getD a 0) []).getD k 0) := by
  unfold want
  have l1 := enc_len M j w
  rw [mixed_at (by rw [enc_len, enc_len]) (by rw [enc_len]; exact hk), Gf.one_gm, enc_at _ _ _ _ hk, enc_at _ _ _ _ hk, holed_len, ← xsum_xor, ← xsum_filter g fun i => Gf.gm (fac j i) ((M.getD i []).getD k 0)]
  · refine xsum_congr fun i hi => ?_
    rw [holed_get hi]
    by_cases h : g i = true
    · rw [if_pos h, if_pos h]
      simp [List.getD, List.getElem?_replicate, hk, Gf.gm_zero]
    · rw [if_neg h, if_neg h, Nat.xor_self]
  · rw [getD_at (by omega)]; exact enc_small M j w _ (List.getElem_mem _)

/-- A hole after b columns. -/
def fillTo (Rm : Fm) (W : Nat → List Nat) (w a b : Nat) : List Nat := (List.range w).map fun k => xsum b fun c => Gf.gm (Rm a c) ((W c).getD k 0)
theorem fillTo_len (Rm : Fm) (W : Nat → List Nat) (w a b : Nat) : (fillTo Rm W w a b).length = w := by simp [fillTo]
theorem fillTo_zero (Rm : Fm) (W : Nat → List Nat) (w a : Nat) : fillTo Rm W w a 0 = List.replicate w 0 := by
  unfold fillTo
  apply List.ext_getElem
  · simp
  · intro i h1 h2; simp [xsum]
theorem fillTo_small {Rm : Fm} (hR : F8 Rm) (W : Nat → List Nat) (w a b : Nat) : Small (fillTo Rm W w a b) := by
  intro x hx
  obtain ⟨k, _, rfl⟩ := List.mem_map.1 hx
  exact xsum_lt _ fun c _ => Gf.gm_lt (hR _ _)
theorem fillTo_succ {Rm : Fm} {W : Nat → List Nat} {w a b : Nat} (hW : (W b).length = w) : mixed (Rm a b) (fillTo Rm W w a b) (W b) = fillTo Rm W w a (b + 1) := by
  apply List.ext_getElem
  · rw [mixed_len (by rw [fillTo_len, hW]), fillTo_len, fillTo_len]
  · intro k h1 h2
    rw [fillTo_len] at h2
    rw [mixed_get (by rw [fillTo_len, hW]) (by rw [fillTo_len]; exact h2)]
    simp only [fillTo, List.getElem_map, List.getElem_range]
    show _ = xsum b _ ^^^ Gf.gm (Rm a b) ((W b).getD k 0)
    rw [getD_at (by omega)]

theorem fill_law {g : Nat → Bool} {M : List (List Nat)} {w t : Nat} {us : List Nat} (hM : ∀ r ∈ M, r.length = w) (sM : SmallM M) (hn : M.length ≤ 12) (hu : us.length = t) (hh : ((List.range M.length).filter g).length = t) (pu : us.Pairwise (· < ·)) (u3 : ∀ u ∈ us, u < 3) {a : Nat} (ha : a < t) :
    fillTo (invF t (facF us ((List.range M.length).filter g))) (fun b => want g M w (us.getD b 0)) w a t = M.getD (((List.range M.length).filter g).getD a 0) [] := by
  have ph : ((List.range M.length).filter g).Pairwise (· < ·) := List.Pairwise.filter _ List.pairwise_lt_range
  have h12 : ∀ i ∈ (List.range M.length).filter g, i < 12 := fun i hi => by
    have := List.mem_range.1 (List.mem_filter.1 hi).1; omega
  have hlt : ∀ a, a < t → ((List.range M.length).filter g).getD a 0 < M.length := fun a ha => by
    rw [getD_at (by omega)]; exact List.mem_range.1 (List.mem_filter.1 (List.getElem_mem _)).1
  have full := facF_full hu hh pu ph u3 h12
  have inv := (invF_both (facF_F8 us _) full).1
  have hR := invF_F8 (n := t) (facF_F8 us ((List.range M.length).filter g))
  generalize hRe : invF t (facF us ((List.range M.length).filter g)) = Rm at *
  have hl := hlt a ha
  apply List.ext_getElem
  · rw [fillTo_len, getD_at hl, hM _ (List.getElem_mem _)]
  · intro k h1 h2
    rw [fillTo_len] at h1
    simp only [fillTo, List.getElem_map, List.getElem_range]
    have hD : F8 fun c k => (M.getD (((List.range M.length).filter g).getD c 0) []).getD k 0 := fun c k => entD_lt sM _ _
    rw [xsum_congr (g := fun c => Gf.gm (Rm a c) (xsum t fun a => Gf.gm (facF us ((List.range M.length).filter g) c a) ((M.getD (((List.range M.length).filter g).getD a 0) []).getD k 0))) fun c _ => by rw [want_at _ _ h1, hh]; rfl]
    rw [assoc3 (fun k => hR a k) (facF_F8 us _) hD k]
    rw [xsum_congr (g := fun c => Gf.gm (dl a c) ((M.getD (((List.range M.length).filter g).getD c 0) []).getD k 0)) fun c hc => by rw [← inv a c ha hc]; rfl]
    rw [xsum_dl t a _ (fun c => entD_lt sM _ _) ha, getD_at h2]

end Go.Proofs.Ytdfopcgfhjijgaa.T

namespace Go.Proofs.Ytdfopcgfhjijgaa.T
open Go Go.RowKit Go.Proofs

/-! ### lists are the same -/
theorem sb_loop (call : YldF → CallF) (lf : Nat) (l : List Nat) (hl : l.length ≤ 1000000000000000) {sa ta : Option (Nat × Nat)} (sc tc : Bool) {h : AHeap} {n1 n2 : Nat} (hs : Sl h n1 sa l.length 1 (ints .u8 (nints l))) (ht : Sl h n2 ta l.length 1 (ints .u8 (nints l))) (m : Nat) :
    ∀ (r i nx : Nat), i + m = l.length → m < r → ∃ nx', nx ≤ nx' ∧ F57_L1 call Y0 lf r sa l.length sc ta l.length tc (i : Int) h nx = some (.bool true, h, nx') := by
  induction m with
  | zero =>
    intro r i nx e hr
    obtain ⟨r, rfl⟩ : ∃ m, r = m + 1 := ⟨r - 1, by omega⟩
    obtain rfl : i = l.length := by omega
    rw [F57_L1_eq, if_neg (by simp)]
    exact ⟨_, by omega, rfl⟩
  | succ m ih =>
    intro r i nx e hr
    obtain ⟨r, rfl⟩ : ∃ m, r = m + 1 := ⟨r - 1, by omega⟩
    have hi : i < l.length := by omega
    rw [F57_L1_eq, if_pos (by simpa using hi), hs.readN rfl hi]
    simp only [bind_some', asI_int, asB_bool, asStr_str, asP_ptr, asSl_sl, asAgg_1, asAgg_2, asAgg_3, asAgg_4, asTup_0, asTup_2, asTup_3, asTup_4, if_true', if_false', if_not_true', if_not_false', getD_0, getD_1, getD_2, getD_3]
    rw [ht.readN rfl hi]
    simp only [bind_some', asI_int, asB_bool, asStr_str, asP_ptr, asSl_sl, asAgg_1, asAgg_2, asAgg_3, asAgg_4, asTup_0, asTup_2, asTup_3, asTup_4, if_true', if_false', if_not_true', if_not_false', getD_0, getD_1, getD_2, getD_3]
    rw [if_neg (by simp), wsucc (by omega)]
    obtain ⟨nx', l', e'⟩ := ih r (i + 1) (nx + 16) (by omega) (by omega)
    exact ⟨nx', by omega, e'⟩
theorem sb_spec {f : Nat} (l : List Nat) {w : Nat} (hw : l.length = w) (hf : w + 2 ≤ f) (hl : w ≤ 1000000) {sa ta : Option (Nat × Nat)} (sc tc : Bool) {h : AHeap} {n1 n2 : Nat} (hs : Sl h n1 sa w 1 (ints .u8 (nints l))) (ht : Sl h n2 ta w 1 (ints .u8 (nints l))) (nx : Nat) :
    ∃ nx', nx ≤ nx' ∧ callP Try.prog keepT f Y0 57 [.slice sa w sc, .slice ta w tc] h nx = some (.bool true, h, nx') := by
  subst hw
  obtain ⟨f, rfl⟩ : ∃ m, f = m + 1 := ⟨f - 1, by omega⟩
  rw [F57_eq, if_neg (by simp)]
  obtain ⟨nx', l', e'⟩ := sb_loop (callP Try.prog keepT f) f l (by omega) sc tc hs ht l.length f 0 (nx + 7) (by omega) (by omega)
  exact ⟨nx', by omega, e'⟩

theorem sl_spec {f : Nat} {M : List (List Nat)} {w n : Nat} (hf : 5000 ≤ f) (hn : M.length = n) (hM : n ≤ 256) (hw : w ≤ 4096) {sa ta : Option (Nat × Nat)} (sc tc : Bool) {h : AHeap} {n1 n2 : Nat} (hs : Mat h n1 .u8 sa M w) (ht : Mat h n2 .u8 ta M w) (nx : Nat) :
    ∃ nx', nx ≤ nx' ∧ callP Try.prog keepT f Y0 37 [.slice sa n sc, .slice ta n tc] h nx = some (.bool true, h, nx') := by
  subst hn
  obtain ⟨f, rfl⟩ : ∃ m, f = m + 1 := ⟨f - 1, by omega⟩
  have loop : ∀ (m r i nn : Nat), i + m = M.length → m < r → ∃ nx', nn ≤ nx' ∧ F37_L1 (callP Try.prog keepT f) Y0 f r sa M.length sc ta M.length tc (i : Int) h nn = some (.bool true, h, nx') := by
    intro m
    induction m with
    | zero =>
      intro r i nn e hr
      obtain ⟨r, rfl⟩ : ∃ m, r = m + 1 := ⟨r - 1, by omega⟩
      obtain rfl : i = M.length := by omega
      rw [F37_L1_eq, if_neg (by simp)]
      exact ⟨_, by omega, rfl⟩
    | succ m ih =>
      intro r i nn e hr
      obtain ⟨r, rfl⟩ : ∃ m, r = m + 1 := ⟨r - 1, by omega⟩
      have hi : i < M.length := by omega
      obtain ⟨q, q1, q2, q3⟩ := hs.row (R := AV × AHeap × Nat) hi
      obtain ⟨t, t1, t2, t3⟩ := ht.row (R := AV × AHeap × Nat) hi
      obtain ⟨n3, l3, e3⟩ := sb_spec (f := f) M[i] q1 (by omega) (by omega) q.2 t.2 (h := h) q2 t2 (nn + 14)
      rw [F37_L1_eq, if_pos (by simpa using hi), q3]
      simp only [bind_some', asI_int, asB_bool, asStr_str, asP_ptr, asSl_sl, asAgg_1, asAgg_2, asAgg_3, asAgg_4, asTup_0, asTup_2, asTup_3, asTup_4, if_true', if_false', if_not_true', if_not_false', getD_0, getD_1, getD_2, getD_3]
      rw [t3]
      simp only [bind_some', asI_int, asB_bool, asStr_str, asP_ptr, asSl_sl, asAgg_1, asAgg_2, asAgg_3, asAgg_4, asTup_0, asTup_2, asTup_3, asTup_4, if_true', if_false', if_not_true', if_not_false', getD_0, getD_1, getD_2, getD_3]
      rw [e3]
      simp only [bind_some', asI_int, asB_bool, asStr_str, asP_ptr, asSl_sl, asAgg_1, asAgg_2, asAgg_3, asAgg_4, asTup_0, asTup_2, asTup_3, asTup_4, if_true', if_false', if_not_true', if_not_false', getD_0, getD_1, getD_2, getD_3]
      rw [wsucc (by omega)]
      obtain ⟨nx', l', e'⟩ := ih r (i + 1) (n3 + 3) (by omega) (by omega)
      exact ⟨nx', by omega, e'⟩
  rw [F37_eq, if_neg (by simp)]
  obtain ⟨nx', l', e'⟩ := loop M.length f 0 (nx + 7) (by omega) (by omega)
  exact ⟨nx', by omega, e'⟩

/-! ### a copy of bytes -/
theorem bclone_spec {f : Nat} (hf : 1 ≤ f) {l : List Nat} {w : Nat} (hl : l.length = w) (hk : w ≤ 1000000) {a : Option (Nat × Nat)} (c : Bool) {h : AHeap} {nx : Nat} (s : Sl h nx a w 1 (ints .u8 (nints l))) :
    ∃ (q : Rw) (h' : AHeap) (nx' : Nat), callP Try.prog keepT f Y0 68 [.slice a w c] h nx = some (.slice q.1 w q.2, h', nx') ∧ RowOwn h' nx nx' .u8 w q l ∧ Ext h nx h' nx' := by
  obtain ⟨f, rfl⟩ : ∃ m, f = m + 1 := ⟨f - 1, by omega⟩
  cases a with
  | none =>
    have w0 : w = 0 := by
      rcases Nat.eq_zero_or_pos w with e | e
      · exact e
      · obtain ⟨p, b, e1, _⟩ := s.2 0 e; cases e1
    subst w0
    rw [F68_eq, if_pos (by simp)]
    exact ⟨(none, false), h, nx + 4, rfl, ⟨hl, .inl ⟨rfl, rfl⟩⟩, by omega, fun _ _ => rfl⟩
  | some a =>
    have x1 : Ext h nx (h.put (nx + 3) (some ⟨[], 1, true⟩)) (nx + 4) := ⟨by omega, fun j hj => put_ne (by omega)⟩
    obtain ⟨rd, e1⟩ := (s.ext x1).src'
    have o : OwnSl (h.put (nx + 3) (some ⟨[], 1, true⟩)) nx (nx + 4) (some (nx + 3, 0)) 0 1 [] := ⟨by simp, .inr ⟨nx + 3, rfl, by omega, by omega, put_same _ _ _⟩⟩
    obtain ⟨e, f1, f2, f3, f4, _⟩ := o.appendS true (bytes := 1) (id := nx + 5) (k := w) (ws := ints .u8 (nints l)) (rd := rd) s.1 (growOk_of (by omega) (by omega)) (by omega) (by omega)
    rw [Nat.zero_add] at f2 f3
    rw [List.nil_append] at f3
    rw [F68_eq, if_neg (by simp)]
    dsimp only
    rw [e1, some_bind, f1, some_bind, f2]
    refine ⟨(e.a, e.c), _, nx + 7, rfl, ⟨hl, ?_⟩, ⟨by omega, fun j hj => by rw [f4.2 j (by omega), put_ne (by omega)]⟩⟩
    rcases f3.2 with ⟨g0, z⟩ | ⟨id, g1, g2, g3, g4⟩
    · exact .inl ⟨g0, z⟩
    · exact .inr ⟨id, g1, g2, by omega, g4⟩

/-! ### rows that one pushes: matrices -/
theorem appD_reads {h : AHeap} {a : Option (Nat × Nat)} {n : Nat} {c : Bool} {es bytes id k : Nat} {ws : List AV} {rd : List Nat} {e : AE} (he : appD h a n c es bytes id (k, ws, rd) = some e) : ∀ i ∈ e.reads, ownOf a i ∨ i ∈ rd := by
  unfold appD at he
  split at he
  · obtain rfl := Option.some.inj he; exact fun i hi => .inr hi
  · split at he
    · cases a with
      | none => simp only at he; obtain rfl := Option.some.inj he; exact fun i hi => .inr hi
      | some a =>
        simp only at he
        cases hb : h a.1 with
        | none => rw [hb] at he; cases he
        | some b =>
          rw [hb, Option.bind_some] at he
          split at he
          · split at he
            · obtain rfl := Option.some.inj he
              intro i hi
              rcases List.mem_cons.1 hi with rfl | hi
              · exact .inl ⟨a.2, rfl⟩
              · exact .inr hi
            · split at he
              · obtain rfl := Option.some.inj he
                intro i hi
                rcases List.mem_cons.1 hi with rfl | hi
                · exact .inl ⟨a.2, rfl⟩
                · exact .inr hi
              · cases he
          · cases he
    · cases he
theorem OwnRows.pushE {α : Type} {Q : α → List AV → Prop} {h0 h : AHeap} {n0 nx : Nat} {a : Option (Nat × Nat)} {es : Nat} {l : List α} (w : OwnRows Q h nx a es l) (x0 : Ext h0 n0 h nx) (lo : ∀ i, ownOf a i → n0 ≤ i) (c : Bool) {bytes id id2 : Nat} {x : α} {r : List AV} (hr : r.length = es) (hq : Q x r) (hg : growOk (l.length + 1) bytes = true) (h1 : nx ≤ id) (h2 : id < id2) :
    ∃ e, srcS (h.put id (some ⟨r, es, true⟩)) (some (id, 0)) 1 es = some (1, r, [id]) ∧ appD (h.put id (some ⟨r, es, true⟩)) a l.length c es bytes id2 (1, r, [id]) = some e ∧ e.a = some (id2, 0) ∧ e.n = l.length + 1 ∧
      OwnRows Q ((h.put id (some ⟨r, es, true⟩)).puts e.sets) (id2 + 1) e.a es (l ++ [x]) ∧ Frm (ownOf a) h nx ((h.put id (some ⟨r, es, true⟩)).puts e.sets) (id2 + 1) ∧ Ext h0 n0 ((h.put id (some ⟨r, es, true⟩)).puts e.sets) (id2 + 1) ∧ (∀ i, ownOf e.a i → i = id2) ∧ ∀ i, i ∈ e.reads → ownOf a i ∨ i = id := by
  obtain ⟨e, s1, s2, s3, s4, s5, s6, s7, s8⟩ := w.push c hr hq hg h1 h2
  refine ⟨e, s1, s2, s3, s4, s5, s6, ⟨by have := s6.1; have := x0.1; omega, fun i hi => ?_⟩, fun i hi => ?_, ?_⟩
  · rw [s6.2 i (by have := x0.1; omega) (fun q => by have := lo i q; omega), x0.2 i hi]
  · obtain ⟨o, ho⟩ := hi
    rw [s3] at ho
    have := congrArg Prod.fst (Option.some.inj ho)
    exact this.symm
  · intro i hi
    rcases appD_reads s2 i hi with q | q
    · exact .inl q
    · simp at q; exact .inr q

theorem RowsAt_all {α : Type} {h : AHeap} {nx w : Nat} {kd : IntKind} {Q : α → List AV → Prop} {D : α → List Nat} : ∀ {l : List α} {rows : List (List AV)}, All2 Q l rows → (∀ x ∈ l, ∀ r, Q x r → ∃ q : Rw, r = [rcell w q] ∧ (D x).length = w ∧ Sl h nx q.1 w 1 (ints kd (nints (D x)))) → ∃ qs : List Rw, rows.flatten = qs.map (rcell w) ∧ RowsAt h nx kd w qs (l.map D)
  | [], rows, e, _ => by simp only [All2] at e; subst e; exact ⟨[], rfl, trivial⟩
  | x :: l, rows, e, k => by
    obtain ⟨r, rs, rfl, a, b⟩ := e
    obtain ⟨q, rfl, q1, q2⟩ := k x List.mem_cons_self r a
    obtain ⟨qs, e1, e2⟩ := RowsAt_all b fun y hy => k y (List.mem_cons_of_mem _ hy)
    exact ⟨q :: qs, by simp [e1], ⟨q1, q2⟩, e2⟩
theorem OwnRows.mat {α : Type} {h : AHeap} {nx w : Nat} {kd : IntKind} {Q : α → List AV → Prop} {D : α → List Nat} {a : Option (Nat × Nat)} {l : List α} (o : OwnRows Q h nx a 1 l) (k : ∀ x ∈ l, ∀ r, Q x r → ∃ q : Rw, r = [rcell w q] ∧ (D x).length = w ∧ Sl h nx q.1 w 1 (ints kd (nints (D x)))) : Mat h nx kd a (l.map D) w := by
  obtain ⟨rows, q, len, s, _⟩ := o.rows (A := fun _ => False) (fun _ _ q => q)
  obtain ⟨qs, e1, e2⟩ := RowsAt_all q k
  refine ⟨qs, e2, ?_⟩
  rw [← e1, List.length_map]; exact s
theorem RowsAt_map {h : AHeap} {nx w : Nat} {kd : IntKind} {q : Nat → Rw} {D : Nat → List Nat} : ∀ {l : List Nat}, (∀ k ∈ l, (D k).length = w ∧ Sl h nx (q k).1 w 1 (ints kd (nints (D k)))) → RowsAt h nx kd w (l.map q) (l.map D)
  | [], _ => trivial
  | x :: l, k => ⟨k x List.mem_cons_self, RowsAt_map fun y hy => k y (List.mem_cons_of_mem _ hy)⟩

/-! ### columns of which some may be lost -/
def bls (g : Nat → Bool) (n : Nat) : List AV := (List.range n).map fun k => .bool (g k)
theorem bls_len (g : Nat → Bool) (n : Nat) : (bls g n).length = n := by simp [bls]
theorem bls_get (g : Nat → Bool) {n k : Nat} (hk : k < n) : (bls g n)[k]? = some (.bool (g k)) := by simp [bls, List.getElem?_range hk]
theorem bls_false (n : Nat) : madeA [AV.bool false] n = bls (fun _ => false) n := by
  rw [made1]; unfold bls
  apply List.ext_getElem
  · simp
  · intro i h1 h2; simp
theorem bls_set {g : Nat → Bool} {n k : Nat} : (bls g n).set k (.bool true) = bls (fun j => j == k || g j) n := by
  apply List.ext_getElem
  · simp [bls]
  · intro i h1 h2
    rw [List.getElem_set]
    simp only [bls, List.getElem_map, List.getElem_range]
    by_cases e : k = i
    · subst e; simp
    · rw [if_neg e]; simp [Ne.symm e]
theorem bls_one (g : Nat → Bool) (n : Nat) : allOne (bls g n) = true := by simp [allOne, bls, AV.one]
theorem Sl.readB {R : Type} {h : AHeap} {nx : Nat} {a : Option (Nat × Nat)} {n : Nat} {g : Nat → Bool} (s : Sl h nx a n 1 (bls g n)) {i : Nat} (hi : i < n) (K : AV → Option R) :
    (a.bind fun p => if 0 ≤ (i : Int) ∧ (i : Int) < ((n : Nat) : Int) then (ldA h p.1 (p.2 + Int.toNat (i : Int) * 1)).bind K else none) = K (.bool (g i)) :=
  s.read0 (by omega) (by omega) (by omega) (by rw [Int.toNat_natCast, Nat.mul_one]; exact bls_get g hi) K

def Torn (h : AHeap) (nx : Nat) (a : Option (Nat × Nat)) (n : Nat) (g : Nat → Bool) (w : Nat) (D : Nat → List Nat) : Prop :=
  ∃ P : Nat → Option (Nat × Nat) × Nat × Bool, Sl h nx a n 1 ((List.range n).map fun k => .slice (P k).1 (P k).2.1 (P k).2.2) ∧ ∀ k, k < n → g k = false → (P k).2.1 = w ∧ (D k).length = w ∧ Sl h nx (P k).1 w 1 (ints .u8 (nints (D k)))
theorem Torn.ext {h h' : AHeap} {nx nx' : Nat} {a : Option (Nat × Nat)} {n : Nat} {g : Nat → Bool} {w : Nat} {D : Nat → List Nat} (t : Torn h nx a n g w D) (x : Ext h nx h' nx') : Torn h' nx' a n g w D := by
  obtain ⟨P, s, k⟩ := t
  exact ⟨P, s.ext x, fun i hi hg => ⟨(k i hi hg).1, (k i hi hg).2.1, (k i hi hg).2.2.ext x⟩⟩
theorem Torn.of {h : AHeap} {nx : Nat} {a : Option (Nat × Nat)} {n : Nat} {M : List (List Nat)} {w : Nat} (m : Mat h nx .u8 a M w) (hn : M.length = n) (g : Nat → Bool) : Torn h nx a n g w (fun k => M.getD k []) := by
  subst hn
  obtain ⟨qs, r, s⟩ := m
  refine ⟨fun k => ((qs.getD k (none, false)).1, w, (qs.getD k (none, false)).2), ?_, fun k hk _ => ⟨rfl, ?_⟩⟩
  · have : (List.range M.length).map (fun k => AV.slice (qs.getD k (none, false)).1 w (qs.getD k (none, false)).2) = qs.map (rcell w) := by
      apply List.ext_getElem
      · simp [r.length]
      · intro i h1 h2
        have : i < qs.length := by simpa using h2
        simp [rcell, List.getElem?_eq_getElem this]
    rw [this]; exact s
  · obtain ⟨q, e1, e2, e3⟩ := r.get hk
    simp only [List.getD, e1, List.getElem?_eq_getElem hk, Option.getD_some]
    exact ⟨e2, e3⟩
theorem cells_get {P : Nat → Option (Nat × Nat) × Nat × Bool} {n k : Nat} (hk : k < n) : ((List.range n).map fun k => AV.slice (P k).1 (P k).2.1 (P k).2.2)[k]? = some (.slice (P k).1 (P k).2.1 (P k).2.2) := by
  simp [List.getElem?_range hk]
theorem Sl.readP {R : Type} {h : AHeap} {nx : Nat} {a : Option (Nat × Nat)} {n : Nat} {P : Nat → Option (Nat × Nat) × Nat × Bool} (s : Sl h nx a n 1 ((List.range n).map fun k => AV.slice (P k).1 (P k).2.1 (P k).2.2)) {i : Nat} (hi : i < n) (K : AV → Option R) :
    (a.bind fun p => if 0 ≤ (i : Int) ∧ (i : Int) < ((n : Nat) : Int) then (ldA h p.1 (p.2 + Int.toNat (i : Int) * 1)).bind K else none) = K (.slice (P i).1 (P i).2.1 (P i).2.2) :=
  s.read0 (by omega) (by omega) (by omega) (by rw [Int.toNat_natCast, Nat.mul_one]; exact cells_get hi) K

/-- Those that are not lost. -/
def kept (g : Nat → Bool) (n : Nat) : List Nat := (List.range n).filter fun k => !g k
theorem kept_succ (g : Nat → Bool) (n : Nat) : kept g (n + 1) = if g n then kept g n else kept g n ++ [n] := by
  unfold kept
  rw [List.range_succ, List.filter_append]
  by_cases h : g n = true
  · simp [h]
  · simp [h]
theorem kept_le (g : Nat → Bool) (n : Nat) : (kept g n).length ≤ n := by
  have := List.length_filter_le (fun k => !g k) (List.range n)
  simpa [kept] using this
theorem kept_mem {g : Nat → Bool} {n k : Nat} (h : k ∈ kept g n) : k < n ∧ g k = false := by
  obtain ⟨h1, h2⟩ := List.mem_filter.1 h
  exact ⟨List.mem_range.1 h1, by simpa using h2⟩

theorem left_loop (call : YldF → CallF) (lf : Nat) {a ga : Option (Nat × Nat)} (c gc : Bool) {n : Nat} (hn : n ≤ 256) {g : Nat → Bool} {P : Nat → Option (Nat × Nat) × Nat × Bool} {h0 : AHeap} {n0 : Nat} (s : Sl h0 n0 a n 1 ((List.range n).map fun k => AV.slice (P k).1 (P k).2.1 (P k).2.2)) (sg : Sl h0 n0 ga n 1 (bls g n)) (m : Nat) :
    ∀ (f i : Nat) (oa : Option (Nat × Nat)) (oc : Bool) (h : AHeap) (nx : Nat), i + m = n → m < f → Ext h0 n0 h nx → OwnRows (fun k r => r = [AV.slice (P k).1 (P k).2.1 (P k).2.2]) h nx oa 1 (kept g i) → (∀ i, ownOf oa i → n0 ≤ i) →
    ∃ oa' oc' h' nx', F55_L1 call Y0 lf f ga n gc oa (kept g i).length oc a n c ((n : Nat) : Int) (i : Int) h nx = some (.slice oa' (kept g n).length oc', h', nx') ∧ Ext h0 n0 h' nx' ∧ OwnRows (fun k r => r = [AV.slice (P k).1 (P k).2.1 (P k).2.2]) h' nx' oa' 1 (kept g n) := by
  induction m with
  | zero =>
    intro f i oa oc h nx e hf x o lo
    obtain ⟨f, rfl⟩ : ∃ m, f = m + 1 := ⟨f - 1, by omega⟩
    obtain rfl : i = n := by omega
    rw [F55_L1_eq, if_neg (by simp)]
    exact ⟨oa, oc, h, _, rfl, x.le (by omega), o.go (D := fun _ => False) ⟨by omega, fun _ _ _ => rfl⟩ (fun _ _ q => q) (fun _ _ q => q)⟩
  | succ m ih =>
    intro f i oa oc h nx e hf x o lo
    obtain ⟨f, rfl⟩ : ∃ m, f = m + 1 := ⟨f - 1, by omega⟩
    have hi : i < n := by omega
    have y := x.1
    rw [F55_L1_eq, if_pos (by simpa using hi), (s.ext x).readP hi]
    simp only [bind_some', asI_int, asB_bool, asStr_str, asP_ptr, asSl_sl, asAgg_1, asAgg_2, asAgg_3, asAgg_4, asTup_0, asTup_2, asTup_3, asTup_4, if_true', if_false', if_not_true', if_not_false', getD_0, getD_1, getD_2, getD_3]
    rw [(sg.ext x).readB hi]
    simp only [bind_some', asI_int, asB_bool, asStr_str, asP_ptr, asSl_sl, asAgg_1, asAgg_2, asAgg_3, asAgg_4, asTup_0, asTup_2, asTup_3, asTup_4, if_true', if_false', if_not_true', if_not_false', getD_0, getD_1, getD_2, getD_3]
    have ks := kept_succ g i
    by_cases hg : g i = true
    · rw [if_pos hg] at ks
      rw [hg, if_not_true', wsucc (by omega), ← ks]
      exact ih f (i + 1) oa oc h (nx + 13) (by omega) (by omega) (x.le (by omega)) (by rw [ks]; exact o.go (D := fun _ => False) ⟨by omega, fun _ _ _ => rfl⟩ (fun _ _ q => q) (fun _ _ q => q)) lo
    · have hg : g i = false := by simpa using hg
      rw [if_neg (by simp [hg])] at ks
      have kl := kept_le g i
      obtain ⟨e, s1, s2, s3, s4, s5, s6, s7, s8, _⟩ := o.pushE x lo oc (bytes := 24) (id := nx + 13) (id2 := nx + 14) (x := i) (r := [AV.slice (P i).1 (P i).2.1 (P i).2.2]) rfl rfl (growOk_of (by omega) (by omega)) (by omega) (by omega)
      rw [hg, if_not_false', s1, some_bind, s2, some_bind, s4, wsucc (by omega), show (kept g i).length + 1 = (kept g (i + 1)).length from by rw [ks]; simp]
      exact ih f (i + 1) e.a e.c _ (nx + 18) (by omega) (by omega) (s7.le (by omega)) (by rw [ks]; exact s5.go (D := fun _ => False) ⟨by omega, fun _ _ _ => rfl⟩ (fun _ _ q => q) (fun _ _ q => q)) (fun j hj => by have := s8 j hj; omega)

theorem left_spec {f : Nat} (hf : 300 ≤ f) {a ga : Option (Nat × Nat)} (c gc : Bool) {n w : Nat} (hn : n ≤ 256) {g : Nat → Bool} {D : Nat → List Nat} {h : AHeap} {nx : Nat} (t : Torn h nx a n g w D) (sg : Sl h nx ga n 1 (bls g n)) :
    ∃ oa oc h' nx', callP Try.prog keepT f Y0 55 [.slice a n c, .slice ga n gc] h nx = some (.slice oa (kept g n).length oc, h', nx') ∧ Ext h nx h' nx' ∧ Mat h' nx' .u8 oa ((kept g n).map D) w := by
  obtain ⟨f, rfl⟩ : ∃ m, f = m + 1 := ⟨f - 1, by omega⟩
  obtain ⟨P, s, k⟩ := t
  obtain ⟨oa, oc, h', nx', e', x', o'⟩ := left_loop (callP Try.prog keepT f) f c gc hn s sg n f 0 none false h (nx + 5) (by omega) (by omega) ⟨by omega, fun _ _ => rfl⟩ (OwnRows.nil _ _ _ _) (fun i hi => by obtain ⟨o, ho⟩ := hi; cases ho)
  rw [show ((0 : Nat) : Int) = 0 from rfl] at e'
  rw [F55_eq]
  refine ⟨oa, oc, h', nx', e', x', o'.mat fun i hi r hr => ?_⟩
  obtain ⟨h1, h2⟩ := kept_mem hi
  obtain ⟨k1, k2, k3⟩ := k i h1 h2
  exact ⟨((P i).1, (P i).2.2), by rw [hr, k1]; rfl, k2, k3.ext x'⟩

end Go.Proofs.Ytdfopcgfhjijgaa.T

namespace Go.Proofs.Ytdfopcgfhjijgaa.T
open Go Go.RowKit Go.Proofs

/-! ### the columns that one builds -/
def outCells (w n : Nat) (ok : Nat → Bool) (q : Nat → Rw) : List AV := (List.range n).map fun k => if ok k then rcell w (q k) else .slice none 0 false
theorem outCells_len (w n : Nat) (ok : Nat → Bool) (q : Nat → Rw) : (outCells w n ok q).length = n := by simp [outCells]
theorem outCells_get {w n : Nat} {ok : Nat → Bool} {q : Nat → Rw} {k : Nat} (hk : k < n) (h : ok k = true) : (outCells w n ok q)[k]? = some (rcell w (q k)) := by
  simp [outCells, List.getElem?_range hk, h]
theorem outCells_set {w n : Nat} {ok : Nat → Bool} {q : Nat → Rw} {k : Nat} {r : Rw} : (outCells w n ok q).set k (rcell w r) = outCells w n (fun j => j == k || ok j) (fun j => if j = k then r else q j) := by
  apply List.ext_getElem
  · simp [outCells]
  · intro i h1 h2
    rw [List.getElem_set]
    simp only [outCells, List.getElem_map, List.getElem_range]
    by_cases e : k = i
    · subst e; simp
    · rw [if_neg e]; simp [Ne.symm e]
theorem outCells_zero (w n : Nat) (q : Nat → Rw) : madeA [AV.slice none 0 false] n = outCells w n (fun _ => false) q := by
  rw [made1]
  apply List.ext_getElem
  · simp [outCells]
  · intro i h1 h2; simp [outCells]
theorem outCells_congr {w n : Nat} {ok ok' : Nat → Bool} {q : Nat → Rw} (e : ∀ k, k < n → ok k = ok' k) : outCells w n ok q = outCells w n ok' q :=
  List.map_congr_left fun k hk => by rw [e k (List.mem_range.1 hk)]

structure Bld (h : AHeap) (lo nx ob w n : Nat) (ok : Nat → Bool) (q : Nat → Rw) (D : Nat → List Nat) (X : Nat → Prop) : Prop where
  hd : h ob = some ⟨outCells w n ok q, 1, true⟩
  b0 : lo ≤ ob
  b1 : ob < nx
  bx : ¬ X ob
  row : ∀ k, k < n → ok k = true → RowOwn h lo nx .u8 w (q k) (D k)
  rx : ∀ k, k < n → ok k = true → ∀ id, (q k).1 = some (id, 0) → id ≠ ob ∧ ¬ X id
  ds : ∀ k j, k < n → j < n → ok k = true → ok j = true → k ≠ j → ∀ id, (q k).1 = some (id, 0) → (q j).1 ≠ some (id, 0)

variable {h h' : AHeap} {lo nx nx' ob w n : Nat} {ok : Nat → Bool} {q : Nat → Rw} {D : Nat → List Nat} {X X' : Nat → Prop}

theorem RowOwn.in {k : IntKind} {r : List Nat} {p : Rw} (a : RowOwn h lo nx k w p r) {id o : Nat} (e : p.1 = some (id, o)) : lo ≤ id ∧ id < nx := by
  rcases a.2 with ⟨z, _⟩ | ⟨i, z, l0, l1, _⟩
  · rw [z] at e; cases e
  · rw [z] at e
    have := congrArg Prod.fst (Option.some.inj e)
    simp only at this; omega

theorem Bld.go {Y : Nat → Prop} (o : Bld h lo nx ob w n ok q D X) (f : Frm Y h nx h' nx') (d : ∀ i, i < nx → Y i → X i) (g : ∀ i, i < nx → X' i → X i) : Bld h' lo nx' ob w n ok q D X' where
  hd := (f.2 ob o.b1 fun y => o.bx (d _ o.b1 y)).trans o.hd
  b0 := o.b0
  b1 := by have := o.b1; have := f.1; omega
  bx := fun x => o.bx (g _ o.b1 x)
  row := fun k hk hok => (o.row k hk hok).keep f.1 fun id e hlt => f.2 id hlt fun y => (o.rx k hk hok id e).2 (d _ hlt y)
  rx := fun k hk hok id e => ⟨(o.rx k hk hok id e).1, fun x => (o.rx k hk hok id e).2 (g _ ((o.row k hk hok).in e).2 x)⟩
  ds := o.ds
theorem Bld.ext (o : Bld h lo nx ob w n ok q D X) (x : Ext h nx h' nx') (g : ∀ i, i < nx → X' i → X i) : Bld h' lo nx' ob w n ok q D X' :=
  o.go (x.fr fun _ => False) (fun _ _ q => q.elim) g
theorem Bld.congr {ok' : Nat → Bool} {D' : Nat → List Nat} (o : Bld h lo nx ob w n ok q D X) (e : ∀ k, k < n → ok k = ok' k) (f : ∀ k, k < n → ok' k = true → D k = D' k) : Bld h lo nx ob w n ok' q D' X where
  hd := by rw [← outCells_congr e]; exact o.hd
  b0 := o.b0
  b1 := o.b1
  bx := o.bx
  row := fun k hk hok => by rw [← f k hk hok]; exact o.row k hk (by rw [e k hk]; exact hok)
  rx := fun k hk hok => o.rx k hk (by rw [e k hk]; exact hok)
  ds := fun k j hk hj h1 h2 => o.ds k j hk hj (by rw [e k hk]; exact h1) (by rw [e j hj]; exact h2)
theorem Bld.new (hob : h ob = some ⟨outCells w n (fun _ => false) q, 1, true⟩) (b0 : lo ≤ ob) (b1 : ob < nx) (bx : ¬ X ob) (D : Nat → List Nat) : Bld h lo nx ob w n (fun _ => false) q D X :=
  ⟨hob, b0, b1, bx, fun _ _ e => (by cases e), fun _ _ e => (by cases e), fun _ _ _ _ e => (by cases e)⟩

/-- A column of one's own is set. -/
theorem Bld.set (o : Bld h lo nx ob w n ok q D X) {k : Nat} (hk : k < n) {r : Rw} (hr : RowOwn h lo nx .u8 w r (D k)) (hx : ∀ id, r.1 = some (id, 0) → id ≠ ob ∧ ¬ X id ∧ ∀ j, j < n → ok j = true → j ≠ k → (q j).1 ≠ some (id, 0)) :
    (∀ {R : Type} (K : ABlk → Option R), (stA h ob (0 + Int.toNat (k : Int) * 1) (.slice r.1 w r.2) 1).bind K = K ⟨outCells w n (fun j => j == k || ok j) (fun j => if j = k then r else q j), 1, true⟩) ∧
    Bld (h.put ob (some ⟨outCells w n (fun j => j == k || ok j) (fun j => if j = k then r else q j), 1, true⟩)) lo nx ob w n (fun j => j == k || ok j) (fun j => if j = k then r else q j) D X := by
  have okd : ∀ j, (j == k || ok j) = true → j = k ∨ (j ≠ k ∧ ok j = true) := fun j hj => by
    by_cases e : j = k
    · exact .inl e
    · right; simpa [e] using hj
  refine ⟨fun K => ?_, ?_⟩
  · rw [show 0 + Int.toNat (k : Int) * 1 = k from by omega]
    exact st_to o.hd rfl (by rw [outCells_len]; exact hk) outCells_set K
  · refine ⟨put_same _ _ _, o.b0, o.b1, o.bx, ?_, ?_, ?_⟩
    · intro j hj hok
      rcases okd j hok with rfl | ⟨e, hok⟩
      · simp only [if_true]
        exact hr.keep (Nat.le_refl _) fun id e _ => put_ne (hx id e).1
      · simp only [if_neg e]
        exact (o.row j hj hok).keep (Nat.le_refl _) fun id e _ => put_ne (o.rx j hj hok id e).1
    · intro j hj hok id e1
      rcases okd j hok with rfl | ⟨e, hok⟩
      · simp only [if_true] at e1
        exact ⟨(hx id e1).1, (hx id e1).2.1⟩
      · simp only [if_neg e] at e1
        exact o.rx j hj hok id e1
    · intro i j hi hj h1 h2 hij id e1 e2
      rcases okd i h1 with rfl | ⟨ei, h3⟩
      · simp only [if_true] at e1
        rcases okd j h2 with rfl | ⟨ej, h2⟩
        · exact hij rfl
        · simp only [if_neg ej] at e2
          exact (hx id e1).2.2 j hj h2 ej e2
      · simp only [if_neg ei] at e1
        rcases okd j h2 with rfl | ⟨ej, h2⟩
        · simp only [if_true] at e2
          exact (hx id e2).2.2 i hi h3 ei e1
        · simp only [if_neg ej] at e2
          exact o.ds i j hi hj h3 h2 hij id e1 e2
/-- A column is changed in place. -/
theorem Bld.chg (o : Bld h lo nx ob w n ok q D X) {k : Nat} (hk : k < n) (hok : ok k = true) {id : Nat} (e : (q k).1 = some (id, 0)) {r : List Nat} (hr : r.length = w) (l : nx ≤ nx') (hb : h' id = some ⟨ints .u8 (nints r), 1, true⟩) (hk' : ∀ j, j < nx → j ≠ id → h' j = h j) : Bld h' lo nx' ob w n ok q (fun j => if j = k then r else D j) X := by
  have l1 := (o.row k hk hok).in e
  refine ⟨(hk' ob o.b1 fun e1 => (o.rx k hk hok id e).1 e1.symm).trans o.hd, o.b0, by have := o.b1; omega, o.bx, ?_, o.rx, o.ds⟩
  intro j hj okj
  by_cases ej : j = k
  · subst ej; simp only [if_true]; exact ⟨hr, .inr ⟨id, e, l1.1, by omega, hb⟩⟩
  · simp only [if_neg ej]
    refine (o.row j hj okj).keep l fun id' e' hlt => hk' id' hlt ?_
    rintro rfl
    exact o.ds j k hj hk okj hok ej _ e' e
/-- The first columns. -/
theorem Bld.cut (o : Bld h lo nx ob w n ok q D X) {m : Nat} (hm : m ≤ n) (hok : ∀ k, k < m → ok k = true) (c : Bool) : ∃ p cc, cutA h (some (ob, 0)) n c 1 none (some (.int .i64 (m : Int))) none = some (p, m, cc) ∧ Mat h nx .u8 p ((List.range m).map D) w := by
  have s : Sl h nx (some (ob, 0)) n 1 (outCells w n ok q) := Sl.ofBlk o.hd (by rw [outCells_len]; omega) o.b1
  obtain ⟨c1, c2, _⟩ := s.cut c (lo := 0) (hi := m) (l := none) (r := some (.int .i64 (m : Int))) (by omega) hm bound_none (bound_some hm)
  rw [Nat.sub_zero] at c1 c2
  refine ⟨_, _, c1, (List.range m).map q, RowsAt_map fun k hk => ?_, ?_⟩
  · have hk := List.mem_range.1 hk
    have := o.row k (by omega) (hok k hk)
    exact ⟨this.1, this.sl⟩
  · have : ((outCells w n ok q).drop (0 * 1)).take (m * 1) = ((List.range m).map q).map (rcell w) := by
      apply List.ext_getElem
      · simp [outCells]; omega
      · intro i h1 h2
        have hi : i < m := by simpa using h2
        simp [outCells, hok i hi]
    rw [this] at c2
    rw [List.length_map, List.length_range]
    exact c2
theorem Bld.rd {R : Type} (o : Bld h lo nx ob w n ok q D X) {k : Nat} (hk : k < n) (hok : ok k = true) (K : AV → Option R) : (ldA h ob (0 + Int.toNat (k : Int) * 1)).bind K = K (.slice (q k).1 w (q k).2) := by
  rw [show 0 + Int.toNat (k : Int) * 1 = k from by omega]
  exact ld_at o.hd (outCells_get hk hok) K
theorem Bld.all (o : Bld h lo nx ob w n ok q D X) (hok : ∀ k, k < n → ok k = true) : Mat h nx .u8 (some (ob, 0)) ((List.range n).map D) w := by
  refine ⟨(List.range n).map q, RowsAt_map fun k hk => ?_, ?_⟩
  · have hk := List.mem_range.1 hk
    have := o.row k hk (hok k hk)
    exact ⟨this.1, this.sl⟩
  · rw [List.length_map, List.length_range]
    have : outCells w n ok q = ((List.range n).map q).map (rcell w) := by
      unfold outCells; rw [List.map_map]
      exact List.map_congr_left fun k hk => by rw [hok k (List.mem_range.1 hk)]; rfl
    rw [← this]
    exact Sl.ofBlk o.hd (by rw [outCells_len]; omega) o.b1

/-! ### rows in blocks of one's own -/
def BlkRow (kd : IntKind) (h : AHeap) (nx : Nat) (A : Nat → Prop) (w : Nat) (row : List Nat) (r : List AV) : Prop :=
  ∃ id c, r = [.slice (some (id, 0)) w c] ∧ row.length = w ∧ id < nx ∧ ¬ A id ∧ h id = some ⟨ints kd (nints row), 1, true⟩
theorem BlkRow.go {kd : IntKind} {A A' Y : Nat → Prop} {row : List Nat} {r : List AV} (b : BlkRow kd h nx A w row r) (f : Frm Y h nx h' nx') (d : ∀ i, i < nx → Y i → A i) (g : ∀ i, i < nx → A' i → A i) : BlkRow kd h' nx' A' w row r := by
  obtain ⟨id, c, e1, e2, e3, e4, e5⟩ := b
  exact ⟨id, c, e1, e2, by have := f.1; omega, fun a => e4 (g _ e3 a), (f.2 id e3 fun y => e4 (d _ e3 y)).trans e5⟩
theorem BlkRow.rw {kd : IntKind} {A : Nat → Prop} {row : List Nat} {r : List AV} (b : BlkRow kd h nx A w row r) : ∃ q : Rw, r = [rcell w q] ∧ row.length = w ∧ Sl h nx q.1 w 1 (ints kd (nints row)) := by
  obtain ⟨id, c, e1, e2, e3, e4, e5⟩ := b
  exact ⟨(some (id, 0), c), e1, e2, Sl.ofBlk e5 (by simp [nints_len, e2]) e3⟩

end Go.Proofs.Ytdfopcgfhjijgaa.T
