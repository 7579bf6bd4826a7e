import Derived.Test.YtdfopcgfhjijgaaMB
set_option linter.unusedVariables false
set_option linter.unusedSimpArgs false
namespace Go.Proofs.Ytdfopcgfhjijgaa.T
open Go Go.RowKit Go.Proofs

/-! ### Vandermonde: polynomials that are 0 at all points but one -/
theorem xsum_shift (f : Nat → Nat) : ∀ s, xsum (s + 1) f = f 0 ^^^ xsum s fun k => f (k + 1)
  | 0 => by simp [xsum]
  | s + 1 => by
    show xsum (s + 1) f ^^^ f (s + 1) = f 0 ^^^ (xsum s (fun k => f (k + 1)) ^^^ f (s + 1))
    rw [xsum_shift f s, Nat.xor_assoc]
def ev (s : Nat) (q : Nat → Nat) (x : Nat) : Nat := xsum s fun k => Gf.gm (Gf.gp x k) (q k)
def mulLin (q : Nat → Nat) (c : Nat) : Nat → Nat := fun k => (if k = 0 then 0 else q (k - 1)) ^^^ Gf.gm c (q k)
theorem ev_mulLin {s : Nat} {q : Nat → Nat} {c x : Nat} (hq : ∀ k, q k < 256) (hz : q s = 0) (hc : c < 256) (hx : x < 256) : ev (s + 1) (mulLin q c) x = Gf.gm (x ^^^ c) (ev s q x) := by
  unfold ev
  have e1 : xsum (s + 1) (fun k => Gf.gm (Gf.gp x k) (mulLin q c k)) = xsum (s + 1) (fun k => Gf.gm (Gf.gp x k) (if k = 0 then 0 else q (k - 1))) ^^^ xsum (s + 1) (fun k => Gf.gm (Gf.gp x k) (Gf.gm c (q k))) := by
    rw [← xsum_xor]; exact xsum_congr fun k _ => Gf.gm_xor_right _ _ _
  have e2 : xsum (s + 1) (fun k => Gf.gm (Gf.gp x k) (if k = 0 then 0 else q (k - 1))) = Gf.gm x (xsum s fun k => Gf.gm (Gf.gp x k) (q k)) := by
    rw [xsum_shift, if_pos rfl, Gf.gm_zero, Nat.zero_xor, gm_xsum_right]
    refine xsum_congr fun k _ => ?_
    rw [if_neg (by omega), Nat.add_sub_cancel, ← Gf.gm_assoc hx (Gf.gp_lt hx k) (hq k)]; rfl
  have e3 : xsum (s + 1) (fun k => Gf.gm (Gf.gp x k) (Gf.gm c (q k))) = Gf.gm c (xsum s fun k => Gf.gm (Gf.gp x k) (q k)) := by
    show xsum s (fun k => Gf.gm (Gf.gp x k) (Gf.gm c (q k))) ^^^ Gf.gm (Gf.gp x s) (Gf.gm c (q s)) = _
    rw [hz, Gf.gm_zero, Gf.gm_zero, Nat.xor_zero, gm_xsum_right]
    refine xsum_congr fun k _ => ?_
    rw [← Gf.gm_assoc (Gf.gp_lt hx k) hc (hq k), Gf.gm_comm (Gf.gp_lt hx k) hc, Gf.gm_assoc hc (Gf.gp_lt hx k) (hq k)]
  rw [e1, e2, e3, Gf.gm_xor_left _ hx hc]
def prodP (r : Nat → Nat) : Nat → Nat → Nat
  | 0 => dl 0
  | m + 1 => mulLin (prodP r m) (r m)
theorem prodP_lt {r : Nat → Nat} (hr : ∀ v, r v < 256) : ∀ m k, prodP r m k < 256
  | 0, k => dl_lt _ _
  | m + 1, k => by
    show (if k = 0 then 0 else prodP r m (k - 1)) ^^^ Gf.gm (r m) (prodP r m k) < 256
    refine Gf.xor_lt ?_ (Gf.gm_lt (hr m))
    split
    · omega
    · exact prodP_lt hr m _
theorem prodP_zero {r : Nat → Nat} : ∀ m k, m < k → prodP r m k = 0
  | 0, k, h => by show dl 0 k = 0; unfold dl; rw [if_neg (by omega)]
  | m + 1, k, h => by
    show (if k = 0 then 0 else prodP r m (k - 1)) ^^^ Gf.gm (r m) (prodP r m k) = 0
    rw [if_neg (by omega), prodP_zero m (k - 1) (by omega), prodP_zero m k (by omega), Gf.gm_zero, Nat.xor_zero]
def pr (r : Nat → Nat) (x : Nat) : Nat → Nat
  | 0 => 1
  | m + 1 => Gf.gm (x ^^^ r m) (pr r x m)
theorem pr_lt {r : Nat → Nat} (hr : ∀ v, r v < 256) {x : Nat} (hx : x < 256) : ∀ m, pr r x m < 256
  | 0 => by show 1 < 256; omega
  | m + 1 => Gf.gm_lt (Gf.xor_lt hx (hr m))
theorem ev_prodP {r : Nat → Nat} (hr : ∀ v, r v < 256) {x : Nat} (hx : x < 256) : ∀ m, ev (m + 1) (prodP r m) x = pr r x m
  | 0 => by
    show xsum 1 (fun k => Gf.gm (Gf.gp x k) (dl 0 k)) = 1
    simp only [xsum, Nat.zero_xor]
    rw [dl, if_pos rfl]; exact Gf.gm_one 1 (by omega)
  | m + 1 => by
    show ev (m + 1 + 1) (mulLin (prodP r m) (r m)) x = Gf.gm (x ^^^ r m) (pr r x m)
    rw [ev_mulLin (prodP_lt hr m) (prodP_zero m _ (by omega)) (hr m) hx, ev_prodP hr hx m]
theorem xor_eq_zero {a b : Nat} : a ^^^ b = 0 ↔ a = b := by
  constructor
  · intro h
    have := congrArg (· ^^^ b) h
    simpa [Nat.xor_assoc] using this
  · rintro rfl; exact Nat.xor_self _
theorem pr_root {r : Nat → Nat} (hr : ∀ v, r v < 256) {x : Nat} (hx : x < 256) : ∀ m, pr r x m = 0 ↔ ∃ v, v < m ∧ r v = x
  | 0 => by
    constructor
    · intro h; cases h
    · rintro ⟨v, h, _⟩; omega
  | m + 1 => by
    show Gf.gm (x ^^^ r m) (pr r x m) = 0 ↔ _
    rw [Gf.gm_eq_zero (Gf.xor_lt hx (hr m)) (pr_lt hr hx m), pr_root hr hx m, xor_eq_zero]
    constructor
    · rintro (h | ⟨v, h1, h2⟩)
      · exact ⟨m, by omega, h.symm⟩
      · exact ⟨v, by omega, h2⟩
    · rintro ⟨v, h1, h2⟩
      by_cases e : v = m
      · subst e; exact .inl h2.symm
      · exact .inr ⟨v, by omega, h2⟩

def van (p : Nat → Nat) : Fm := fun i k => Gf.gp (p i) k
theorem van_F8 {p : Nat → Nat} (hp : ∀ i, p i < 256) : F8 (van p) := fun i k => Gf.gp_lt (hp i) k
theorem van_right {p : Nat → Nat} (hp : ∀ i, p i < 256) {n : Nat} (hd : ∀ i j, i < n → j < i → p i ≠ p j) : rk n n (van p) = n := by
  have hd' : ∀ i j, i < n → j < n → i ≠ j → p i ≠ p j := by
    intro i j hi hj hij
    by_cases h : j < i
    · exact hd i j hi h
    · exact fun e => hd j i hj (by omega) e.symm
  have hrt : ∀ u v, (if v < u then p v else p (v + 1)) < 256 := fun u v => by split <;> exact hp _
  refine rk_right (B := fun k u => Gf.gm (prodP (fun v => if v < u then p v else p (v + 1)) (n - 1) k) (Gf.gi (pr (fun v => if v < u then p v else p (v + 1)) (p u) (n - 1)))) (fun k u => Gf.gm_lt (prodP_lt (hrt u) _ _)) (van_F8 hp) fun i u hi hu => ?_
  have hpr : ∀ x, x < 256 → pr (fun v => if v < u then p v else p (v + 1)) x (n - 1) < 256 := fun x hx => pr_lt (hrt u) hx _
  have hg := Gf.gi_lt (hpr (p u) (hp u))
  have e : mulF n (van p) (fun k u => Gf.gm (prodP (fun v => if v < u then p v else p (v + 1)) (n - 1) k) (Gf.gi (pr (fun v => if v < u then p v else p (v + 1)) (p u) (n - 1)))) i u = Gf.gm (pr (fun v => if v < u then p v else p (v + 1)) (p i) (n - 1)) (Gf.gi (pr (fun v => if v < u then p v else p (v + 1)) (p u) (n - 1))) := by
    rw [← ev_prodP (hrt u) (hp i) (n - 1), show n - 1 + 1 = n from by omega]
    unfold ev mulF
    rw [gm_xsum_left _ _ _ fun k _ => Gf.gm_lt (Gf.gp_lt (hp i) k)]
    exact xsum_congr fun k _ => (Gf.gm_assoc (Gf.gp_lt (hp i) k) (prodP_lt (hrt u) _ _) hg).symm
  rw [e]
  have root := fun x hx => pr_root (r := fun v => if v < u then p v else p (v + 1)) (hrt u) (x := x) hx (n - 1)
  by_cases hiu : i = u
  · subst hiu
    have hne : pr (fun v => if v < i then p v else p (v + 1)) (p i) (n - 1) ≠ 0 := by
      intro h
      obtain ⟨v, hv, h2⟩ := (root (p i) (hp i)).1 h
      by_cases c : v < i
      · simp only [if_pos c] at h2
        exact hd' v i (by omega) hi (by omega) h2
      · simp only [if_neg c] at h2
        exact hd' (v + 1) i (by omega) hi (by omega) h2
    rw [Gf.gm_gi (hpr _ (hp i)) hne, dl, if_pos rfl]
  · have hz : pr (fun v => if v < u then p v else p (v + 1)) (p i) (n - 1) = 0 := by
      refine (root (p i) (hp i)).2 ?_
      by_cases c : i < u
      · exact ⟨i, by omega, by simp only [if_pos c]⟩
      · refine ⟨i - 1, by omega, ?_⟩
        simp only [if_neg (show ¬ i - 1 < u by omega)]
        rw [show i - 1 + 1 = i from by omega]
    rw [hz, Gf.zero_gm, dl, if_neg hiu]
theorem van_same {p : Nat → Nat} (hp : ∀ i, p i < 256) {n i j : Nat} (hi : i < n) (hj : j < i) (e : p i = p j) : rk n n (van p) < n := by
  have hle := rk_le (n := n) (C := n) (van_F8 hp)
  by_cases hr : rk n n (van p) = n
  · have inv := (invF_both (van_F8 hp) hr).2
    have h1 := inv i i hi hi
    have h2 := inv j i (by omega) hi
    have : mulF n (van p) (invF n (van p)) i i = mulF n (van p) (invF n (van p)) j i := by
      unfold mulF van; rw [e]
    rw [h1, h2, dl, dl, if_pos rfl, if_neg (by omega)] at this
    omega
  · omega

/-! ### the walk -/
theorem pow_spec {f : Nat} (hf : 40 ≤ f) (a k : Nat) (ha : a < 256) (hk : k ≤ 4096) (h : AHeap) (nx : Nat) : ∃ h' nx', callP Try.prog keepT f 18 [.int .i64 (a : Int), .int .i64 (k : Int)] h nx = some (.tuple [.int .i64 ((Gf.gp a k : Nat) : Int), .int .i64 0], h', nx') ∧ Ext h nx h' nx' := by
  obtain ⟨f, rfl⟩ : ∃ m, f = m + 1 := ⟨f - 1, by omega⟩
  obtain ⟨n1, l1, e1⟩ := bad1_spec (f := f) (by omega) a ha (h := h.put (nx + 3) (some ⟨[.int .i64 (a : Int)], 1, true⟩)) (put_same _ _ _) (nx + 9)
  obtain ⟨f', rfl⟩ : ∃ m, f = m + 1 := ⟨f - 1, by omega⟩
  obtain ⟨n2, l2, e2⟩ := power_loop (k0 := f') (by omega) f' (h.put (nx + 3) (some ⟨[.int .i64 (a : Int)], 1, true⟩)) 16 f' a k 1 (n1 + 5 + 2) (by omega) ha (by omega) (by omega) (by omega)
  rw [show ((1 : Nat) : Int) = 1 from rfl, Gf.one_gm (Gf.gp_lt ha _)] at e2
  rw [F18_eq]
  dsimp only
  rw [e1]
  simp only [bind_some', asI_int, asB_bool, asStr_str, asP_ptr, asSl_sl, asAgg_1, asAgg_2, asAgg_3, asAgg_4, asTup_0, asTup_2, asTup_3, asTup_4, if_true', if_false', if_not_true', if_not_false', getD_0, getD_1, getD_2, getD_3]
  rw [if_neg (by simp), F18_J1_eq, F41_eq, e2]
  simp only [bind_some', asI_int, asB_bool, asStr_str, asP_ptr, asSl_sl, asAgg_1, asAgg_2, asAgg_3, asAgg_4, asTup_0, asTup_2, asTup_3, asTup_4, if_true', if_false', if_not_true', if_not_false', getD_0, getD_1, getD_2, getD_3]
  exact ⟨_, _, rfl, by omega, fun q hq => put_ne (by omega)⟩

def ptL (p : Nat → Nat) (n : Nat) : List Nat := (List.range n).map p
theorem ptL_len (p : Nat → Nat) (n : Nat) : (ptL p n).length = n := by simp [ptL]
theorem ptL_get {p : Nat → Nat} {n i : Nat} (h : i < n) : (ptL p n)[i]'(by rw [ptL_len]; exact h) = p i := by simp [ptL]

theorem pts_loop {k0 : Nat} (hk0 : 10 ≤ k0) (lf : Nat) {xn : Int} {n : Nat} (hn : n ≤ 8) (ea : ∀ (h : AHeap) (nx : Nat), ∃ nx', nx ≤ nx' ∧ callP Try.prog keepT k0 24 [.int .i64 xn] h nx = some (.int .i64 (n : Int), h, nx')) (l : List Int) (hl : l.length ≤ 1000000000000000) {a : Option (Nat × Nat)} (c : Bool) {h0 : AHeap} {n0 : Nat} (sl : Sl h0 n0 a l.length 1 (ints .i64 l)) (k : Nat) :
    ∀ (f i : Nat) (pa : Option (Nat × Nat)) (pc : Bool) (h : AHeap) (nx : Nat), i + k = n → k < f → Ext h0 n0 h nx → OwnSl h n0 nx pa i 1 (ints .i64 (nints (ptL (fun i => if i < l.length then (l.getD i 0 % 256).toNat else i) i))) →
    ∃ pa' pc' h' nx', F10_L1 (callP Try.prog keepT k0) lf f a l.length c xn pa i pc (i : Int) h nx = F10_L3 (callP Try.prog keepT k0) lf lf pa' n pc' true none 0 false 0 h' nx' ∧ Ext h0 n0 h' nx' ∧ OwnSl h' n0 nx' pa' n 1 (ints .i64 (nints (ptL (fun i => if i < l.length then (l.getD i 0 % 256).toNat else i) n))) := by
  induction k with
  | zero =>
    intro f i pa pc h nx e hf hx ho
    obtain ⟨f, rfl⟩ : ∃ m, f = m + 1 := ⟨f - 1, by omega⟩
    obtain rfl : i = n := by omega
    obtain ⟨n1, l1, e1⟩ := ea h (nx + 4)
    rw [F10_L1_eq, e1]
    simp only [bind_some', asI_int, asB_bool, asStr_str, asP_ptr, asSl_sl, asAgg_1, asAgg_2, asAgg_3, asAgg_4, asTup_0, asTup_2, asTup_3, asTup_4, if_true', if_false', if_not_true', if_not_false', getD_0, getD_1, getD_2, getD_3]
    rw [if_neg (by simp)]
    exact ⟨pa, pc, h, n1 + 3, rfl, hx.le (by omega), ho.le (by omega)⟩
  | succ k ih =>
    intro f i pa pc h nx e hf hx ho
    obtain ⟨f, rfl⟩ : ∃ m, f = m + 1 := ⟨f - 1, by omega⟩
    have hi : i < n := by omega
    have y := hx.1
    obtain ⟨n1, l1, e1⟩ := ea h (nx + 4)
    have push : ∀ (m : Nat), nx ≤ m → ∃ pa' pc' h' nx', F10_J2 (callP Try.prog keepT k0) lf f a l.length c xn pa i pc (i : Int) (((fun i => if i < l.length then (l.getD i 0 % 256).toNat else i) i : Nat) : Int) h m = F10_L3 (callP Try.prog keepT k0) lf lf pa' n pc' true none 0 false 0 h' nx' ∧ Ext h0 n0 h' nx' ∧ OwnSl h' n0 nx' pa' n 1 (ints .i64 (nints (ptL (fun i => if i < l.length then (l.getD i 0 % 256).toNat else i) n))) := by
      intro m hm
      obtain ⟨e, f1, f2, f3, f4⟩ := (ho.le hm).push (c := pc) (bytes := 8) (id := m + 2) (id2 := m + 3) (ws := [.int .i64 (((fun i => if i < l.length then (l.getD i 0 % 256).toNat else i) i : Nat) : Int)]) rfl (growOk_of (by omega) (by omega)) (by omega) (by omega) (by omega)
      rw [F10_J2_eq]
      dsimp only
      rw [src_lit1, some_bind, f1, some_bind, f2, wsucc (by omega)]
      refine ih f (i + 1) e.a e.c _ (m + 8) (by omega) (by omega) (((hx.le hm).then f4).le (by omega)) ?_
      have : ints .i64 (nints (ptL (fun i => if i < l.length then (l.getD i 0 % 256).toNat else i) (i + 1))) = ints .i64 (nints (ptL (fun i => if i < l.length then (l.getD i 0 % 256).toNat else i) i)) ++ [.int .i64 (((fun i => if i < l.length then (l.getD i 0 % 256).toNat else i) i : Nat) : Int)] := by
        simp [ptL, List.range_succ, ints, nints]
      rw [this]
      exact f3.le (by omega)
    rw [F10_L1_eq, e1]
    simp only [bind_some', asI_int, asB_bool, asStr_str, asP_ptr, asSl_sl, asAgg_1, asAgg_2, asAgg_3, asAgg_4, asTup_0, asTup_2, asTup_3, asTup_4, if_true', if_false', if_not_true', if_not_false', getD_0, getD_1, getD_2, getD_3]
    rw [if_pos (by simpa using hi)]
    by_cases hil : i < l.length
    · have q0 := Int.emod_nonneg l[i] (show (256 : Int) ≠ 0 by omega)
      have q1 := Int.emod_lt_of_pos l[i] (show (0 : Int) < 256 by omega)
      obtain ⟨n2, e2, l2⟩ := picked_spec (k := k0) (by omega) l[i] 256 h (n1 + 12) (by omega) (by omega)
      rw [if_pos (by simpa using hil), (sl.ext hx).readI hil]
      simp only [bind_some', asI_int, asB_bool, asStr_str, asP_ptr, asSl_sl, asAgg_1, asAgg_2, asAgg_3, asAgg_4, asTup_0, asTup_2, asTup_3, asTup_4, if_true', if_false', if_not_true', if_not_false', getD_0, getD_1, getD_2, getD_3]
      rw [e2]
      simp only [bind_some', asI_int, asB_bool, asStr_str, asP_ptr, asSl_sl, asAgg_1, asAgg_2, asAgg_3, asAgg_4, asTup_0, asTup_2, asTup_3, asTup_4, if_true', if_false', if_not_true', if_not_false', getD_0, getD_1, getD_2, getD_3]
      have := push n2 (by omega)
      simp only [if_pos hil, getD_at hil] at this
      rwa [Int.toNat_of_nonneg q0] at this
    · rw [if_neg (by simpa using hil)]
      have := push (n1 + 6) (by omega)
      simp only [if_neg hil] at this
      exact this

theorem ap_loop (call : CallF) (lf n0 : Nat) {n : Nat} (hn : n ≤ 8) {p : Nat → Nat} {pa : Option (Nat × Nat)} (pc : Bool) {h : AHeap} {n1 : Nat} (sp : Sl h n1 pa n 1 (ints .i64 (nints (ptL p n)))) (xa : Option (Nat × Nat)) (xn : Nat) (xc : Bool) {i : Nat} (hi : i < n) (m : Nat) :
    ∀ (f k : Nat) (b : Bool) (nx : Nat), k + m = i → m < f → (b = true ↔ ∀ x y, y < x → (x < i ∨ (x = i ∧ y < k)) → p x ≠ p y) →
    ∃ b' nx', nx ≤ nx' ∧ F10_L4 call lf n0 f pa n pc b xa xn xc (i : Int) (k : Int) h nx = F10_L5 call lf n0 lf pa n pc b' xa xn xc (i : Int) none 0 false 0 h nx' ∧ (b' = true ↔ ∀ x y, y < x → x < i + 1 → p x ≠ p y) := by
  induction m with
  | zero =>
    intro f k b nx e hf hb
    obtain ⟨f, rfl⟩ : ∃ m, f = m + 1 := ⟨f - 1, by omega⟩
    obtain rfl : k = i := by omega
    rw [F10_L4_eq, if_neg (by simp)]
    refine ⟨b, nx + 5, by omega, rfl, hb.trans ⟨fun h x y h1 h2 => h x y h1 (by omega), fun h x y h1 h2 => h x y h1 (by omega)⟩⟩
  | succ m ih =>
    intro f k b nx e hf hb
    obtain ⟨f, rfl⟩ : ∃ m, f = m + 1 := ⟨f - 1, by omega⟩
    have hk : k < i := by omega
    rw [F10_L4_eq, if_pos (by simpa using hk)]
    cases b with
    | true =>
      rw [if_pos rfl, sp.readN (ptL_len _ _) (by rw [ptL_len]; exact hi)]
      simp only [bind_some', asI_int, asB_bool, asStr_str, asP_ptr, asSl_sl, asAgg_1, asAgg_2, asAgg_3, asAgg_4, asTup_0, asTup_2, asTup_3, asTup_4, if_true', if_false', if_not_true', if_not_false', getD_0, getD_1, getD_2, getD_3]
      rw [sp.readN (ptL_len _ _) (by rw [ptL_len]; omega)]
      simp only [bind_some', asI_int, asB_bool, asStr_str, asP_ptr, asSl_sl, asAgg_1, asAgg_2, asAgg_3, asAgg_4, asTup_0, asTup_2, asTup_3, asTup_4, if_true', if_false', if_not_true', if_not_false', getD_0, getD_1, getD_2, getD_3]
      rw [wsucc (by omega), ptL_get hi, ptL_get (by omega)]
      obtain ⟨b', nx', l', e', h'⟩ := ih f (k + 1) (((p i : Nat) : Int) != ((p k : Nat) : Int)) (nx + 19) (by omega) (by omega) (by
        rw [bne_iff_ne]
        constructor
        · intro hne x y h1 h2
          by_cases c : x = i ∧ y = k
          · obtain ⟨rfl, rfl⟩ := c; omega
          · exact hb.1 rfl x y h1 (by omega)
        · intro hall
          have := hall i k hk (by omega)
          omega)
      exact ⟨b', nx', by omega, e', h'⟩
    | false =>
      rw [if_neg (by decide), wsucc (by omega)]
      obtain ⟨b', nx', l', e', h'⟩ := ih f (k + 1) false (nx + 19) (by omega) (by omega) ⟨(fun h => by cases h), fun hall => hb.2 fun x y h1 h2 => hall x y h1 (by omega)⟩
      exact ⟨b', nx', by omega, e', h'⟩

theorem row_loop {k0 : Nat} (hk0 : 40 ≤ k0) (lf n0 : Nat) {n : Nat} (hn1 : 1 ≤ n) (hn : n ≤ 8) {p : Nat → Nat} (hp : ∀ i, p i < 256) {pa : Option (Nat × Nat)} (pc : Bool) {h00 : AHeap} {n00 : Nat} (sp : Sl h00 n00 pa n 1 (ints .i64 (nints (ptL p n)))) {xa : Option (Nat × Nat)} (xc b : Bool) {i : Nat} (hi : i < n)
    {hO : AHeap} {nO : Nat} (xO : Ext h00 n00 hO nO) (wm : WMat hO n00 nO .i64 xa (lst i n (van p)) n) (m : Nat) :
    ∀ (f k : Nat) (ra : Option (Nat × Nat)) (rc : Bool) (h : AHeap) (nx : Nat), k + m = n → m < f → Ext hO nO h nx → OwnSl h nO nx ra k 1 (ints .i64 (nints (ptL (van p i) k))) →
    ∃ xa' xc' h' nx', F10_L5 (callP Try.prog keepT k0) lf n0 f pa n pc b xa i xc (i : Int) ra k rc (k : Int) h nx = F10_L3 (callP Try.prog keepT k0) lf n0 pa n pc b xa' (i + 1) xc' ((i + 1 : Nat) : Int) h' nx' ∧ WMat h' n00 nx' .i64 xa' (lst (i + 1) n (van p)) n ∧ Ext h00 n00 h' nx' := by
  induction m with
  | zero =>
    intro f k ra rc h nx e hf hx ho
    obtain ⟨f, rfl⟩ : ∃ m, f = m + 1 := ⟨f - 1, by omega⟩
    obtain rfl : k = n := by omega
    have yO := xO.1
    have y := hx.1
    rcases ho.2 with ⟨_, z⟩ | ⟨id, rfl, g2, g3, g4⟩
    · omega
    obtain ⟨e, f1, f2, f3, f4⟩ := wm.pushNew (x := hx) (c := xc) (bytes := 24) (id := nx + 6) (id2 := nx + 7) (q := (some (id, 0), rc)) (r := ptL (van p i) k) ⟨ptL_len _ _, .inr ⟨id, rfl, g2, g3, g4⟩⟩ (growOk_of (by rw [lst_len]; omega) (by omega)) (by omega) (by omega) (by omega)
    rw [lst_len] at f1 f2
    have es : lst i k (van p) ++ [ptL (van p i) k] = lst (i + 1) k (van p) := (lst_succ i k (van p)).symm
    rw [es] at f3
    rw [F10_L5_eq, if_neg (by simp)]
    dsimp only
    rw [src_lit1, some_bind, f1, some_bind, f2, wsucc (by omega)]
    exact ⟨e.a, e.c, _, nx + 12, rfl, f3.ext ⟨by omega, fun _ _ => rfl⟩, (xO.then f4).le (by omega)⟩
  | succ m ih =>
    intro f k ra rc h nx e hf hx ho
    obtain ⟨f, rfl⟩ : ∃ m, f = m + 1 := ⟨f - 1, by omega⟩
    have hk : k < n := by omega
    have yO := xO.1
    have y := hx.1
    obtain ⟨h1, n1, e1, x1⟩ := pow_spec (f := k0) hk0 (p i) k (hp i) (by omega) h (nx + 15)
    have y1 := x1.1
    have o1 : OwnSl h1 nO nx ra k 1 (ints .i64 (nints (ptL (van p i) k))) := ho.ext ⟨Nat.le_refl _, fun j hj => x1.2 j (by omega)⟩
    obtain ⟨e, f1, f2, f3, f4⟩ := (o1.le (show nx ≤ n1 + 10 by omega)).push (c := rc) (bytes := 8) (id := n1 + 10 + 2) (id2 := n1 + 10 + 3) (ws := [.int .i64 ((Gf.gp (p i) k : Nat) : Int)]) rfl (growOk_of (by omega) (by omega)) (by omega) (by omega) (by omega)
    rw [F10_L5_eq, if_pos (by simpa using hk), (sp.ext (xO.trans hx)).readN (ptL_len _ _) (by rw [ptL_len]; exact hi), ptL_get hi]
    simp only [bind_some', asI_int, asB_bool, asStr_str, asP_ptr, asSl_sl, asAgg_1, asAgg_2, asAgg_3, asAgg_4, asTup_0, asTup_2, asTup_3, asTup_4, if_true', if_false', if_not_true', if_not_false', getD_0, getD_1, getD_2, getD_3]
    rw [e1]
    simp only [bind_some', asI_int, asB_bool, asStr_str, asP_ptr, asSl_sl, asAgg_1, asAgg_2, asAgg_3, asAgg_4, asTup_0, asTup_2, asTup_3, asTup_4, if_true', if_false', if_not_true', if_not_false', getD_0, getD_1, getD_2, getD_3]
    rw [if_neg (by decide)]
    have fin : ∃ xa' xc' h' nx', F10_J6 (callP Try.prog keepT k0) lf n0 f pa n pc b xa i xc (i : Int) ra k rc (k : Int) ((Gf.gp (p i) k : Nat) : Int) h1 (n1 + 10) = F10_L3 (callP Try.prog keepT k0) lf n0 pa n pc b xa' (i + 1) xc' ((i + 1 : Nat) : Int) h' nx' ∧ WMat h' n00 nx' .i64 xa' (lst (i + 1) n (van p)) n ∧ Ext h00 n00 h' nx' := by
      rw [F10_J6_eq]
      dsimp only
      rw [src_lit1, some_bind, f1, some_bind, f2, wsucc (by omega)]
      refine ih f (k + 1) e.a e.c _ (n1 + 10 + 8) (by omega) (by omega) ⟨by omega, fun j hj => by rw [f4.2 j hj, x1.2 j (by omega), hx.2 j hj]⟩ ?_
      have : ints .i64 (nints (ptL (van p i) (k + 1))) = ints .i64 (nints (ptL (van p i) k)) ++ [.int .i64 ((Gf.gp (p i) k : Nat) : Int)] := by
        simp [ptL, List.range_succ, ints, nints, van]
      rw [this]
      exact f3.le (by omega)
    by_cases hk0' : k = 0
    · subst hk0'
      rw [if_pos (by decide), if_neg (by show ¬ ((((1 : Nat) : Int) != 1) = true); decide)]
      exact fin
    · rw [if_neg (by simp; omega)]
      exact fin

theorem mat_loop {k0 : Nat} (hk0 : 2010 ≤ k0) (lf : Nat) (hlf : 100 ≤ lf) {n : Nat} (hn1 : 1 ≤ n) (hn : n ≤ 8) {p : Nat → Nat} (hp : ∀ i, p i < 256) {pa : Option (Nat × Nat)} (pc : Bool) {h00 : AHeap} {n00 : Nat} (sp : Sl h00 n00 pa n 1 (ints .i64 (nints (ptL p n)))) (m : Nat) :
    ∀ (f i : Nat) (xa : Option (Nat × Nat)) (xc b : Bool) (h : AHeap) (nx : Nat), i + m = n → m < f → Ext h00 n00 h nx → WMat h n00 nx .i64 xa (lst i n (van p)) n → (b = true ↔ ∀ x y, y < x → x < i → p x ≠ p y) →
    ∃ h' nx', F10_L3 (callP Try.prog keepT k0) lf f pa n pc b xa i xc (i : Int) h nx = some (.bool true, h', nx') := by
  induction m with
  | zero =>
    intro f i xa xc b h nx e hf hx wm hb
    obtain ⟨f, rfl⟩ : ∃ m, f = m + 1 := ⟨f - 1, by omega⟩
    obtain rfl : i = n := by omega
    have hle := rk_le (n := i) (C := i) (van_F8 hp)
    have er : rk i i (ent (lst i i (van p))) = rk i i (van p) := rk_congr fun x y hx hy => lst_ent hx hy
    obtain ⟨bad, good⟩ := inv_matrix (f := k0) hk0 (lst_len i i (van p)) hn1 hn (lst_small (van_F8 hp)) xc (wm.mat.ext (nx' := nx + 11) ⟨by omega, fun _ _ => rfl⟩)
    rw [er] at bad good
    rw [F10_L3_eq, if_neg (by simp)]
    cases b with
    | true =>
      obtain ⟨oa, oc, h', nx', e1, _, _⟩ := good (van_right hp fun x y hx hy => hb.1 rfl x y hy hx)
      rw [e1]
      simp only [bind_some', asI_int, asB_bool, asStr_str, asP_ptr, asSl_sl, asAgg_1, asAgg_2, asAgg_3, asAgg_4, asTup_0, asTup_2, asTup_3, asTup_4, if_true', if_false', if_not_true', if_not_false', getD_0, getD_1, getD_2, getD_3]
      rw [if_pos (by decide), show (((i : Nat) : Int) == ((i : Nat) : Int)) = true from by simp]
      exact ⟨_, _, rfl⟩
    | false =>
      have hex : ∃ x y, y < x ∧ x < i ∧ p x = p y := by
        apply Classical.byContradiction
        intro hno
        have : false = true := hb.2 fun x y h1 h2 h3 => hno ⟨x, y, h1, h2, h3⟩
        cases this
      obtain ⟨x, y, h1, h2, h3⟩ := hex
      obtain ⟨h', nx', e1, _⟩ := bad (van_same hp h2 h1 h3)
      rw [e1]
      simp only [bind_some', asI_int, asB_bool, asStr_str, asP_ptr, asSl_sl, asAgg_1, asAgg_2, asAgg_3, asAgg_4, asTup_0, asTup_2, asTup_3, asTup_4, if_true', if_false', if_not_true', if_not_false', getD_0, getD_1, getD_2, getD_3]
      exact ⟨_, _, rfl⟩
  | succ m ih =>
    intro f i xa xc b h nx e hf hx wm hb
    obtain ⟨f, rfl⟩ : ∃ m, f = m + 1 := ⟨f - 1, by omega⟩
    have hi : i < n := by omega
    obtain ⟨b', n1, l1, e1, hb'⟩ := ap_loop (callP Try.prog keepT k0) lf f hn pc (sp.ext hx) xa i xc hi i lf 0 b (nx + 5) (by omega) (by omega) (hb.trans ⟨fun h x y h1 h2 => h x y h1 (by omega), fun h x y h1 h2 => h x y h1 (by omega)⟩)
    rw [show ((0 : Nat) : Int) = 0 from rfl] at e1
    obtain ⟨xa', xc', h', nx', e2, w2, x2⟩ := row_loop (k0 := k0) (by omega) lf f hn1 hn hp pc sp xc b' hi hx wm n lf 0 none false h n1 (by omega) (by omega) ⟨by omega, fun _ _ => rfl⟩ (OwnSl.nil _ _ _ _)
    rw [show ((0 : Nat) : Int) = 0 from rfl] at e2
    rw [F10_L3_eq, if_pos (by simpa using hi), e1, e2]
    exact ih f (i + 1) xa' xc' b' h' nx' (by omega) (by omega) x2 w2 hb'

theorem MatPowers_run (h : AHeap) (nx : Nat) (l1 : List Int) (hl1 : l1.length * 8 ≤ 140737488351232) (_ : ∀ n ∈ l1, (Lit.int .i64 n).wf = true) (a1 : Option (Nat × Nat)) (s1 : Sl h nx a1 l1.length 1 (l1.map (AV.int .i64)))
    (xn : Int) (_ : (Lit.int .i64 xn).wf = true) :
    ∃ f h' nx', callP Try.prog keepT f 10 [.slice a1 l1.length false, .int .i64 xn] h nx = some (.bool true, h', nx') := by
  refine ⟨3000 + 1, ?_⟩
  obtain ⟨k, hk⟩ : ∃ k, k = 3000 := ⟨_, rfl⟩
  rw [← hk]
  obtain ⟨n, -, n1, n8, ea⟩ := side_spec (f := k) (by omega) xn
  have hp : ∀ i, (fun i => if i < l1.length then (l1.getD i 0 % 256).toNat else i % 256) i < 256 := by
    intro i
    show (if i < l1.length then (l1.getD i 0 % 256).toNat else i % 256) < 256
    split
    · have q1 := Int.emod_lt_of_pos (l1.getD i 0) (show (0 : Int) < 256 by omega)
      omega
    · omega
  obtain ⟨pa, pc, h2, n2, e2, x2, o2⟩ := pts_loop (k0 := k) (by omega) k n8 ea l1 (by omega) false (h0 := h) (n0 := nx) s1 n k 0 none false h (nx + 3) (by omega) (by omega) ⟨by omega, fun _ _ => rfl⟩ (OwnSl.nil _ _ _ _)
  rw [show ((0 : Nat) : Int) = 0 from rfl] at e2
  have ep : ptL (fun i => if i < l1.length then (l1.getD i 0 % 256).toNat else i) n = ptL (fun i => if i < l1.length then (l1.getD i 0 % 256).toNat else i % 256) n := by
    refine List.map_congr_left fun i hi => ?_
    have := List.mem_range.1 hi
    show (if i < l1.length then _ else _) = if i < l1.length then _ else _
    split
    · rfl
    · omega
  rw [ep] at o2
  obtain ⟨h3, n3, e3⟩ := mat_loop (k0 := k) (by omega) k (by omega) n1 n8 hp pc o2.sl n k 0 none false true h2 n2 (by omega) (by omega) (Ext.refl _ _) (WMat.nil _ _ _ _ _) ⟨fun _ x y _ h => by omega, fun _ => rfl⟩
  rw [show ((0 : Nat) : Int) = 0 from rfl] at e3
  rw [F10_eq, e2]
  exact ⟨h3, n3, e3⟩

end Go.Proofs.Ytdfopcgfhjijgaa.T
