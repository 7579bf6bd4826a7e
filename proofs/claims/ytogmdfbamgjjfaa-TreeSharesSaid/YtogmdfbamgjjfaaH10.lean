/- Trees, plain law: births, and what bytes a write and a resize leave. -/
import Derived.Test.YtogmdfbamgjjfaaH9
set_option linter.unusedVariables false
set_option linter.unusedSimpArgs false
namespace Go.Proofs.Ytogmdfbamgjjfaa.T
open Go Go.RowKit Go.Proofs

/-- Births go down from the root; all are at most b; the height is at most n. -/
def Gd : Nat → Nat → Tr → Prop
  | 0, _, t => t = .nil
  | n + 1, b, t => match t with
    | .nil => True
    | .nd _ bi k _ => bi ≤ b ∧ ∀ i, i < 4 → Gd n bi (k i)
theorem Gd.nil (n b : Nat) : Gd n b .nil := by cases n <;> simp [Gd]
theorem Gd.mono {n b b' : Nat} {t : Tr} (w : Gd n b t) (l : b ≤ b') : Gd n b' t := by
  cases n with
  | zero => exact w
  | succ n => cases t with
    | nil => trivial
    | nd id bi k ds => exact ⟨by have := w.1; omega, w.2⟩
theorem Gd.old : ∀ {n b now : Nat} {t : Tr}, Gd n b t → b < now → Old now n t
  | 0, _, _, _, w, _ => w
  | n + 1, _, _, .nil, _, _ => trivial
  | n + 1, _, _, .nd _ _ _ _, w, l => ⟨by have := w.1; omega, fun i hi => (w.2 i hi).old (by have := w.1; omega)⟩
theorem Gd.kid {n b i : Nat} {t : Tr} (w : Gd (n + 1) b t) (hi : i < 4) : Gd n b (t.kids i) := by
  cases t with
  | nil => exact Gd.nil _ _
  | nd id bi k ds => exact (w.2 i hi).mono w.1

theorem fold_get (g : Nat → Tr → Nat → Tr × Nat) (k : Nat → Tr) (m j : Nat) : ∀ n, (fold g k m n).1 j = if j < n then (g j (k j) (fold g k m j).2).1 else k j
  | 0 => by rw [if_neg (by omega)]; rfl
  | n + 1 => by
    simp only [fold]
    by_cases c : j = n
    · subst c; rw [up_same, if_pos (by omega)]
    · rw [up_ne c, fold_get g k m j n]
      by_cases c2 : j < n
      · rw [if_pos c2, if_pos (by omega)]
      · rw [if_neg c2, if_neg (by omega)]

theorem wr_gd (now off : Nat) (bs : List Int) : ∀ (l base : Nat) (t : Tr) (m : Nat), Gd (l + 1) now t → Gd (l + 1) now (wr now off bs l base t m).1
  | 0, base, t, m, w => by
    unfold wr; split
    · exact w
    · exact ⟨Nat.le_refl _, fun i hi => w.kid hi⟩
  | l + 1, base, t, m, w => by
    unfold wr; split
    · exact w
    · refine ⟨Nat.le_refl _, fun i hi => ?_⟩
      simp only [fold_get]
      rw [if_pos hi]
      exact wr_gd now off bs l _ _ _ (w.kid hi)
theorem ct_gd (now e : Nat) : ∀ (l base : Nat) (t : Tr) (m : Nat), Gd (l + 1) now t → Gd (l + 1) now (ct now e l base t m).1
  | 0, base, .nil, m, w => by simp only [ct]; trivial
  | l + 1, base, .nil, m, w => by simp only [ct]; trivial
  | 0, base, .nd id b k ds, m, w => by
    simp only [ct]
    split
    · trivial
    · split
      · exact w
      · exact ⟨Nat.le_refl _, fun i hi => (w.2 i hi).mono w.1⟩
  | l + 1, base, .nd id b k ds, m, w => by
    simp only [ct]
    split
    · trivial
    · split
      · exact w
      · refine ⟨Nat.le_refl _, fun i hi => ?_⟩
        simp only [fold_get]
        rw [if_pos hi]
        exact ct_gd now e l _ _ _ ((w.2 i hi).mono w.1)
theorem rs_gd (now : Nat) : ∀ (d n : Nat) (t : Tr) (m : Nat), Gd n now t → Gd (n + d) now (rs now d t m).1
  | 0, _, _, _, w => w
  | d + 1, n, t, m, w => by
    simp only [rs]
    have := rs_gd now d (n + 1) (.nd (m + 1) now (up (fun _ => .nil) 0 t) (fun _ => 0)) (m + 1) ⟨Nat.le_refl _, fun i hi => by
      by_cases c : i = 0
      · subst c; rw [up_same]; exact w
      · rw [up_ne c]; exact Gd.nil _ _⟩
    rw [show n + (d + 1) = n + 1 + d by omega]; exact this
theorem rsN_gd (now : Nat) {d n : Nat} {t : Tr} (m : Nat) (w : Gd n now t) : Gd (n + d) now (rsN now d t m).1 := by
  cases t with
  | nil => exact Gd.nil _ _
  | nd a b c e => exact rs_gd now d n _ m w
theorem dn_gd : ∀ (d n b : Nat) (t : Tr), Gd (n + d) b t → Gd n b (dn d t)
  | 0, _, _, _, w => w
  | d + 1, n, b, t, w => dn_gd d n b _ (Gd.kid (n := n + d) w (by omega))

theorem cont_wr (now off : Nat) (bs : List Int) : ∀ (l base : Nat) (t : Tr) (m x : Nat), x < room l → cont l (wr now off bs l base t m).1 x = if off ≤ base + x ∧ base + x < off + bs.length then bs.getD (base + x - off) 0 else cont l t x
  | 0, base, t, m, x, hx => by
    unfold wr; split
    · rw [if_neg (by omega)]
    · simp only [cont, Tr.dat, patch]
  | l + 1, base, t, m, x, hx => by
    have hr := room_succ l
    have hp := room_pos l
    unfold wr; split
    · rw [if_neg (by omega)]
    · have hd : x / room l < 4 := Nat.div_lt_of_lt_mul (by rw [Nat.mul_comm]; omega)
      have hm := Nat.mod_lt x hp
      have he := Nat.div_add_mod x (room l)
      rw [Nat.mul_comm] at he
      simp only [cont, Tr.kids, fold_get]
      rw [if_pos hd, cont_wr now off bs l _ _ _ _ hm, show base + x / room l * room l + x % room l = base + x by omega]
theorem cont_ct (now e : Nat) : ∀ (l base : Nat) (t : Tr) (m x : Nat), x < room l → cont l (ct now e l base t m).1 x = if base + x < e then cont l t x else 0
  | 0, base, .nil, m, x, hx => by simp only [ct]; rw [cont_nil]; split <;> rfl
  | l + 1, base, .nil, m, x, hx => by simp only [ct]; rw [cont_nil]; split <;> rfl
  | 0, base, .nd id b k ds, m, x, hx => by
    simp only [ct]
    split
    · rw [cont_nil, if_neg (by omega)]
    · split
      · rw [if_pos (by omega)]
      · simp only [cont, Tr.dat, cutD]
  | l + 1, base, .nd id b k ds, m, x, hx => by
    have hr := room_succ l
    have hp := room_pos l
    simp only [ct]
    split
    · rw [cont_nil, if_neg (by omega)]
    · split
      · rw [if_pos (by omega)]
      · have hd : x / room l < 4 := Nat.div_lt_of_lt_mul (by rw [Nat.mul_comm]; omega)
        have hm := Nat.mod_lt x hp
        have he := Nat.div_add_mod x (room l)
        rw [Nat.mul_comm] at he
        simp only [cont, Tr.kids, fold_get]
        rw [if_pos hd, cont_ct now e l _ _ _ _ hm, show base + x / room l * room l + x % room l = base + x by omega]
theorem cont_up {l : Nat} {id b : Nat} {t : Tr} {ds : Nat → Int} (x : Nat) : cont (l + 1) (.nd id b (up (fun _ => .nil) 0 t) ds) x = if x < room l then cont l t x else 0 := by
  have hp := room_pos l
  simp only [cont, Tr.kids]
  by_cases c : x < room l
  · rw [if_pos c, Nat.div_eq_of_lt c, up_same, Nat.mod_eq_of_lt c]
  · rw [if_neg c, up_ne (by have := Nat.div_pos (show room l ≤ x by omega) hp; omega), cont_nil]
theorem cont_rs (now : Nat) : ∀ (d l L : Nat) (t : Tr) (m x : Nat), L = l + d → x < room L → cont L (rs now d t m).1 x = if x < room l then cont l t x else 0
  | 0, l, L, t, m, x, e, hx => by subst e; rw [if_pos hx]; rfl
  | d + 1, l, L, t, m, x, e, hx => by
    simp only [rs]
    rw [cont_rs now d (l + 1) L _ _ x (by omega) hx, cont_up]
    have := room_succ l
    by_cases c : x < room l
    · rw [if_pos c, if_pos (by omega)]
    · rw [if_neg c]; split <;> rfl
theorem cont_rsN (now : Nat) {d l L : Nat} {t : Tr} {m x : Nat} (e : L = l + d) (hx : x < room L) : cont L (rsN now d t m).1 x = if x < room l then cont l t x else 0 := by
  cases t with
  | nil => simp only [rsN]; rw [cont_nil, cont_nil]; split <;> rfl
  | nd a b c f => exact cont_rs now d l L _ m x e hx
theorem room_mono {a b : Nat} (h : a ≤ b) : room a ≤ room b := by
  unfold room
  have := Nat.pow_le_pow_right (n := 4) (by omega) h
  omega
theorem cont_dn : ∀ (d L x : Nat) (t : Tr), x < room L → cont L (dn d t) x = cont (L + d) t x
  | 0, _, _, _, _ => rfl
  | d + 1, L, x, t, hx => by
    have h1 : x < room (L + d) := by have := room_mono (show L ≤ L + d by omega); omega
    simp only [dn]
    rw [cont_dn d L x _ hx, ← Nat.add_assoc]
    simp only [cont]
    rw [Nat.div_eq_of_lt h1, Nat.mod_eq_of_lt h1]

/-- What is kept true of the version number b. -/
structure VOk (b : Nat) (v : Vn) : Prop where
  hs : v.s ≤ 4096
  gd : Gd (lev v.s + 1) b v.t
  nl : v.s = 0 ↔ v.t = .nil
  z : ∀ x, v.s ≤ x → x < room (lev v.s) → cont (lev v.s) v.t x = 0

/-- The byte of a version at a place; behind its end 0. -/
def byV (v : Vn) (x : Nat) : Int := if x < v.s then cont (lev v.s) v.t x else 0
theorem VOk.by {b : Nat} {v : Vn} (w : VOk b v) {x : Nat} (hx : x < room (lev v.s)) : cont (lev v.s) v.t x = byV v x := by
  unfold byV
  by_cases c : x < v.s
  · rw [if_pos c]
  · rw [if_neg c, w.z x (by omega) hx]

def wrV (now off : Nat) (bs : List Int) (v : Vn) (m : Nat) : Tr × Nat :=
  wr now off bs (lev (max v.s (off + bs.length))) 0 (rsN now (lev (max v.s (off + bs.length)) - lev v.s) v.t m).1 (rsN now (lev (max v.s (off + bs.length)) - lev v.s) v.t m).2
theorem wrV_le (now off : Nat) (bs : List Int) (v : Vn) (m : Nat) : m ≤ (wrV now off bs v m).2 ∧ (wrV now off bs v m).2 ≤ m + 1300 := by
  have a := rsN_le now (lev (max v.s (off + bs.length)) - lev v.s) v.t m
  have b := wr_le now off bs (lev (max v.s (off + bs.length))) 0 (rsN now (lev (max v.s (off + bs.length)) - lev v.s) v.t m).1 (rsN now (lev (max v.s (off + bs.length)) - lev v.s) v.t m).2
  have c := lev_le (max v.s (off + bs.length))
  have e : 6 ^ (lev (max v.s (off + bs.length)) + 1) ≤ 6 ^ 4 := Nat.pow_le_pow_right (by omega) (by omega)
  unfold wrV; omega

theorem wrV_cont {b now off : Nat} {bs : List Int} {v : Vn} (w : VOk b v) (m : Nat) {x : Nat} (hx : x < room (lev (max v.s (off + bs.length)))) :
    cont (lev (max v.s (off + bs.length))) (wrV now off bs v m).1 x = if off ≤ x ∧ x < off + bs.length then bs.getD (x - off) 0 else byV v x := by
  have hl := lev_mono (show v.s ≤ max v.s (off + bs.length) by omega)
  unfold wrV
  rw [cont_wr _ _ _ _ _ _ _ _ hx, Nat.zero_add, cont_rsN now (l := lev v.s) (by omega) hx]
  split
  · rfl
  · by_cases c : x < room (lev v.s)
    · rw [if_pos c, w.by c]
    · rw [if_neg c]; unfold byV; rw [if_neg (by have := lev_room w.hs; omega)]
theorem wrV_ok {b now off : Nat} {bs : List Int} {v : Vn} (w : VOk b v) (hb : b ≤ now) (h1 : 1 ≤ bs.length) (h2 : off + bs.length ≤ 4096) (m : Nat) : VOk now ⟨(wrV now off bs v m).1, max v.s (off + bs.length)⟩ := by
  have hs := w.hs
  have hl := lev_mono (show v.s ≤ max v.s (off + bs.length) by omega)
  have hr := lev_room (show max v.s (off + bs.length) ≤ 4096 by omega)
  refine ⟨by simp only; omega, ?_, ?_, fun x h3 h4 => ?_⟩
  · show Gd (lev (max v.s (off + bs.length)) + 1) now (wrV now off bs v m).1
    refine wr_gd _ _ _ _ _ _ _ ?_
    have := rsN_gd now (d := lev (max v.s (off + bs.length)) - lev v.s) m (w.gd.mono hb)
    rw [show lev v.s + 1 + (lev (max v.s (off + bs.length)) - lev v.s) = lev (max v.s (off + bs.length)) + 1 by omega] at this
    exact this
  · have hno : ¬ (0 + room (lev (max v.s (off + bs.length))) ≤ off ∨ off + bs.length ≤ 0) := by omega
    constructor
    · intro q; simp only at q; omega
    · intro q
      simp only [wrV] at q
      cases hL : lev (max v.s (off + bs.length)) with
      | zero => rw [hL] at q hno; unfold wr at q; rw [if_neg hno] at q; cases q
      | succ l => rw [hL] at q hno; unfold wr at q; rw [if_neg hno] at q; cases q
  · simp only at h3 h4 ⊢
    rw [wrV_cont w m h4, if_neg (by omega)]
    unfold byV; rw [if_neg (by omega)]

theorem rz_cont {b now s : Nat} {v : Vn} (w : VOk b v) (hs : s ≤ 4096) (m : Nat) {x : Nat} (hx : x < room (lev s)) : cont (lev s) (rz now v.s s v.t m).1 x = if x < s then byV v x else 0 := by
  have main : cont (lev s) (rsN now (lev s - lev v.s) (dn (lev v.s - lev s) (ct now s (lev v.s) 0 v.t m).1) (ct now s (lev v.s) 0 v.t m).2).1 x = if x < s then byV v x else 0 := by
    by_cases c : lev v.s ≤ lev s
    · rw [cont_rsN now (l := lev v.s) (by omega) hx, show lev v.s - lev s = 0 by omega]
      simp only [dn]
      by_cases c2 : x < room (lev v.s)
      · rw [if_pos c2, cont_ct _ _ _ _ _ _ _ c2, Nat.zero_add, w.by c2]
      · have := lev_room w.hs; rw [if_neg c2, show byV v x = 0 by unfold byV; rw [if_neg (by omega)]]; simp
    · have h2 : x < room (lev v.s) := by have := room_mono (show lev s ≤ lev v.s by omega); omega
      rw [cont_rsN now (l := lev s) (by omega) hx, if_pos hx, cont_dn _ _ _ _ hx, show lev s + (lev v.s - lev s) = lev v.s by omega, cont_ct _ _ _ _ _ _ _ h2, Nat.zero_add, w.by h2]
  unfold rz
  split
  · rename_i e
    rw [e, cont_nil] at main
    by_cases c : 0 < s
    · rw [if_pos c]
      rw [← main]
      cases lev s with
      | zero => rfl
      | succ l => simp only [cont, Tr.kids]; exact cont_nil _ _
    · rw [if_neg c, cont_nil]; exact main
  · exact main
theorem rz_ok {b now s : Nat} {v : Vn} (w : VOk b v) (hb : b ≤ now) (hs : s ≤ 4096) (m : Nat) : VOk now ⟨(rz now v.s s v.t m).1, s⟩ := by
  refine ⟨hs, ?_, ?_, fun x h3 h4 => by simp only at h3 h4 ⊢; rw [rz_cont w hs m h4, if_neg (by omega)]⟩
  · have g1 : Gd (lev v.s + 1) now (ct now s (lev v.s) 0 v.t m).1 := ct_gd _ _ _ _ _ _ (w.gd.mono hb)
    have g2 : Gd (min (lev v.s) (lev s) + 1) now (dn (lev v.s - lev s) (ct now s (lev v.s) 0 v.t m).1) := dn_gd _ _ _ _ (by rw [show min (lev v.s) (lev s) + 1 + (lev v.s - lev s) = lev v.s + 1 by omega]; exact g1)
    have g3 := rsN_gd now (d := lev s - lev v.s) (ct now s (lev v.s) 0 v.t m).2 g2
    rw [show min (lev v.s) (lev s) + 1 + (lev s - lev v.s) = lev s + 1 by omega] at g3
    show Gd (lev s + 1) now (rz now v.s s v.t m).1
    unfold rz
    split
    · split
      · exact ⟨Nat.le_refl _, fun i _ => Gd.nil _ _⟩
      · exact Gd.nil _ _
    · exact g3
  · simp only
    constructor
    · rintro rfl
      have e : (ct now 0 (lev v.s) 0 v.t m).1 = .nil := by
        cases v.t with
        | nil => rw [ct_nil]
        | nd a b c d => cases lev v.s <;> (simp only [ct]; rw [if_pos (Nat.le_refl _)])
      unfold rz
      rw [e, dn_nil]
      simp only [rsN]
      rw [if_neg (by omega)]
    · intro q
      unfold rz at q
      split at q
      · split at q
        · cases q
        · omega
      · rename_i e; rw [e] at q; cases q

end Go.Proofs.Ytogmdfbamgjjfaa.T
