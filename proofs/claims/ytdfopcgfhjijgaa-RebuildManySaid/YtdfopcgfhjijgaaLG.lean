/- Gauss and Jordan over the field with 256 elements, on functions of row and column. Nothing of a program. -/
import Derived.Test.YtdfopcgfhjijgaaMA
set_option linter.unusedVariables false
set_option linter.unusedSimpArgs false
namespace Go.Proofs.Ytdfopcgfhjijgaa.T
open Go Go.RowKit Go.Proofs

abbrev Fm := Nat → Nat → Nat
def F8 (M : Fm) : Prop := ∀ i j, M i j < 256
def dl (i j : Nat) : Nat := if i = j then 1 else 0
theorem dl_lt (i j : Nat) : dl i j < 256 := by unfold dl; split <;> omega

theorem xsum_dl (n i : Nat) (f : Nat → Nat) (hf : ∀ k, f k < 256) (hi : i < n) : xsum n (fun k => Gf.gm (dl i k) (f k)) = f i := by
  have : ∀ n, xsum n (fun k => Gf.gm (dl i k) (f k)) = if i < n then f i else 0 := by
    intro n
    induction n with
    | zero => simp [xsum]
    | succ n ih =>
      simp only [xsum]
      rw [ih]
      by_cases h : i = n
      · subst h; rw [if_neg (by omega), if_pos (by omega), dl, if_pos rfl, Gf.one_gm (hf _), Nat.zero_xor]
      · rw [dl, if_neg h, Gf.zero_gm, Nat.xor_zero]
        by_cases l : i < n
        · rw [if_pos l, if_pos (by omega)]
        · rw [if_neg l, if_neg (by omega)]
  rw [this, if_pos hi]

theorem dl_comm (i j : Nat) : dl i j = dl j i := by
  unfold dl
  by_cases h : i = j
  · subst h; rfl
  · rw [if_neg h, if_neg (fun e => h e.symm)]

/-! ### what rows span -/
def Span (n : Nat) (M : Fm) (v : Nat → Nat) : Prop := ∃ e : Nat → Nat, (∀ k, e k < 256) ∧ ∀ j, v j = xsum n fun k => Gf.gm (e k) (M k j)
theorem Span.row {n : Nat} {M : Fm} (hM : F8 M) {i : Nat} (hi : i < n) : Span n M (M i) :=
  ⟨dl i, dl_lt i, fun j => (xsum_dl n i (fun k => M k j) (fun k => hM k j) hi).symm⟩
theorem Span.xor {n : Nat} {M : Fm} {v u : Nat → Nat} (a : Span n M v) (b : Span n M u) : Span n M fun j => v j ^^^ u j := by
  obtain ⟨e, e1, e2⟩ := a
  obtain ⟨f, f1, f2⟩ := b
  refine ⟨fun k => e k ^^^ f k, fun k => Gf.xor_lt (e1 k) (f1 k), fun j => ?_⟩
  show v j ^^^ u j = _
  rw [e2, f2, ← xsum_xor]
  exact xsum_congr fun k _ => (Gf.gm_xor_left _ (e1 k) (f1 k)).symm
theorem Span.scale {n : Nat} {M : Fm} (hM : F8 M) {v : Nat → Nat} (a : Span n M v) {c : Nat} (hc : c < 256) : Span n M fun j => Gf.gm c (v j) := by
  obtain ⟨e, e1, e2⟩ := a
  refine ⟨fun k => Gf.gm c (e k), fun k => Gf.gm_lt hc, fun j => ?_⟩
  show Gf.gm c (v j) = _
  rw [e2, gm_xsum_right]
  exact xsum_congr fun k _ => (Gf.gm_assoc hc (e1 k) (hM k j)).symm
theorem Span.zero (n : Nat) (M : Fm) : Span n M fun _ => 0 :=
  ⟨fun _ => 0, fun _ => by show 0 < 256; omega, fun j => by
    rw [xsum_congr (g := fun _ => 0) fun k _ => Gf.zero_gm _, xsum_zero]⟩
theorem Span.sum {n : Nat} {M : Fm} {f : Nat → Nat → Nat} : ∀ m : Nat, (∀ k, k < m → Span n M (f k)) → Span n M fun j => xsum m fun k => f k j
  | 0, _ => Span.zero n M
  | m + 1, h => (Span.sum m fun k hk => h k (by omega)).xor (h m (by omega))
theorem Span.trans {n m : Nat} {M N : Fm} (hM : F8 M) {v : Nat → Nat} (a : Span m N v) (b : ∀ i, i < m → Span n M (N i)) : Span n M v := by
  obtain ⟨e, e1, e2⟩ := a
  have := Span.sum (f := fun k j => Gf.gm (e k) (N k j)) m fun k hk => (b k hk).scale hM (e1 k)
  have hv : v = fun j => xsum m fun k => Gf.gm (e k) (N k j) := funext e2
  rw [hv]; exact this

/-- Each has the rows of the other. -/
def Comb (n : Nat) (M N : Fm) : Prop := (∀ i, i < n → Span n M (N i)) ∧ ∀ i, i < n → Span n N (M i)
theorem Comb.refl {n : Nat} {M : Fm} (hM : F8 M) : Comb n M M := ⟨fun _ hi => Span.row hM hi, fun _ hi => Span.row hM hi⟩
theorem Comb.trans {n : Nat} {A B C : Fm} (hA : F8 A) (hC : F8 C) (a : Comb n A B) (b : Comb n B C) : Comb n A C :=
  ⟨fun i hi => (b.1 i hi).trans hA a.1, fun i hi => (a.2 i hi).trans hC b.2⟩

/-! ### one step -/
def swp (M : Fm) (r a : Nat) : Fm := fun i => if i = r then M a else if i = a then M r else M i
def top (M : Fm) (r c a : Nat) : Nat → Nat := fun j => Gf.gm (swp M r a r j) (Gf.gi (swp M r a r c))
def elm (M : Fm) (r c a : Nat) : Fm := fun i j => if i = r then top M r c a j else swp M r a i j ^^^ Gf.gm (swp M r a i c) (top M r c a j)

theorem swp_F8 {M : Fm} (hM : F8 M) (r a : Nat) : F8 (swp M r a) := by
  intro i j; unfold swp; split
  · exact hM _ _
  · split <;> exact hM _ _
theorem top_lt {M : Fm} (hM : F8 M) (r c a j : Nat) : top M r c a j < 256 := Gf.gm_lt (swp_F8 hM r a _ _)
theorem elm_F8 {M : Fm} (hM : F8 M) (r c a : Nat) : F8 (elm M r c a) := by
  intro i j; unfold elm; split
  · exact top_lt hM _ _ _ _
  · exact Gf.xor_lt (swp_F8 hM _ _ _ _) (Gf.gm_lt (swp_F8 hM _ _ _ _))
theorem swp_comb {n : Nat} {M : Fm} (hM : F8 M) {r a : Nat} (hr : r < n) (ha : a < n) : Comb n M (swp M r a) := by
  constructor
  · intro i hi
    unfold swp; split
    · exact Span.row hM ha
    · split
      · exact Span.row hM hr
      · exact Span.row hM hi
  · intro i hi
    by_cases h1 : i = r
    · have e : M i = swp M r a a := by
        subst h1; unfold swp
        by_cases h2 : a = i
        · subst h2; rw [if_pos rfl]
        · rw [if_neg h2, if_pos rfl]
      rw [e]; exact Span.row (swp_F8 hM r a) ha
    · by_cases h2 : i = a
      · have e : M i = swp M r a r := by unfold swp; rw [if_pos rfl, h2]
        rw [e]; exact Span.row (swp_F8 hM r a) hr
      · have e : M i = swp M r a i := by unfold swp; rw [if_neg h1, if_neg h2]
        rw [e]; exact Span.row (swp_F8 hM r a) hi
theorem elm_comb {n : Nat} {M : Fm} (hM : F8 M) {r c a : Nat} (hr : r < n) (ha : a < n) (hp : M a c ≠ 0) : Comb n M (elm M r c a) := by
  refine (swp_comb hM hr ha).trans hM (elm_F8 hM _ _ _) ?_
  have hP := swp_F8 hM r a
  have hE := elm_F8 hM r c a
  have hpr : swp M r a r c ≠ 0 := by unfold swp; rw [if_pos rfl]; exact hp
  have hT : Span n (swp M r a) (top M r c a) := by
    have := (Span.row hP hr).scale hP (Gf.gi_lt (hP r c))
    have e : top M r c a = fun j => Gf.gm (Gf.gi (swp M r a r c)) (swp M r a r j) := funext fun j => Gf.gm_comm (hP _ _) (Gf.gi_lt (hP _ _))
    rw [e]; exact this
  have hTE : Span n (elm M r c a) (top M r c a) := by
    have := Span.row hE hr
    have e : elm M r c a r = top M r c a := funext fun j => by unfold elm; rw [if_pos rfl]
    rwa [e] at this
  constructor
  · intro i hi
    by_cases h : i = r
    · have e : elm M r c a i = top M r c a := funext fun j => by unfold elm; rw [if_pos h]
      rw [e]; exact hT
    · have e : elm M r c a i = fun j => swp M r a i j ^^^ Gf.gm (swp M r a i c) (top M r c a j) := funext fun j => by unfold elm; rw [if_neg h]
      rw [e]; exact (Span.row hP hi).xor (hT.scale hP (hP i c))
  · intro i hi
    by_cases h : i = r
    · subst h
      have := hTE.scale hE (hP i c)
      have e : swp M i a i = fun j => Gf.gm (swp M i a i c) (top M i c a j) := funext fun j => by
        unfold top
        rw [Gf.gm_comm (hP i j) (Gf.gi_lt (hP i c)), ← Gf.gm_assoc (hP i c) (Gf.gi_lt (hP i c)) (hP i j), Gf.gm_gi (hP i c) hpr, Gf.one_gm (hP i j)]
      rw [e]; exact this
    · have := (Span.row hE hi).xor (hTE.scale hE (hP i c))
      have e : swp M r a i = fun j => elm M r c a i j ^^^ Gf.gm (swp M r a i c) (top M r c a j) := funext fun j => by
        unfold elm; rw [if_neg h, Nat.xor_assoc, Nat.xor_self, Nat.xor_zero]
      rw [e]; exact this

/-! ### all steps -/
def find (M : Fm) (c : Nat) : Nat → Nat → Option Nat
  | 0, _ => none
  | k + 1, i => if M i c ≠ 0 then some i else find M c k (i + 1)
theorem find_some {M : Fm} {c : Nat} : ∀ {k i a : Nat}, find M c k i = some a → i ≤ a ∧ a < i + k ∧ M a c ≠ 0
  | 0, _, _, h => by cases h
  | k + 1, i, a, h => by
    unfold find at h
    split at h
    · obtain rfl := Option.some.inj h; exact ⟨Nat.le_refl _, by omega, by assumption⟩
    · have := find_some h; exact ⟨by omega, by omega, this.2.2⟩
theorem find_none {M : Fm} {c : Nat} : ∀ {k i : Nat}, find M c k i = none → ∀ a, i ≤ a → a < i + k → M a c = 0
  | 0, _, _, a, _, _ => by omega
  | k + 1, i, h, a, h1, h2 => by
    unfold find at h
    split at h
    · cases h
    · rename_i hz
      by_cases e : a = i
      · subst e; omega
      · exact find_none h a (by omega) (by omega)
def red (n : Nat) : Nat → Nat → Nat → Fm → Fm × Nat
  | 0, _, r, M => (M, r)
  | k + 1, c, r, M => if r < n then (match find M c (n - r) r with
    | none => red n k (c + 1) r M
    | some a => red n k (c + 1) (r + 1) (elm M r c a)) else (M, r)

structure Inv (n c r : Nat) (M0 M : Fm) (p : Nat → Nat) : Prop where
  f8 : F8 M
  comb : Comb n M0 M
  rn : r ≤ n
  rc : r ≤ c
  lt : ∀ t, t < r → p t < c
  one : ∀ i t, i < n → t < r → M i (p t) = dl i t
  zero : ∀ i j, i < n → r ≤ i → j < c → M i j = 0
  diag : r = c → ∀ t, t < r → p t = t

theorem Inv.step {n c r a : Nat} {M0 M : Fm} {p : Nat → Nat} (h0 : F8 M0) (v : Inv n c r M0 M p) (h1 : r ≤ a) (h2 : a < n) (h3 : M a c ≠ 0) : Inv n (c + 1) (r + 1) M0 (elm M r c a) (fun t => if t = r then c else p t) := by
  have hP := swp_F8 v.f8 r a
  have hr : r < n := by omega
  have prc : swp M r a r = M a := by unfold swp; rw [if_pos rfl]
  have tc : top M r c a c = 1 := by
    unfold top; rw [prc]; exact Gf.gm_gi (v.f8 _ _) h3
  have tz : ∀ j, M a j = 0 → top M r c a j = 0 := by
    intro j hj; unfold top; rw [prc, hj, Gf.zero_gm]
  refine ⟨elm_F8 v.f8 _ _ _, v.comb.trans h0 (elm_F8 v.f8 _ _ _) (elm_comb v.f8 hr h2 h3), by omega, by have := v.rc; omega, ?_, ?_, ?_, ?_⟩
  · intro t ht
    by_cases e : t = r
    · rw [if_pos e]; omega
    · rw [if_neg e]; have := v.lt t (by omega); omega
  · intro i t hi ht
    by_cases e : t = r
    · rw [if_pos e]
      unfold elm
      by_cases hir : i = r
      · rw [if_pos hir, tc, hir, e, dl, if_pos rfl]
      · rw [if_neg hir, tc, Gf.gm_one _ (hP _ _), Nat.xor_self, dl, if_neg (by omega)]
    · rw [if_neg e]
      have ht' : t < r := by omega
      have za : M a (p t) = 0 := by rw [v.one a t h2 ht', dl, if_neg (by omega)]
      unfold elm
      by_cases hir : i = r
      · rw [if_pos hir, tz _ za, dl, if_neg (by omega)]
      · rw [if_neg hir, tz _ za, Gf.gm_zero, Nat.xor_zero]
        unfold swp
        rw [if_neg hir]
        by_cases hia : i = a
        · rw [if_pos hia, v.one r t hr ht', dl, dl, if_neg (by omega), if_neg (by omega)]
        · rw [if_neg hia]; exact v.one i t hi ht'
  · intro i j hi hri hj
    have hir : ¬ i = r := by omega
    unfold elm
    rw [if_neg hir]
    by_cases hjc : j = c
    · subst hjc; rw [tc, Gf.gm_one _ (hP _ _), Nat.xor_self]
    · have za : M a j = 0 := v.zero a j h2 h1 (by omega)
      rw [tz j za, Gf.gm_zero, Nat.xor_zero]
      unfold swp
      rw [if_neg hir]
      by_cases hia : i = a
      · rw [if_pos hia]; exact v.zero r j hr (Nat.le_refl _) (by omega)
      · rw [if_neg hia]; exact v.zero i j hi (by omega) (by omega)
  · intro e t ht
    by_cases htr : t = r
    · rw [if_pos htr]; omega
    · rw [if_neg htr]; exact v.diag (by omega) t (by omega)
theorem Inv.skip {n c r : Nat} {M0 M : Fm} {p : Nat → Nat} (v : Inv n c r M0 M p) (h : ∀ i, r ≤ i → i < n → M i c = 0) : Inv n (c + 1) r M0 M p :=
  ⟨v.f8, v.comb, v.rn, by have := v.rc; omega, fun t ht => by have := v.lt t ht; omega, v.one, fun i j hi hr hj => by
    by_cases e : j = c
    · subst e; exact h i hr hi
    · exact v.zero i j hi hr (by omega), fun e => by have := v.rc; omega⟩

/-- What is left when all columns below C were seen, or the rows are used up. -/
structure GaussRes (n C : Nat) (M0 M : Fm) (r : Nat) : Prop where
  f8 : F8 M
  comb : Comb n M0 M
  rn : r ≤ n
  piv : ∃ p : Nat → Nat, (∀ t, t < r → p t < C) ∧ ∀ i t, i < n → t < r → M i (p t) = dl i t
  zero : ∀ i j, i < n → r ≤ i → j < C → M i j = 0
  full : r = n → n = C → ∀ i t, i < n → t < n → M i t = dl i t

theorem red_res {n C : Nat} {M0 : Fm} (h0 : F8 M0) : ∀ (k c r : Nat) (M : Fm) (p : Nat → Nat), c + k = C → Inv n c r M0 M p → GaussRes n C M0 (red n k c r M).1 (red n k c r M).2
  | 0, c, r, M, p, e, v => by
    obtain rfl : c = C := by omega
    show GaussRes n c M0 M r
    exact ⟨v.f8, v.comb, v.rn, ⟨p, v.lt, v.one⟩, v.zero, fun h1 h2 i t hi ht => by
      have := v.one i t hi (by omega)
      rwa [v.diag (by omega) t (by omega)] at this⟩
  | k + 1, c, r, M, p, e, v => by
    unfold red
    by_cases hr : r < n
    · rw [if_pos hr]
      cases hf : find M c (n - r) r with
      | none => exact red_res h0 k (c + 1) r M p (by omega) (v.skip fun i h1 h2 => find_none hf i h1 (by omega))
      | some a =>
        have := find_some hf
        exact red_res h0 k (c + 1) (r + 1) (elm M r c a) _ (by omega) (v.step h0 this.1 (by omega) this.2.2)
    · rw [if_neg hr]
      have := v.rn
      have := v.rc
      exact ⟨v.f8, v.comb, v.rn, ⟨p, fun t ht => by have := v.lt t ht; omega, v.one⟩, fun i j hi hri => by omega, fun h1 h2 i t hi ht => by omega⟩
theorem red_all {n C : Nat} {M0 : Fm} (h0 : F8 M0) : GaussRes n C M0 (red n C 0 0 M0).1 (red n C 0 0 M0).2 :=
  red_res h0 C 0 0 M0 (fun t => t) (by omega) ⟨h0, Comb.refl h0, by omega, by omega, fun t ht => by omega, fun i t _ ht => by omega, fun i j _ _ hj => by omega, fun _ t ht => by omega⟩

/-- The columns beyond do not matter for what is left. -/
theorem elm_agree {n C r c a : Nat} {M N : Fm} (h : ∀ i j, i < n → j < C → M i j = N i j) (hr : r < n) (ha : a < n) (hc : c < C) : ∀ i j, i < n → j < C → elm M r c a i j = elm N r c a i j := by
  have hs : ∀ i j, i < n → j < C → swp M r a i j = swp N r a i j := by
    intro i j hi hj
    unfold swp
    by_cases h1 : i = r
    · rw [if_pos h1, if_pos h1]; exact h a j ha hj
    · rw [if_neg h1, if_neg h1]
      by_cases h2 : i = a
      · rw [if_pos h2, if_pos h2]; exact h r j hr hj
      · rw [if_neg h2, if_neg h2]; exact h i j hi hj
  have ht : ∀ j, j < C → top M r c a j = top N r c a j := by
    intro j hj; unfold top; rw [hs r j hr hj, hs r c hr hc]
  intro i j hi hj
  unfold elm
  by_cases h1 : i = r
  · rw [if_pos h1, if_pos h1, ht j hj]
  · rw [if_neg h1, if_neg h1, hs i j hi hj, hs i c hi hc, ht j hj]
theorem find_agree {n C c : Nat} {M N : Fm} (h : ∀ i j, i < n → j < C → M i j = N i j) (hc : c < C) : ∀ k i, i + k ≤ n → find M c k i = find N c k i
  | 0, _, _ => rfl
  | k + 1, i, hk => by
    unfold find
    rw [h i c (by omega) hc, find_agree h hc k (i + 1) (by omega)]
theorem red_agree {n C : Nat} : ∀ (k c r : Nat) (M N : Fm), c + k ≤ C → (∀ i j, i < n → j < C → M i j = N i j) → (red n k c r M).2 = (red n k c r N).2 ∧ ∀ i j, i < n → j < C → (red n k c r M).1 i j = (red n k c r N).1 i j
  | 0, c, r, M, N, e, h => ⟨rfl, h⟩
  | k + 1, c, r, M, N, e, h => by
    unfold red
    by_cases hr : r < n
    · rw [if_pos hr, if_pos hr, ← find_agree h (by omega) (n - r) r (by omega)]
      cases hf : find M c (n - r) r with
      | none => exact red_agree k (c + 1) r M N (by omega) h
      | some a =>
        have := find_some hf
        exact red_agree k (c + 1) (r + 1) _ _ (by omega) (elm_agree h hr (by omega) (by omega))
    · rw [if_neg hr, if_neg hr]; exact ⟨rfl, h⟩

end Go.Proofs.Ytdfopcgfhjijgaa.T
