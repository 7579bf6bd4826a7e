import Derived.Test.YtalfcokiooaliaaEA1
set_option linter.unusedVariables false
set_option linter.unusedSimpArgs false
namespace Go.Proofs.Ytalfcokiooaliaa.T
open Go Go.RowKit Go.Proofs

def val (r : List Nat) (B : List (List Nat)) (k : Nat) : Nat := xsum B.length fun i => Gf.gm (r.getD i 0) ((B.getD i []).getD k 0)
def mulRow (r : List Nat) (B : List (List Nat)) (w : Nat) : List Nat := (List.range w).map (val r B)
theorem getD_lt {r : List Nat} (hs : Small r) (i : Nat) : r.getD i 0 < 256 := by
  simp only [List.getD]
  cases e : r[i]? with
  | none => simp
  | some x => simp; exact hs x (List.mem_of_getElem? e)
theorem entD_lt {B : List (List Nat)} (hs : SmallM B) (i k : Nat) : (B.getD i []).getD k 0 < 256 := by
  refine getD_lt (fun x hx => ?_) k
  simp only [List.getD] at hx
  cases e : B[i]? with
  | none => rw [e] at hx; simp at hx
  | some r => rw [e] at hx; exact hs r (List.mem_of_getElem? e) x (by simpa using hx)
def mulM (A B : List (List Nat)) (w : Nat) : List (List Nat) := A.map fun r => mulRow r B w

end Go.Proofs.Ytalfcokiooaliaa.T

namespace Go.Proofs.Ytalfcokiooaliaa.T
open Go Go.RowKit Go.Proofs

/-! ### sums -/
theorem xsum_congr {n : Nat} {f g : Nat → Nat} (h : ∀ i, i < n → f i = g i) : xsum n f = xsum n g := by
  induction n with
  | zero => rfl
  | succ n ih => simp only [xsum]; rw [ih fun i hi => h i (by omega), h n (by omega)]
theorem xsum_xor (n : Nat) (f g : Nat → Nat) : xsum n (fun i => f i ^^^ g i) = xsum n f ^^^ xsum n g := by
  induction n with
  | zero => simp [xsum]
  | succ n ih => simp only [xsum]; rw [ih]; ac_rfl
theorem xsum_zero (n : Nat) : xsum n (fun _ => 0) = 0 := by
  induction n with
  | zero => rfl
  | succ n ih => simp only [xsum, ih]; rfl
theorem xsum_comm (n m : Nat) (f : Nat → Nat → Nat) : xsum n (fun i => xsum m (fun j => f i j)) = xsum m (fun j => xsum n (fun i => f i j)) := by
  induction n with
  | zero => simp only [xsum, xsum_zero]
  | succ n ih => simp only [xsum]; rw [ih, xsum_xor]
theorem gm_xsum_right (a n : Nat) (f : Nat → Nat) : Gf.gm a (xsum n f) = xsum n fun i => Gf.gm a (f i) := by
  induction n with
  | zero => exact Gf.gm_zero a
  | succ n ih => simp only [xsum]; rw [Gf.gm_xor_right, ih]
theorem gm_xsum_left (c n : Nat) (f : Nat → Nat) (hf : ∀ i, i < n → f i < 256) : Gf.gm (xsum n f) c = xsum n fun i => Gf.gm (f i) c := by
  induction n with
  | zero => exact Gf.zero_gm c
  | succ n ih => simp only [xsum]; rw [Gf.gm_xor_left c (xsum_lt n fun i hi => hf i (by omega)) (hf n (by omega)), ih fun i hi => hf i (by omega)]

/-! ### products -/
theorem mulRow_get {r : List Nat} {B : List (List Nat)} {w k : Nat} (hk : k < w) : (mulRow r B w).getD k 0 = val r B k := by
  simp [mulRow, List.getD, List.getElem?_range hk]
theorem mulM_get {A B : List (List Nat)} {w i : Nat} (hi : i < A.length) : (mulM A B w).getD i [] = mulRow (A.getD i []) B w := by
  simp [mulM, List.getD, List.getElem?_eq_getElem hi]
theorem mulM_len (A B : List (List Nat)) (w : Nat) : (mulM A B w).length = A.length := by simp [mulM]
theorem val_assoc {r : List Nat} {B C : List (List Nat)} {w2 : Nat} (hr : Small r) (hB : SmallM B) (hC : SmallM C) {k : Nat} (hk : k < w2) :
    val (mulRow r B C.length) C k = val r (mulM B C w2) k := by
  unfold val
  rw [mulM_len]
  have e1 : xsum C.length (fun i => Gf.gm ((mulRow r B C.length).getD i 0) ((C.getD i []).getD k 0)) = xsum C.length (fun j => xsum B.length fun i => Gf.gm (Gf.gm (r.getD i 0) ((B.getD i []).getD j 0)) ((C.getD j []).getD k 0)) := by
    refine xsum_congr fun j hj => ?_
    rw [mulRow_get hj]
    exact gm_xsum_left _ _ _ fun i _ => Gf.gm_lt (getD_lt hr i)
  have e2 : xsum B.length (fun i => Gf.gm (r.getD i 0) (((mulM B C w2).getD i []).getD k 0)) = xsum B.length (fun i => xsum C.length fun j => Gf.gm (r.getD i 0) (Gf.gm ((B.getD i []).getD j 0) ((C.getD j []).getD k 0))) := by
    refine xsum_congr fun i hi => ?_
    rw [mulM_get hi, mulRow_get hk]
    exact gm_xsum_right _ _ _
  rw [e1, e2, xsum_comm]
  refine xsum_congr fun i _ => xsum_congr fun j _ => ?_
  exact Gf.gm_assoc (getD_lt hr i) (entD_lt hB i j) (entD_lt hC j k)
theorem mul_assoc {A B C : List (List Nat)} {w2 : Nat} (hA : SmallM A) (hB : SmallM B) (hC : SmallM C) : mulM (mulM A B C.length) C w2 = mulM A (mulM B C w2) w2 := by
  unfold mulM
  rw [List.map_map]
  apply List.map_congr_left
  intro r hr
  show mulRow (mulRow r B C.length) C w2 = mulRow r (mulM B C w2) w2
  unfold mulRow
  apply List.map_congr_left
  intro k hk
  exact val_assoc (hA r hr) hB hC (List.mem_range.1 hk)

end Go.Proofs.Ytalfcokiooaliaa.T

/- Gauss and Jordan over the field with 256 elements, on functions of row and column. Nothing of a program. -/
namespace Go.Proofs.Ytalfcokiooaliaa.T
open Go Go.RowKit Go.Proofs

abbrev Fm := Nat → Nat → Nat
def F8 (M : Fm) : Prop := ∀ i j, M i j < 256
def dl (i j : Nat) : Nat := if i = j then 1 else 0
theorem dl_lt (i j : Nat) : dl i j < 256 := by unfold dl; split <;> omega

theorem xsum_dl (n i : Nat) (f : Nat → Nat) (hf : ∀ k, f k < 256) (hi : i < n) : xsum n (fun k => Gf.gm (dl i k) (f k)) = f i := by
  have : ∀ n, xsum n (fun k => Gf.gm (dl i k) (f k)) = if i < n then f i else 0 := by
    intro n
    induction n with
    | zero => simp [xsum]
    | succ n ih =>
      simp only [xsum]
      rw [ih]
      by_cases h : i = n
      · subst h; rw [if_neg (by omega), if_pos (by omega), dl, if_pos rfl, Gf.one_gm (hf _), Nat.zero_xor]
      · rw [dl, if_neg h, Gf.zero_gm, Nat.xor_zero]
        by_cases l : i < n
        · rw [if_pos l, if_pos (by omega)]
        · rw [if_neg l, if_neg (by omega)]
  rw [this, if_pos hi]

theorem dl_comm (i j : Nat) : dl i j = dl j i := by
  unfold dl
  by_cases h : i = j
  · subst h; rfl
  · rw [if_neg h, if_neg (fun e => h e.symm)]

/-! ### what rows span -/
def Span (n : Nat) (M : Fm) (v : Nat → Nat) : Prop := ∃ e : Nat → Nat, (∀ k, e k < 256) ∧ ∀ j, v j = xsum n fun k => Gf.gm (e k) (M k j)
theorem Span.row {n : Nat} {M : Fm} (hM : F8 M) {i : Nat} (hi : i < n) : Span n M (M i) :=
  ⟨dl i, dl_lt i, fun j => (xsum_dl n i (fun k => M k j) (fun k => hM k j) hi).symm⟩
theorem Span.xor {n : Nat} {M : Fm} {v u : Nat → Nat} (a : Span n M v) (b : Span n M u) : Span n M fun j => v j ^^^ u j := by
  obtain ⟨e, e1, e2⟩ := a
  obtain ⟨f, f1, f2⟩ := b
  refine ⟨fun k => e k ^^^ f k, fun k => Gf.xor_lt (e1 k) (f1 k), fun j => ?_⟩
  show v j ^^^ u j = _
  rw [e2, f2, ← xsum_xor]
  exact xsum_congr fun k _ => (Gf.gm_xor_left _ (e1 k) (f1 k)).symm
theorem Span.scale {n : Nat} {M : Fm} (hM : F8 M) {v : Nat → Nat} (a : Span n M v) {c : Nat} (hc : c < 256) : Span n M fun j => Gf.gm c (v j) := by
  obtain ⟨e, e1, e2⟩ := a
  refine ⟨fun k => Gf.gm c (e k), fun k => Gf.gm_lt hc, fun j => ?_⟩
  show Gf.gm c (v j) = _
  rw [e2, gm_xsum_right]
  exact xsum_congr fun k _ => (Gf.gm_assoc hc (e1 k) (hM k j)).symm
theorem Span.zero (n : Nat) (M : Fm) : Span n M fun _ => 0 :=
  ⟨fun _ => 0, fun _ => by show 0 < 256; omega, fun j => by
    rw [xsum_congr (g := fun _ => 0) fun k _ => Gf.zero_gm _, xsum_zero]⟩
theorem Span.sum {n : Nat} {M : Fm} {f : Nat → Nat → Nat} : ∀ m : Nat, (∀ k, k < m → Span n M (f k)) → Span n M fun j => xsum m fun k => f k j
  | 0, _ => Span.zero n M
  | m + 1, h => (Span.sum m fun k hk => h k (by omega)).xor (h m (by omega))
theorem Span.trans {n m : Nat} {M N : Fm} (hM : F8 M) {v : Nat → Nat} (a : Span m N v) (b : ∀ i, i < m → Span n M (N i)) : Span n M v := by
  obtain ⟨e, e1, e2⟩ := a
  have := Span.sum (f := fun k j => Gf.gm (e k) (N k j)) m fun k hk => (b k hk).scale hM (e1 k)
  have hv : v = fun j => xsum m fun k => Gf.gm (e k) (N k j) := funext e2
  rw [hv]; exact this

/-- Each has the rows of the other. -/
def Comb (n : Nat) (M N : Fm) : Prop := (∀ i, i < n → Span n M (N i)) ∧ ∀ i, i < n → Span n N (M i)
theorem Comb.refl {n : Nat} {M : Fm} (hM : F8 M) : Comb n M M := ⟨fun _ hi => Span.row hM hi, fun _ hi => Span.row hM hi⟩
theorem Comb.trans {n : Nat} {A B C : Fm} (hA : F8 A) (hC : F8 C) (a : Comb n A B) (b : Comb n B C) : Comb n A C :=
  ⟨fun i hi => (b.1 i hi).trans hA a.1, fun i hi => (a.2 i hi).trans hC b.2⟩

/-! ### one step -/
def swp (M : Fm) (r a : Nat) : Fm := fun i => if i = r then M a else if i = a then M r else M i
def top (M : Fm) (r c a : Nat) : Nat → Nat := fun j => Gf.gm (swp M r a r j) (Gf.gi (swp M r a r c))
def elm (M : Fm) (r c a : Nat) : Fm := fun i j => if i = r then top M r c a j else swp M r a i j ^^^ Gf.gm (swp M r a i c) (top M r c a j)

theorem swp_F8 {M : Fm} (hM : F8 M) (r a : Nat) : F8 (swp M r a) := by
  intro i j; unfold swp; split
  · exact hM _ _
  · split <;> exact hM _ _
theorem top_lt {M : Fm} (hM : F8 M) (r c a j : Nat) : top M r c a j < 256 := Gf.gm_lt (swp_F8 hM r a _ _)
theorem elm_F8 {M : Fm} (hM : F8 M) (r c a : Nat) : F8 (elm M r c a) := by
  intro i j; unfold elm; split
  · exact top_lt hM _ _ _ _
  · exact Gf.xor_lt (swp_F8 hM _ _ _ _) (Gf.gm_lt (swp_F8 hM _ _ _ _))
theorem swp_comb {n : Nat} {M : Fm} (hM : F8 M) {r a : Nat} (hr : r < n) (ha : a < n) : Comb n M (swp M r a) := by
  constructor
  · intro i hi
    unfold swp; split
    · exact Span.row hM ha
    · split
      · exact Span.row hM hr
      · exact Span.row hM hi
  · intro i hi
    by_cases h1 : i = r
    · have e : M i = swp M r a a := by
        subst h1; unfold swp
        by_cases h2 : a = i
        · subst h2; rw [if_pos rfl]
        · rw [if_neg h2, if_pos rfl]
      rw [e]; exact Span.row (swp_F8 hM r a) ha
    · by_cases h2 : i = a
      · have e : M i = swp M r a r := by unfold swp; rw [if_pos rfl, h2]
        rw [e]; exact Span.row (swp_F8 hM r a) hr
      · have e : M i = swp M r a i := by unfold swp; rw [if_neg h1, if_neg h2]
        rw [e]; exact Span.row (swp_F8 hM r a) hi
theorem elm_comb {n : Nat} {M : Fm} (hM : F8 M) {r c a : Nat} (hr : r < n) (ha : a < n) (hp : M a c ≠ 0) : Comb n M (elm M r c a) := by
  refine (swp_comb hM hr ha).trans hM (elm_F8 hM _ _ _) ?_
  have hP := swp_F8 hM r a
  have hE := elm_F8 hM r c a
  have hpr : swp M r a r c ≠ 0 := by unfold swp; rw [if_pos rfl]; exact hp
  have hT : Span n (swp M r a) (top M r c a) := by
    have := (Span.row hP hr).scale hP (Gf.gi_lt (hP r c))
    have e : top M r c a = fun j => Gf.gm (Gf.gi (swp M r a r c)) (swp M r a r j) := funext fun j => Gf.gm_comm (hP _ _) (Gf.gi_lt (hP _ _))
    rw [e]; exact this
  have hTE : Span n (elm M r c a) (top M r c a) := by
    have := Span.row hE hr
    have e : elm M r c a r = top M r c a := funext fun j => by unfold elm; rw [if_pos rfl]
    rwa [e] at this
  constructor
  · intro i hi
    by_cases h : i = r
    · have e : elm M r c a i = top M r c a := funext fun j => by unfold elm; rw [if_pos h]
      rw [e]; exact hT
    · have e : elm M r c a i = fun j => swp M r a i j ^^^ Gf.gm (swp M r a i c) (top M r c a j) := funext fun j => by unfold elm; rw [if_neg h]
      rw [e]; exact (Span.row hP hi).xor (hT.scale hP (hP i c))
  · intro i hi
    by_cases h : i = r
    · subst h
      have := hTE.scale hE (hP i c)
      have e : swp M i a i = fun j => Gf.gm (swp M i a i c) (top M i c a j) := funext fun j => by
        unfold top
        rw [Gf.gm_comm (hP i j) (Gf.gi_lt (hP i c)), ← Gf.gm_assoc (hP i c) (Gf.gi_lt (hP i c)) (hP i j), Gf.gm_gi (hP i c) hpr, Gf.one_gm (hP i j)]
      rw [e]; exact this
    · have := (Span.row hE hi).xor (hTE.scale hE (hP i c))
      have e : swp M r a i = fun j => elm M r c a i j ^^^ Gf.gm (swp M r a i c) (top M r c a j) := funext fun j => by
        unfold elm; rw [if_neg h, Nat.xor_assoc, Nat.xor_self, Nat.xor_zero]
      rw [e]; exact this

/-! ### all steps -/
def find (M : Fm) (c : Nat) : Nat → Nat → Option Nat
  | 0, _ => none
  | k + 1, i => if M i c ≠ 0 then some i else find M c k (i + 1)
theorem find_some {M : Fm} {c : Nat} : ∀ {k i a : Nat}, find M c k i = some a → i ≤ a ∧ a < i + k ∧ M a c ≠ 0
  | 0, _, _, h => by cases h
  | k + 1, i, a, h => by
    unfold find at h
    split at h
    · obtain rfl := Option.some.inj h; exact ⟨Nat.le_refl _, by omega, by assumption⟩
    · have := find_some h; exact ⟨by omega, by omega, this.2.2⟩
theorem find_none {M : Fm} {c : Nat} : ∀ {k i : Nat}, find M c k i = none → ∀ a, i ≤ a → a < i + k → M a c = 0
  | 0, _, _, a, _, _ => by omega
  | k + 1, i, h, a, h1, h2 => by
    unfold find at h
    split at h
    · cases h
    · rename_i hz
      by_cases e : a = i
      · subst e; omega
      · exact find_none h a (by omega) (by omega)
def red (n : Nat) : Nat → Nat → Nat → Fm → Fm × Nat
  | 0, _, r, M => (M, r)
  | k + 1, c, r, M => if r < n then (match find M c (n - r) r with
    | none => red n k (c + 1) r M
    | some a => red n k (c + 1) (r + 1) (elm M r c a)) else (M, r)

structure Inv (n c r : Nat) (M0 M : Fm) (p : Nat → Nat) : Prop where
  f8 : F8 M
  comb : Comb n M0 M
  rn : r ≤ n
  rc : r ≤ c
  lt : ∀ t, t < r → p t < c
  one : ∀ i t, i < n → t < r → M i (p t) = dl i t
  zero : ∀ i j, i < n → r ≤ i → j < c → M i j = 0
  diag : r = c → ∀ t, t < r → p t = t

theorem Inv.step {n c r a : Nat} {M0 M : Fm} {p : Nat → Nat} (h0 : F8 M0) (v : Inv n c r M0 M p) (h1 : r ≤ a) (h2 : a < n) (h3 : M a c ≠ 0) : Inv n (c + 1) (r + 1) M0 (elm M r c a) (fun t => if t = r then c else p t) := by
  have hP := swp_F8 v.f8 r a
  have hr : r < n := by omega
  have prc : swp M r a r = M a := by unfold swp; rw [if_pos rfl]
  have tc : top M r c a c = 1 := by
    unfold top; rw [prc]; exact Gf.gm_gi (v.f8 _ _) h3
  have tz : ∀ j, M a j = 0 → top M r c a j = 0 := by
    intro j hj; unfold top; rw [prc, hj, Gf.zero_gm]
  refine ⟨elm_F8 v.f8 _ _ _, v.comb.trans h0 (elm_F8 v.f8 _ _ _) (elm_comb v.f8 hr h2 h3), by omega, by have := v.rc; omega, ?_, ?_, ?_, ?_⟩
  · intro t ht
    by_cases e : t = r
    · rw [if_pos e]; omega
    · rw [if_neg e]; have := v.lt t (by omega); omega
  · intro i t hi ht
    by_cases e : t = r
    · rw [if_pos e]
      unfold elm
      by_cases hir : i = r
      · rw [if_pos hir, tc, hir, e, dl, if_pos rfl]
      · rw [if_neg hir, tc, Gf.gm_one _ (hP _ _), Nat.xor_self, dl, if_neg (by omega)]
    · rw [if_neg e]
      have ht' : t < r := by omega
      have za : M a (p t) = 0 := by rw [v.one a t h2 ht', dl, if_neg (by omega)]
      unfold elm
      by_cases hir : i = r
      · rw [if_pos hir, tz _ za, dl, if_neg (by omega)]
      · rw [if_neg hir, tz _ za, Gf.gm_zero, Nat.xor_zero]
        unfold swp
        rw [if_neg hir]
        by_cases hia : i = a
        · rw [if_pos hia, v.one r t hr ht', dl, dl, if_neg (by omega), if_neg (by omega)]
        · rw [if_neg hia]; exact v.one i t hi ht'
  · intro i j hi hri hj
    have hir : ¬ i = r := by omega
    unfold elm
    rw [if_neg hir]
    by_cases hjc : j = c
    · subst hjc; rw [tc, Gf.gm_one _ (hP _ _), Nat.xor_self]
    · have za : M a j = 0 := v.zero a j h2 h1 (by omega)
      rw [tz j za, Gf.gm_zero, Nat.xor_zero]
      unfold swp
      rw [if_neg hir]
      by_cases hia : i = a
      · rw [if_pos hia]; exact v.zero r j hr (Nat.le_refl _) (by omega)
      · rw [if_neg hia]; exact v.zero i j hi (by omega) (by omega)
  · intro e t ht
    by_cases htr : t = r
    · rw [if_pos htr]; omega
    · rw [if_neg htr]; exact v.diag (by omega) t (by omega)
theorem Inv.skip {n c r : Nat} {M0 M : Fm} {p : Nat → Nat} (v : Inv n c r M0 M p) (h : ∀ i, r ≤ i → i < n → M i c = 0) : Inv n (c + 1) r M0 M p :=
  ⟨v.f8, v.comb, v.rn, by have := v.rc; omega, fun t ht => by have := v.lt t ht; omega, v.one, fun i j hi hr hj => by
    by_cases e : j = c
    · subst e; exact h i hr hi
    · exact v.zero i j hi hr (by omega), fun e => by have := v.rc; omega⟩

/-- What is left when all columns below C were seen, or the rows are used up. -/
structure GaussRes (n C : Nat) (M0 M : Fm) (r : Nat) : Prop where
  f8 : F8 M
  comb : Comb n M0 M
  rn : r ≤ n
  piv : ∃ p : Nat → Nat, (∀ t, t < r → p t < C) ∧ ∀ i t, i < n → t < r → M i (p t) = dl i t
  zero : ∀ i j, i < n → r ≤ i → j < C → M i j = 0
  full : r = n → n = C → ∀ i t, i < n → t < n → M i t = dl i t

theorem red_res {n C : Nat} {M0 : Fm} (h0 : F8 M0) : ∀ (k c r : Nat) (M : Fm) (p : Nat → Nat), c + k = C → Inv n c r M0 M p → GaussRes n C M0 (red n k c r M).1 (red n k c r M).2
  | 0, c, r, M, p, e, v => by
    obtain rfl : c = C := by omega
    show GaussRes n c M0 M r
    exact ⟨v.f8, v.comb, v.rn, ⟨p, v.lt, v.one⟩, v.zero, fun h1 h2 i t hi ht => by
      have := v.one i t hi (by omega)
      rwa [v.diag (by omega) t (by omega)] at this⟩
  | k + 1, c, r, M, p, e, v => by
    unfold red
    by_cases hr : r < n
    · rw [if_pos hr]
      cases hf : find M c (n - r) r with
      | none => exact red_res h0 k (c + 1) r M p (by omega) (v.skip fun i h1 h2 => find_none hf i h1 (by omega))
      | some a =>
        have := find_some hf
        exact red_res h0 k (c + 1) (r + 1) (elm M r c a) _ (by omega) (v.step h0 this.1 (by omega) this.2.2)
    · rw [if_neg hr]
      have := v.rn
      have := v.rc
      exact ⟨v.f8, v.comb, v.rn, ⟨p, fun t ht => by have := v.lt t ht; omega, v.one⟩, fun i j hi hri => by omega, fun h1 h2 i t hi ht => by omega⟩
theorem red_all {n C : Nat} {M0 : Fm} (h0 : F8 M0) : GaussRes n C M0 (red n C 0 0 M0).1 (red n C 0 0 M0).2 :=
  red_res h0 C 0 0 M0 (fun t => t) (by omega) ⟨h0, Comb.refl h0, by omega, by omega, fun t ht => by omega, fun i t _ ht => by omega, fun i j _ _ hj => by omega, fun _ t ht => by omega⟩

/-- The columns beyond do not matter for what is left. -/
theorem elm_agree {n C r c a : Nat} {M N : Fm} (h : ∀ i j, i < n → j < C → M i j = N i j) (hr : r < n) (ha : a < n) (hc : c < C) : ∀ i j, i < n → j < C → elm M r c a i j = elm N r c a i j := by
  have hs : ∀ i j, i < n → j < C → swp M r a i j = swp N r a i j := by
    intro i j hi hj
    unfold swp
    by_cases h1 : i = r
    · rw [if_pos h1, if_pos h1]; exact h a j ha hj
    · rw [if_neg h1, if_neg h1]
      by_cases h2 : i = a
      · rw [if_pos h2, if_pos h2]; exact h r j hr hj
      · rw [if_neg h2, if_neg h2]; exact h i j hi hj
  have ht : ∀ j, j < C → top M r c a j = top N r c a j := by
    intro j hj; unfold top; rw [hs r j hr hj, hs r c hr hc]
  intro i j hi hj
  unfold elm
  by_cases h1 : i = r
  · rw [if_pos h1, if_pos h1, ht j hj]
  · rw [if_neg h1, if_neg h1, hs i j hi hj, hs i c hi hc, ht j hj]
theorem find_agree {n C c : Nat} {M N : Fm} (h : ∀ i j, i < n → j < C → M i j = N i j) (hc : c < C) : ∀ k i, i + k ≤ n → find M c k i = find N c k i
  | 0, _, _ => rfl
  | k + 1, i, hk => by
    unfold find
    rw [h i c (by omega) hc, find_agree h hc k (i + 1) (by omega)]
theorem red_agree {n C : Nat} : ∀ (k c r : Nat) (M N : Fm), c + k ≤ C → (∀ i j, i < n → j < C → M i j = N i j) → (red n k c r M).2 = (red n k c r N).2 ∧ ∀ i j, i < n → j < C → (red n k c r M).1 i j = (red n k c r N).1 i j
  | 0, c, r, M, N, e, h => ⟨rfl, h⟩
  | k + 1, c, r, M, N, e, h => by
    unfold red
    by_cases hr : r < n
    · rw [if_pos hr, if_pos hr, ← find_agree h (by omega) (n - r) r (by omega)]
      cases hf : find M c (n - r) r with
      | none => exact red_agree k (c + 1) r M N (by omega) h
      | some a =>
        have := find_some hf
        exact red_agree k (c + 1) (r + 1) _ _ (by omega) (elm_agree h hr (by omega) (by omega))
    · rw [if_neg hr, if_neg hr]; exact ⟨rfl, h⟩

end Go.Proofs.Ytalfcokiooaliaa.T

/- Rank and inverse over the field with 256 elements. Nothing of a program. -/
namespace Go.Proofs.Ytalfcokiooaliaa.T
open Go Go.RowKit Go.Proofs

theorem xsum_dr (n j : Nat) (f : Nat → Nat) (hf : ∀ k, f k < 256) (hj : j < n) : xsum n (fun k => Gf.gm (f k) (dl k j)) = f j := by
  rw [← xsum_dl n j f hf hj]
  exact xsum_congr fun k _ => by rw [Gf.gm_comm (hf k) (dl_lt _ _), dl_comm]

/-! ### more do not go into fewer -/
theorem pigeon : ∀ (m n : Nat) (f : Nat → Nat), (∀ i, i < n → f i < m) → (∀ i j, i < n → j < n → f i = f j → i = j) → n ≤ m
  | 0, n, f, h, _ => by
    by_cases hn : n = 0
    · omega
    · have := h 0 (by omega); omega
  | m + 1, n, f, h, hi => by
    by_cases hn : n = 0
    · omega
    obtain ⟨k, rfl⟩ : ∃ k, n = k + 1 := ⟨n - 1, by omega⟩
    have : k ≤ m := by
      refine pigeon m k (fun i => if f i = m then f k else f i) (fun i hik => ?_) (fun i j hik hjk e => ?_)
      · by_cases c : f i = m
        · simp only [if_pos c]
          have h1 := h k (by omega)
          have h2 : f k ≠ m := fun e => by have := hi i k (by omega) (by omega) (by omega); omega
          omega
        · simp only [if_neg c]
          have := h i (by omega); omega
      · by_cases c : f i = m
        · by_cases d : f j = m
          · exact hi i j (by omega) (by omega) (by omega)
          · simp only [if_pos c, if_neg d] at e
            have := hi k j (by omega) (by omega) e; omega
        · by_cases d : f j = m
          · simp only [if_neg c, if_pos d] at e
            have := hi i k (by omega) (by omega) e; omega
          · simp only [if_neg c, if_neg d] at e
            exact hi i j (by omega) (by omega) e
    omega

def dig : Nat → Nat → Nat
  | 0, v => v % 256
  | t + 1, v => dig t (v / 256)
theorem dig_lt : ∀ t v, dig t v < 256
  | 0, v => by show v % 256 < 256; omega
  | t + 1, v => dig_lt t (v / 256)
theorem dig_inj : ∀ (r v u : Nat), v < 256 ^ r → u < 256 ^ r → (∀ t, t < r → dig t v = dig t u) → v = u
  | 0, v, u, hv, hu, _ => by simp at hv hu; omega
  | r + 1, v, u, hv, hu, h => by
    rw [Nat.pow_succ] at hv hu
    have h0 : v % 256 = u % 256 := h 0 (by omega)
    have h1 : v / 256 = u / 256 := dig_inj r _ _ (by omega) (by omega) fun t ht => h (t + 1) (by omega)
    omega
def enc256 : Nat → (Nat → Nat) → Nat
  | 0, _ => 0
  | s + 1, g => g 0 + 256 * enc256 s fun k => g (k + 1)
theorem enc256_lt : ∀ (s : Nat) (g : Nat → Nat), (∀ k, g k < 256) → enc256 s g < 256 ^ s
  | 0, g, _ => by simp [enc256]
  | s + 1, g, h => by
    have := enc256_lt s (fun k => g (k + 1)) fun k => h _
    have := h 0
    rw [Nat.pow_succ]
    show g 0 + 256 * enc256 s (fun k => g (k + 1)) < _
    omega
theorem enc256_inj : ∀ (s : Nat) (g f : Nat → Nat), (∀ k, g k < 256) → (∀ k, f k < 256) → enc256 s g = enc256 s f → ∀ k, k < s → g k = f k
  | 0, _, _, _, _, _, k, hk => by omega
  | s + 1, g, f, hg, hf, e, k, hk => by
    have e : g 0 + 256 * enc256 s (fun k => g (k + 1)) = f 0 + 256 * enc256 s (fun k => f (k + 1)) := e
    have h1 := hg 0
    have h2 := hf 0
    cases k with
    | zero => omega
    | succ k => exact enc256_inj s (fun k => g (k + 1)) (fun k => f (k + 1)) (fun _ => hg _) (fun _ => hf _) (by omega) k (by omega)

theorem inner_le {r s : Nat} {A B : Fm} (hA : F8 A) (hB : F8 B) (h : ∀ t u, t < r → u < r → xsum s (fun k => Gf.gm (A t k) (B k u)) = dl t u) : r ≤ s := by
  have hp : 256 ^ r ≤ 256 ^ s := by
    have sm : ∀ v k, xsum r (fun t => Gf.gm (dig t v) (A t k)) < 256 := fun v k => xsum_lt r fun t _ => Gf.gm_lt (dig_lt t v)
    refine pigeon (256 ^ s) (256 ^ r) (fun v => enc256 s fun k => xsum r fun t => Gf.gm (dig t v) (A t k)) (fun v _ => enc256_lt s _ fun k => sm v k) (fun v u hv hu e => ?_)
    have e' := enc256_inj s _ _ (fun k => sm v k) (fun k => sm u k) e
    have back : ∀ v x, x < r → xsum s (fun k => Gf.gm (xsum r fun t => Gf.gm (dig t v) (A t k)) (B k x)) = dig x v := by
      intro v x hx
      rw [xsum_congr (g := fun k => xsum r fun t => Gf.gm (dig t v) (Gf.gm (A t k) (B k x))) fun k _ => by
        rw [gm_xsum_left _ _ _ fun t _ => Gf.gm_lt (dig_lt t v)]
        exact xsum_congr fun t _ => Gf.gm_assoc (dig_lt t v) (hA t k) (hB k x)]
      rw [xsum_comm]
      rw [xsum_congr (g := fun t => Gf.gm (dig t v) (dl t x)) fun t ht => by rw [← gm_xsum_right, h t x ht hx]]
      exact xsum_dr r x (fun t => dig t v) (fun t => dig_lt t v) hx
    refine dig_inj r v u hv hu fun x hx => ?_
    rw [← back v x hx, ← back u x hx]
    exact xsum_congr fun k hk => by rw [e' k hk]
  by_cases hc : r ≤ s
  · exact hc
  · have := Nat.pow_lt_pow_right (show 1 < 256 by omega) (show s < r by omega)
    omega

/-! ### factors -/
def Fac (n C : Nat) (M : Fm) (s : Nat) : Prop := ∃ P Q : Fm, F8 P ∧ F8 Q ∧ ∀ i j, i < n → j < C → M i j = xsum s fun k => Gf.gm (P i k) (Q k j)

theorem assoc3 {n s : Nat} {e : Nat → Nat} {P Q : Fm} (he : ∀ k, e k < 256) (hP : F8 P) (hQ : F8 Q) (j : Nat) : xsum n (fun i => Gf.gm (e i) (xsum s fun k => Gf.gm (P i k) (Q k j))) = xsum s fun k => Gf.gm (xsum n fun i => Gf.gm (e i) (P i k)) (Q k j) := by
  rw [xsum_congr (g := fun i => xsum s fun k => Gf.gm (Gf.gm (e i) (P i k)) (Q k j)) fun i _ => by
    rw [gm_xsum_right]
    exact xsum_congr fun k _ => (Gf.gm_assoc (he i) (hP i k) (hQ k j)).symm]
  rw [xsum_comm]
  exact xsum_congr fun k _ => (gm_xsum_left _ _ _ fun i _ => Gf.gm_lt (he i)).symm

theorem xsum_short {f : Nat → Nat} {r : Nat} : ∀ n, r ≤ n → (∀ k, r ≤ k → k < n → f k = 0) → xsum n f = xsum r f
  | 0, h, _ => by obtain rfl : r = 0 := by omega
                  rfl
  | n + 1, h, z => by
    by_cases e : r = n + 1
    · rw [e]
    · show xsum n f ^^^ f n = _
      rw [z n (by omega) (by omega), Nat.xor_zero, xsum_short n (by omega) fun k h1 h2 => z k h1 (by omega)]

theorem GaussRes.fac {n C r : Nat} {M0 M : Fm} (v : GaussRes n C M0 M r) : Fac n C M0 r := by
  have ex : ∀ t, ∃ g : Nat → Nat, (∀ k, g k < 256) ∧ (t < n → ∀ j, M0 t j = xsum n fun k => Gf.gm (g k) (M k j)) := by
    intro t
    by_cases ht : t < n
    · obtain ⟨g, g1, g2⟩ := v.comb.2 t ht
      exact ⟨g, g1, fun _ => g2⟩
    · exact ⟨fun _ => 0, fun _ => by show 0 < 256; omega, fun h => absurd h ht⟩
  refine ⟨fun t k => Classical.choose (ex t) k, M, fun t k => (Classical.choose_spec (ex t)).1 k, v.f8, fun i j hi hj => ?_⟩
  rw [(Classical.choose_spec (ex i)).2 hi]
  exact xsum_short n v.rn fun k h1 h2 => by rw [v.zero k j h2 h1 hj, Gf.gm_zero]

def mulF (s : Nat) (A B : Fm) : Fm := fun i j => xsum s fun k => Gf.gm (A i k) (B k j)
theorem mulF_F8 {s : Nat} {A B : Fm} (hA : F8 A) : F8 (mulF s A B) := fun i j => xsum_lt s fun k _ => Gf.gm_lt (hA i k)
theorem Fac.mulL {n s C r : Nat} {A B : Fm} (hB : F8 B) (f : Fac n s A r) : Fac n C (mulF s A B) r := by
  obtain ⟨P, Q, hP, hQ, e⟩ := f
  refine ⟨P, mulF s Q B, hP, mulF_F8 hQ, fun i j hi _ => ?_⟩
  show xsum s (fun k => Gf.gm (A i k) (B k j)) = _
  rw [xsum_congr (g := fun k => Gf.gm (xsum r fun q => Gf.gm (P i q) (Q q k)) (B k j)) fun k hk => by rw [e i k hi hk]]
  exact (assoc3 (hP i) hQ hB j).symm
theorem Fac.one_le {n s : Nat} {M : Fm} (f : Fac n n M s) (h : ∀ i j, i < n → j < n → M i j = dl i j) : n ≤ s := by
  obtain ⟨P, Q, hP, hQ, e⟩ := f
  exact inner_le hP hQ fun t u ht hu => by rw [← e t u ht hu, h t u ht hu]
theorem Fac.congr {n C s : Nat} {M N : Fm} (f : Fac n C M s) (h : ∀ i j, i < n → j < C → N i j = M i j) : Fac n C N s := by
  obtain ⟨P, Q, hP, hQ, e⟩ := f
  exact ⟨P, Q, hP, hQ, fun i j hi hj => by rw [h i j hi hj, e i j hi hj]⟩

/-! ### the rank and the inverse that the steps give -/
def rk (n C : Nat) (M : Fm) : Nat := (red n C 0 0 M).2
theorem rk_le {n C : Nat} {M : Fm} (h : F8 M) : rk n C M ≤ n := (red_all h).rn
theorem rk_fac {n C : Nat} {M : Fm} (h : F8 M) : Fac n C M (rk n C M) := (red_all h).fac
theorem rk_congr {n C : Nat} {M N : Fm} (h : ∀ i j, i < n → j < C → M i j = N i j) : rk n C M = rk n C N := (red_agree C 0 0 M N (by omega) h).1

/-- A matrix with the one beside it. -/
def aug (n : Nat) (m : Fm) : Fm := fun i j => if j < n then m i j else dl i (j - n)
theorem aug_F8 {n : Nat} {m : Fm} (h : F8 m) : F8 (aug n m) := by
  intro i j; unfold aug; split
  · exact h _ _
  · exact dl_lt _ _
theorem aug_l {n : Nat} {m : Fm} {i j : Nat} (h : j < n) : aug n m i j = m i j := by unfold aug; rw [if_pos h]
theorem aug_r {n : Nat} {m : Fm} (i j : Nat) : aug n m i (n + j) = dl i j := by unfold aug; rw [if_neg (by omega)]; congr 1; omega
theorem rk_aug {n : Nat} {m : Fm} : rk n n (aug n m) = rk n n m := rk_congr fun i j _ hj => aug_l hj

def invF (n : Nat) (m : Fm) : Fm := fun i k => (red n n 0 0 (aug n m)).1 i (n + k)
theorem invF_both {n : Nat} {m : Fm} (h : F8 m) (hr : rk n n m = n) :
    (∀ i j, i < n → j < n → mulF n (invF n m) m i j = dl i j) ∧ ∀ i j, i < n → j < n → mulF n m (invF n m) i j = dl i j := by
  have v := red_all (n := n) (C := n) (aug_F8 (n := n) h)
  have hr' : (red n n 0 0 (aug n m)).2 = n := by show rk n n (aug n m) = n; rw [rk_aug, hr]
  have full := v.full hr' rfl
  constructor
  · intro i j hi hj
    obtain ⟨e, e1, e2⟩ := v.comb.1 i hi
    have he : ∀ k, k < n → invF n m i k = e k := by
      intro k hk
      unfold invF
      rw [e2, xsum_congr (g := fun q => Gf.gm (e q) (dl q k)) fun q _ => by rw [aug_r]]
      exact xsum_dr n k e e1 hk
    unfold mulF
    rw [xsum_congr (g := fun k => Gf.gm (e k) (aug n m k j)) fun k hk => by rw [he k hk, aug_l hj], ← e2, full i j hi hj]
  · intro i j hi hj
    obtain ⟨e, e1, e2⟩ := v.comb.2 i hi
    have he : ∀ k, k < n → m i k = e k := by
      intro k hk
      rw [← aug_l (n := n) (m := m) hk, e2, xsum_congr (g := fun q => Gf.gm (e q) (dl q k)) fun q hq => by rw [full q k hq hk]]
      exact xsum_dr n k e e1 hk
    unfold mulF invF
    rw [xsum_congr (g := fun k => Gf.gm (e k) ((red n n 0 0 (aug n m)).1 k (n + j))) fun k hk => by rw [he k hk], ← e2, aug_r]
theorem invF_F8 {n : Nat} {m : Fm} (h : F8 m) : F8 (invF n m) := fun i k => (red_all (aug_F8 h)).f8 _ _
theorem rk_right {n : Nat} {B m : Fm} (hB : F8 B) (hm : F8 m) (h : ∀ i j, i < n → j < n → mulF n m B i j = dl i j) : rk n n m = n := by
  have := Fac.one_le (Fac.mulL (C := n) hB (rk_fac (n := n) (C := n) hm)) h
  have := rk_le (n := n) (C := n) hm
  omega

end Go.Proofs.Ytalfcokiooaliaa.T

namespace Go.Proofs.Ytalfcokiooaliaa.T
open Go Go.RowKit Go.Proofs

theorem ix0 (j : Nat) : 0 + Int.toNat ((j : Nat) : Int) * 1 = j := by omega

/-! ### a matrix of one's own, by blocks -/
def irow (W : Nat) (f : Nat → Nat) : List AV := (List.range W).map fun j => .int .i64 ((f j : Nat) : Int)
theorem irow_len (W : Nat) (f : Nat → Nat) : (irow W f).length = W := by simp [irow]
theorem irow_get {W : Nat} {f : Nat → Nat} {j : Nat} (h : j < W) : (irow W f)[j]? = some (.int .i64 ((f j : Nat) : Int)) := by
  simp [irow, List.getElem?_range h]
theorem irow_congr {W : Nat} {f g : Nat → Nat} (h : ∀ j, j < W → f j = g j) : irow W f = irow W g :=
  List.map_congr_left fun j hj => by rw [h j (List.mem_range.1 hj)]
theorem irow_set {W k : Nat} {f : Nat → Nat} {v : Nat} : (irow W f).set k (.int .i64 ((v : Nat) : Int)) = irow W fun j => if j = k then v else f j := by
  apply List.ext_getElem
  · rw [List.length_set, irow_len, irow_len]
  · intro i h1 h2
    rw [List.getElem_set]
    simp only [irow, List.getElem_map, List.getElem_range]
    by_cases e : k = i
    · subst e; rw [if_pos rfl, if_pos rfl]
    · rw [if_neg e, if_neg (fun q => e q.symm)]
theorem irow_step {W k : Nat} (g f : Nat → Nat) : (irow W fun j => if j < k then g j else f j).set k (.int .i64 ((g k : Nat) : Int)) = irow W fun j => if j < k + 1 then g j else f j := by
  rw [irow_set]
  refine irow_congr fun j _ => ?_
  by_cases e : j = k
  · subst e; rw [if_pos rfl, if_pos (by omega)]
  · rw [if_neg e]
    by_cases l : j < k
    · rw [if_pos l, if_pos (by omega)]
    · rw [if_neg l, if_neg (by omega)]
theorem irow_rd {R : Type} {h : AHeap} {b W : Nat} {f : Nat → Nat} {es : Nat} {o : Bool} (hb : h b = some ⟨irow W f, es, o⟩) {j : Nat} (hj : j < W) (K : AV → Option R) :
    (if 0 ≤ (j : Int) ∧ (j : Int) < ((W : Nat) : Int) then (ldA h b (0 + Int.toNat (j : Int) * 1)).bind K else none) = K (.int .i64 ((f j : Nat) : Int)) := by
  rw [if_pos ⟨by omega, by omega⟩, ix0, ld_at hb (irow_get hj)]

def hrow (n W : Nat) (bl : Nat → Nat) (cl : Nat → Bool) : List AV := (List.range n).map fun i => .slice (some (bl i, 0)) W (cl i)
structure GM (h : AHeap) (lo nm n W hd : Nat) (bl : Nat → Nat) (cl : Nat → Bool) (M : Fm) : Prop where
  hdr : h hd = some ⟨hrow n W bl cl, 1, true⟩
  row : ∀ i, i < n → h (bl i) = some ⟨irow W (M i), 1, true⟩
  inj : ∀ i j, i < n → j < n → bl i = bl j → i = j
  ne : ∀ i, i < n → bl i ≠ hd
  lohd : lo ≤ hd
  hdm : hd < nm
  lobl : ∀ i, i < n → lo ≤ bl i
  blm : ∀ i, i < n → bl i < nm

theorem GM.rd {R : Type} {h : AHeap} {lo nm n W hd : Nat} {bl : Nat → Nat} {cl : Nat → Bool} {M : Fm} (g : GM h lo nm n W hd bl cl M) {i : Nat} (hi : i < n) (K : AV → Option R) :
    (if 0 ≤ (i : Int) ∧ (i : Int) < ((n : Nat) : Int) then (ldA h hd (0 + Int.toNat (i : Int) * 1)).bind K else none) = K (.slice (some (bl i, 0)) W (cl i)) := by
  rw [if_pos ⟨by omega, by omega⟩, ix0, ld_at g.hdr (v := .slice (some (bl i, 0)) W (cl i)) (by simp [hrow, List.getElem?_range hi])]
theorem GM.keep {h h' : AHeap} {lo nm n W hd : Nat} {bl : Nat → Nat} {cl : Nat → Bool} {M : Fm} (g : GM h lo nm n W hd bl cl M) (k : ∀ j, lo ≤ j → j < nm → h' j = h j) : GM h' lo nm n W hd bl cl M :=
  ⟨(k hd g.lohd g.hdm).trans g.hdr, fun i hi => (k _ (g.lobl i hi) (g.blm i hi)).trans (g.row i hi), g.inj, g.ne, g.lohd, g.hdm, g.lobl, g.blm⟩
theorem GM.congr {h : AHeap} {lo nm n W hd : Nat} {bl : Nat → Nat} {cl : Nat → Bool} {M N : Fm} (g : GM h lo nm n W hd bl cl M) (e : ∀ i j, i < n → j < W → M i j = N i j) : GM h lo nm n W hd bl cl N :=
  ⟨g.hdr, fun i hi => by rw [g.row i hi, irow_congr fun j hj => e i j hi hj], g.inj, g.ne, g.lohd, g.hdm, g.lobl, g.blm⟩
/-- One row has changed. -/
theorem GM.chg {h h' : AHeap} {lo nm n W hd : Nat} {bl : Nat → Nat} {cl : Nat → Bool} {M : Fm} (g : GM h lo nm n W hd bl cl M) {i : Nat} (hi : i < n) {f : Nat → Nat} (b : h' (bl i) = some ⟨irow W f, 1, true⟩) (k : ∀ j, lo ≤ j → j < nm → j ≠ bl i → h' j = h j) :
    GM h' lo nm n W hd bl cl fun i' => if i' = i then f else M i' := by
  refine ⟨(k hd g.lohd g.hdm fun e => g.ne i hi e.symm).trans g.hdr, fun i' hi' => ?_, g.inj, g.ne, g.lohd, g.hdm, g.lobl, g.blm⟩
  by_cases e : i' = i
  · subst e; simp only [if_pos]; exact b
  · rw [if_neg e, k _ (g.lobl i' hi') (g.blm i' hi') fun q => e (g.inj i' i hi' hi q)]; exact g.row i' hi'

theorem hrow_set {n W i : Nat} {bl : Nat → Nat} {cl : Nat → Bool} {b : Nat} {c : Bool} : (hrow n W bl cl).set i (.slice (some (b, 0)) W c) = hrow n W (fun k => if k = i then b else bl k) (fun k => if k = i then c else cl k) := by
  apply List.ext_getElem
  · simp [hrow]
  · intro j h1 h2
    rw [List.getElem_set]
    simp only [hrow, List.getElem_map, List.getElem_range]
    by_cases e : i = j
    · subst e; rw [if_pos rfl, if_pos rfl, if_pos rfl]
    · rw [if_neg e, if_neg (fun q => e q.symm), if_neg (fun q => e q.symm)]
theorem hrow_len (n W : Nat) (bl : Nat → Nat) (cl : Nat → Bool) : (hrow n W bl cl).length = n := by simp [hrow]



/-! ### the inverse of an element -/
theorem inv_spec {f : Nat} (hf : 300 ≤ f) (a : Nat) (ha : a < 256) (h0 : a ≠ 0) (h : AHeap) (nx : Nat) : ∃ h' nx', callP Try.prog keepT f Y0 65 [.int .i64 (a : Int)] h nx = some (.tuple [.int .i64 ((Gf.gi a : Nat) : Int), .int .i64 0], h', nx') ∧ Ext h nx h' nx' := by
  obtain ⟨f, rfl⟩ : ∃ m, f = m + 2 := ⟨f - 2, by omega⟩
  obtain ⟨n1, l1, e1⟩ := bad2_spec (f := f) (by omega) 1 a (by omega) ha (h := h.put (nx + 8 + 4) (some ⟨[.int .i64 ((1 : Nat) : Int), .int .i64 (a : Int)], 1, true⟩)) (put_same _ _ _) (nx + 8 + 7)
  obtain ⟨f', rfl⟩ : ∃ m, f = m + 1 := ⟨f - 1, by omega⟩
  obtain ⟨n2, l2, e2⟩ := power_loop (k0 := f') (by omega) f' (h.put (nx + 8 + 4) (some ⟨[.int .i64 ((1 : Nat) : Int), .int .i64 (a : Int)], 1, true⟩)) 16 f' a 254 1 (n1 + 9 + 2) (by omega) ha (by omega) (by omega) (by omega)
  rw [Gf.one_gm (Gf.gp_lt ha _)] at e2
  obtain ⟨n3, l3, e3⟩ := times_spec (f := f' + 1) (by omega) 1 (Gf.gp a 254) (by omega) (Gf.gp_lt ha _) (h.put (nx + 8 + 4) (some ⟨[.int .i64 ((1 : Nat) : Int), .int .i64 (a : Int)], 1, true⟩)) n2
  rw [Gf.one_gm (Gf.gp_lt ha _)] at e3
  rw [show ((1 : Nat) : Int) = 1 from rfl] at e1 e2 e3
  rw [show ((254 : Nat) : Int) = 254 from rfl] at e2
  rw [F65_eq, F70_eq]
  dsimp only
  rw [e1]
  simp only [mst_]
  rw [if_neg (by simp; omega), F61_eq, e2]
  simp only [mst_]
  rw [e3]
  simp only [mst_]
  exact ⟨_, _, rfl, by omega, fun q hq => put_ne (by omega)⟩

/-! ### the steps of Gauss and Jordan -/
theorem scale_loop {k0 : Nat} (hk0 : 14 ≤ k0) (lf n0 : Nat) (X : Option (Nat × Nat)) (n : Nat) (xc : Bool) (C r : Int) (x6 : Option (Nat × Nat)) {b W v : Nat} (bc : Bool) (hW : W ≤ 1000) (hv : v < 256) {old : Nat → Nat} (ho : ∀ j, old j < 256) (m : Nat) :
    ∀ (f k : Nat) (h : AHeap) (nx : Nat), k + m = W → m < f → b < nx → h b = some ⟨irow W (fun j => if j < k then Gf.gm (old j) v else old j), 1, true⟩ →
    ∃ h' nx', F58_L4 (callP Try.prog keepT k0) Y0 lf n0 f X n xc C r x6 (some (b, 0)) W bc (v : Int) ((W : Nat) : Int) (k : Int) h nx = F58_L5 (callP Try.prog keepT k0) Y0 lf n0 lf X n xc C r x6 (some (b, 0)) W bc X n xc ((n : Nat) : Int) 0 h' nx' ∧ nx ≤ nx' ∧ h' b = some ⟨irow W (fun j => Gf.gm (old j) v), 1, true⟩ ∧ ∀ q, q < nx → q ≠ b → h' q = h q := by
  induction m with
  | zero =>
    intro f k h nx e hf hb hr
    obtain ⟨f, rfl⟩ : ∃ m, f = m + 1 := ⟨f - 1, by omega⟩
    obtain rfl : k = W := by omega
    rw [F58_L4_eq, if_neg (by simp)]
    exact ⟨h, nx + 4, rfl, by omega, by rw [hr, irow_congr fun j hj => if_pos hj], fun _ _ _ => rfl⟩
  | succ m ih =>
    intro f k h nx e hf hb hr
    obtain ⟨f, rfl⟩ : ∃ m, f = m + 1 := ⟨f - 1, by omega⟩
    have hk : k < W := by omega
    obtain ⟨h1, n1, e1, x1⟩ := mtimes_spec (f := k0) hk0 (old k) v (ho k) hv h (nx + 13)
    have y1 := x1.1
    have hr1 := (x1.2 b (by omega)).trans hr
    rw [F58_L4_eq, if_pos (by simpa using hk)]
    simp only [mst_]
    rw [irow_rd hr hk, if_neg (by omega)]
    simp only [mst_]
    rw [e1]
    simp only [mst_]
    rw [if_pos ⟨by omega, by omega⟩, ix0, st_to hr1 rfl (by rw [irow_len]; exact hk) (irow_step (fun j => Gf.gm (old j) v) old), wsucc (by omega)]
    obtain ⟨h', nx', e', l', b', k'⟩ := ih f (k + 1) _ (n1 + 2) (by omega) (by omega) (by omega) (put_same h1 b _)
    exact ⟨h', nx', e', by omega, b', fun q hq hne => by rw [k' q (by omega) hne, put_ne hne, x1.2 q (by omega)]⟩

theorem mix7_loop {k0 : Nat} (hk0 : 14 ≤ k0) (lf n0 n1 : Nat) (X Y : Option (Nat × Nat)) (n yn : Nat) (xc yc : Bool) (C r : Int) (x6 : Option (Nat × Nat)) {b ri W f0 i : Nat} (bc rc : Bool) (hW : W ≤ 1000) (hi : i ≤ 1000) (hne : ri ≠ b) (hf0 : f0 < 256) {old T : Nat → Nat} (ho : ∀ j, old j < 256) (hT : ∀ j, T j < 256) (m : Nat) :
    ∀ (f k : Nat) (h : AHeap) (nx : Nat), k + m = W → m < f → b < nx → ri < nx → h b = some ⟨irow W T, 1, true⟩ → h ri = some ⟨irow W (fun j => if j < k then old j ^^^ Gf.gm f0 (T j) else old j), 1, true⟩ →
    ∃ h' nx', F58_L7 (callP Try.prog keepT k0) Y0 lf n0 n1 f X n xc C r x6 (some (b, 0)) W bc (some (ri, 0)) W rc (f0 : Int) Y yn yc ((n : Nat) : Int) (i : Int) ((W : Nat) : Int) (k : Int) h nx = F58_L5 (callP Try.prog keepT k0) Y0 lf n0 n1 X n xc C r x6 (some (b, 0)) W bc Y yn yc ((n : Nat) : Int) ((i + 1 : Nat) : Int) h' nx' ∧ nx ≤ nx' ∧ h' ri = some ⟨irow W (fun j => old j ^^^ Gf.gm f0 (T j)), 1, true⟩ ∧ ∀ q, q < nx → q ≠ ri → h' q = h q := by
  induction m with
  | zero =>
    intro f k h nx e hf hb hri hbT hr
    obtain ⟨f, rfl⟩ : ∃ m, f = m + 1 := ⟨f - 1, by omega⟩
    obtain rfl : k = W := by omega
    rw [F58_L7_eq, if_neg (by simp), wsucc (by omega)]
    exact ⟨h, nx + 3, rfl, by omega, by rw [hr, irow_congr fun j hj => if_pos hj], fun _ _ _ => rfl⟩
  | succ m ih =>
    intro f k h nx e hf hb hri hbT hr
    obtain ⟨f, rfl⟩ : ∃ m, f = m + 1 := ⟨f - 1, by omega⟩
    have hk : k < W := by omega
    obtain ⟨h1, n1', e1, x1⟩ := mtimes_spec (f := k0) hk0 f0 (T k) hf0 (hT k) h (nx + 16)
    have y1 := x1.1
    have hr1 := (x1.2 ri (by omega)).trans hr
    have hgl := Gf.gm_lt (b := T k) hf0
    have hok := ho k
    rw [F58_L7_eq, if_pos (by simpa using hk)]
    simp only [mst_]
    rw [irow_rd hr hk, if_neg (by omega)]
    simp only [mst_]
    rw [irow_rd hbT hk]
    simp only [mst_]
    rw [e1]
    simp only [mst_]
    rw [if_pos ⟨by omega, by omega⟩, ix0, g_xor _ _ (by omega) (by omega), st_to hr1 rfl (by rw [irow_len]; exact hk) (irow_step (fun j => old j ^^^ Gf.gm f0 (T j)) old), ifKept_pos (by exact ⟨fun x hx => by simp at hx; subst hx; exact x1.2 _ (by omega), trivial⟩), wsucc (by omega)]
    obtain ⟨h', nx', e', l', b', k'⟩ := ih f (k + 1) _ (n1' + 2) (by omega) (by omega) (by omega) (by omega) ((put_ne (fun e => hne e.symm)).trans ((x1.2 b (by omega)).trans hbT)) (put_same h1 ri _)
    exact ⟨h', nx', e', by omega, b', fun q hq hne' => by rw [k' q (by omega) hne', put_ne hne', x1.2 q (by omega)]⟩

theorem elim_loop {k0 : Nat} (hk0 : 14 ≤ k0) (lf n0 : Nat) (hlf : 2000 ≤ lf) {lo nm n W hd : Nat} (hn : n ≤ 1000) (hW : W ≤ 1000) (xc : Bool) (C : Int) {r c cid : Nat} (hr : r < n) (hc : c < W) (hcid : nm ≤ cid) {bl : Nat → Nat} {cl : Nat → Bool} {M : Fm} (hM : F8 M) (m : Nat) :
    ∀ (f i : Nat) (h : AHeap) (nx : Nat), i + m = n → m < f → nm ≤ nx → cid < nx → h cid = some ⟨[.int .i64 (c : Int)], 1, true⟩ → GM h lo nm n W hd bl cl (fun i' j => if i' < i ∧ i' ≠ r then M i' j ^^^ Gf.gm (M i' c) (M r j) else M i' j) →
    ∃ h' nx', F58_L5 (callP Try.prog keepT k0) Y0 lf n0 f (some (hd, 0)) n xc C (r : Int) (some (cid, 0)) (some (bl r, 0)) W (cl r) (some (hd, 0)) n xc ((n : Nat) : Int) (i : Int) h nx = F58_J3 (callP Try.prog keepT k0) Y0 lf n0 (some (hd, 0)) n xc C ((r + 1 : Nat) : Int) (some (cid, 0)) h' nx' ∧ nx ≤ nx' ∧ h' cid = some ⟨[.int .i64 (c : Int)], 1, true⟩ ∧ GM h' lo nm n W hd bl cl (fun i' j => if i' ≠ r then M i' j ^^^ Gf.gm (M i' c) (M r j) else M i' j) ∧ ∀ q, q < nx → (q < lo ∨ nm ≤ q) → h' q = h q := by
  induction m with
  | zero =>
    intro f i h nx e hf hnm hcx hb g
    obtain ⟨f, rfl⟩ : ∃ m, f = m + 1 := ⟨f - 1, by omega⟩
    obtain rfl : i = n := by omega
    rw [F58_L5_eq, if_neg (by simp), wsucc (by omega)]
    refine ⟨h, nx + 4, rfl, by omega, hb, g.congr fun i' j hi' _ => ?_, fun _ _ _ => rfl⟩
    by_cases e : i' = r
    · rw [if_neg (by omega), if_neg (by omega)]
    · rw [if_pos ⟨hi', e⟩, if_pos e]
  | succ m ih =>
    intro f i h nx e hf hnm hcx hb g
    obtain ⟨f, rfl⟩ : ∃ m, f = m + 1 := ⟨f - 1, by omega⟩
    have hi : i < n := by omega
    have rowi : h (bl i) = some ⟨irow W (M i), 1, true⟩ := by
      rw [g.row i hi]; congr 2; exact irow_congr fun j _ => if_neg (by omega)
    have rowr : h (bl r) = some ⟨irow W (M r), 1, true⟩ := by
      rw [g.row r hr]; congr 2; exact irow_congr fun j _ => if_neg (by omega)
    rw [F58_L5_eq, if_pos (by simpa using hi)]
    simp only [mst_]
    rw [g.rd hi]
    simp only [mst_]
    by_cases hir : i = r
    · subst hir
      rw [if_pos (by simp), wsucc (by omega)]
      obtain ⟨h', nx', e', l', c', g', k'⟩ := ih f (i + 1) h (nx + 18) (by omega) (by omega) (by omega) (by omega) hb (g.congr fun i' j hi' _ => by
        by_cases q : i' = i
        · rw [if_neg (by omega), if_neg (by omega)]
        · by_cases l : i' < i
          · rw [if_pos ⟨l, q⟩, if_pos ⟨by omega, q⟩]
          · rw [if_neg (by omega), if_neg (by omega)])
      exact ⟨h', nx', e', by omega, c', g', fun q hq hq' => k' q (by omega) hq'⟩
    · rw [if_neg (by simp; omega), ld_at hb rfl]
      simp only [mst_]
      rw [irow_rd rowi hc]
      simp only [mst_]
      by_cases hz : M i c = 0
      · rw [hz, if_pos (by simp), wsucc (by omega)]
        obtain ⟨h', nx', e', l', c', g', k'⟩ := ih f (i + 1) h (nx + 18) (by omega) (by omega) (by omega) (by omega) hb (g.congr fun i' j hi' _ => by
          by_cases q : i' = i
          · subst q; rw [if_neg (by omega), if_pos ⟨by omega, hir⟩, hz, Gf.zero_gm, Nat.xor_zero]
          · by_cases l : i' < i
            · by_cases s : i' = r
              · rw [if_neg (by omega), if_neg (by omega)]
              · rw [if_pos ⟨l, s⟩, if_pos ⟨by omega, s⟩]
            · rw [if_neg (by omega), if_neg (by omega)])
        exact ⟨h', nx', e', by omega, c', g', fun q hq hq' => k' q (by omega) hq'⟩
      · rw [if_neg (by simp; omega), F58_J6_eq]
        simp only [mst_]
        rw [ld_at hb rfl]
        simp only [mst_]
        rw [irow_rd rowi hc]
        simp only [mst_]
        have hbi := g.blm i hi
        have hbr := g.blm r hr
        have hlo := g.lobl i hi
        obtain ⟨h1, n1, e1, l1, b1, k1⟩ := mix7_loop hk0 lf n0 f (some (hd, 0)) (some (hd, 0)) n n xc xc C (r : Int) (some (cid, 0)) (b := bl r) (ri := bl i) (W := W) (f0 := M i c) (i := i) (cl r) (cl i) hW (by omega) (fun q => hir (g.inj i r hi hr q)) (hM i c) (old := M i) (T := M r) (hM i) (hM r) W lf 0 h (nx + 16 + 8) (by omega) (by omega) (by omega) (by omega) rowr (by
          rw [rowi]; congr 2)
        rw [show ((0 : Nat) : Int) = 0 from rfl] at e1
        rw [e1]
        obtain ⟨h', nx', e', l', c', g', k'⟩ := ih f (i + 1) h1 n1 (by omega) (by omega) (by omega) (by omega) ((k1 cid (by omega) (by omega)).trans hb) ((g.chg hi b1 fun j h2 h3 h4 => k1 j (by omega) h4).congr fun i' j hi' _ => by
          by_cases q : i' = i
          · subst q; simp only [if_pos]; rw [if_pos ⟨by omega, hir⟩]
          · rw [if_neg q]
            by_cases l : i' < i
            · by_cases s : i' = r
              · rw [if_neg (by omega), if_neg (by omega)]
              · rw [if_pos ⟨l, s⟩, if_pos ⟨by omega, s⟩]
            · rw [if_neg (by omega), if_neg (by omega)])
        exact ⟨h', nx', e', by omega, c', g', fun q hq hq' => by rw [k' q (by omega) hq', k1 q (by omega) (by omega)]⟩

end Go.Proofs.Ytalfcokiooaliaa.T

namespace Go.Proofs.Ytalfcokiooaliaa.T
open Go Go.RowKit Go.Proofs

theorem GM.cut {R : Type} {h : AHeap} {lo nm n W hd : Nat} {bl : Nat → Nat} {cl : Nat → Bool} {M : Fm} (g : GM h lo nm n W hd bl cl M) (xc : Bool) {r : Nat} (hr : r ≤ n) :
    ∃ a' cc, cutA h (some (hd, 0)) n xc 1 (some (.int .i64 (r : Int))) none none = some (a', n - r, cc) ∧ ∀ i, r + i < n → ∀ K : AV → Option R, (a'.bind fun p => if 0 ≤ (i : Int) ∧ (i : Int) < ((n - r : Nat) : Int) then (ldA h p.1 (p.2 + Int.toNat (i : Int) * 1)).bind K else none) = K (.slice (some (bl (r + i), 0)) W (cl (r + i))) := by
  have s : Sl h nm (some (hd, 0)) n 1 (hrow n W bl cl) := Sl.ofBlk g.hdr (by rw [hrow_len, Nat.mul_one]) g.hdm
  obtain ⟨c1, c2, _⟩ := s.cut xc (lo := r) (hi := n) (l := some (.int .i64 (r : Int))) (r := none) hr (Nat.le_refl _) (bound_some hr) bound_none
  refine ⟨_, _, c1, fun i hi K => c2.read0 (by omega) (by omega) (by omega) (v := .slice (some (bl (r + i), 0)) W (cl (r + i))) ?_ K⟩
  rw [Int.toNat_natCast, Nat.mul_one, Nat.mul_one, List.getElem?_take, if_pos (by omega), List.getElem?_drop]
  simp [hrow, List.getElem?_range hi]

theorem GM.rd1 {R : Type} {h : AHeap} {lo nm n W hd : Nat} {bl : Nat → Nat} {cl : Nat → Bool} {M : Fm} (g : GM h lo nm n W hd bl cl M) {i : Nat} (hi : i < n) (K : AV → Option R) :
    (if 0 ≤ (i : Int) ∧ (i : Int) < ((n : Nat) : Int) then (ldA h hd i).bind K else none) = K (.slice (some (bl i, 0)) W (cl i)) := by
  have := g.rd hi K
  rwa [ix0] at this

def fnd (r : Nat) : Option Nat → Int
  | none => -1
  | some a => (a : Int) - (r : Int)

theorem find_loop {k0 : Nat} (hk0 : 2 ≤ k0) (lf : Nat) {h : AHeap} {lo nm n W hd : Nat} (hn : n ≤ 1000) {bl : Nat → Nat} {cl : Nat → Bool} {M : Fm} (g : GM h lo nm n W hd bl cl M) {a' : Option (Nat × Nat)} {cc : Bool} {r c cid : Nat} (hc : c < W) (hb : h cid = some ⟨[.int .i64 (c : Int)], 1, true⟩)
    (rd : ∀ i, r + i < n → ∀ K : AV → Option (AV × AHeap × Nat), (a'.bind fun p => if 0 ≤ (i : Int) ∧ (i : Int) < ((n - r : Nat) : Int) then (ldA h p.1 (p.2 + Int.toNat (i : Int) * 1)).bind K else none) = K (.slice (some (bl (r + i), 0)) W (cl (r + i)))) (k : Nat) :
    ∀ (f i nx : Nat), i + k = n - r → k < f → ∃ nx', nx ≤ nx' ∧ F63_L1 (callP Try.prog keepT k0) Y0 lf f a' (n - r) cc (.fn 64 [] [.ptr (some (cid, 0))]) ((n - r : Nat) : Int) (i : Int) h nx = some (.int .i64 (fnd r (find M c k (r + i))), h, nx') := by
  induction k with
  | zero =>
    intro f i nx e hf
    obtain ⟨f, rfl⟩ : ∃ m, f = m + 1 := ⟨f - 1, by omega⟩
    rw [F63_L1_eq, if_neg (by simp; omega)]
    exact ⟨nx + 2, by omega, rfl⟩
  | succ k ih =>
    intro f i nx e hf
    obtain ⟨f, rfl⟩ : ∃ m, f = m + 1 := ⟨f - 1, by omega⟩
    obtain ⟨k1, rfl⟩ : ∃ m, k0 = m + 1 := ⟨k0 - 1, by omega⟩
    have hi : r + i < n := by omega
    rw [F63_L1_eq, if_pos (by simp; omega), rd i hi]
    simp only [mst_]
    rw [asCal_fn, some_bind, callC_fn, List.nil_append, List.singleton_append, F64_eq, some_bind, ld_at hb rfl]
    simp only [mst_]
    rw [irow_rd (g.row _ hi) hc]
    simp only [mst_]
    unfold find
    by_cases hz : M (r + i) c = 0
    · rw [hz, if_neg (by simp), if_neg (by simp), wsucc (by omega)]
      obtain ⟨nx', l', e'⟩ := ih f (i + 1) (nx + 9 + 7 + 2) (by omega) (by omega)
      exact ⟨nx', by omega, e'⟩
    · rw [if_pos (by simp; omega), if_pos hz]
      refine ⟨nx + 9 + 7 + 2, by omega, ?_⟩
      rw [show fnd r (some (r + i)) = (i : Int) from by show ((r + i : Nat) : Int) - (r : Int) = _; omega]

theorem J3_step (call : YldF → CallF) (lf n0 : Nat) (X : Option (Nat × Nat)) (n : Nat) (xc : Bool) (C r : Int) {cid c : Nat} (hc : c ≤ 1000) {h : AHeap} (hb : h cid = some ⟨[.int .i64 (c : Int)], 1, true⟩) (nx : Nat) :
    F58_J3 call Y0 lf n0 X n xc C r (some (cid, 0)) h nx = F58_L1 call Y0 lf n0 X n xc C r (some (nx + 1, 0)) (h.put (nx + 1) (some ⟨[.int .i64 ((c + 1 : Nat) : Int)], 1, true⟩)) (nx + 6) := by
  rw [F58_J3_eq]
  simp only [mst_]
  rw [ld_at hb rfl]
  simp only [mst_]
  rw [st_one (put_same _ _ _) rfl (by simp), put_put, List.set_cons_zero, ld_at (put_same _ _ _) rfl]
  simp only [mst_]
  rw [st_one (put_same _ _ _) rfl (by simp), put_put, List.set_cons_zero, wsucc (by omega)]

/-- Two rows have changed their places. -/
theorem GM.swap {h : AHeap} {lo nm n W hd : Nat} {bl : Nat → Nat} {cl : Nat → Bool} {M : Fm} (g : GM h lo nm n W hd bl cl M) {r a : Nat} (hr : r < n) (ha : a < n) :
    GM (h.put hd (some ⟨hrow n W (fun k => if k = a then bl r else if k = r then bl a else bl k) (fun k => if k = a then cl r else if k = r then cl a else cl k), 1, true⟩)) lo nm n W hd (fun k => if k = a then bl r else if k = r then bl a else bl k) (fun k => if k = a then cl r else if k = r then cl a else cl k) (swp M r a) := by
  have hs : ∀ k, (if k = a then bl r else if k = r then bl a else bl k) = bl (if k = a then r else if k = r then a else k) := by
    intro k; split
    · rfl
    · split <;> rfl
  have hm : ∀ k, swp M r a k = M (if k = a then r else if k = r then a else k) := by
    intro k; unfold swp
    by_cases h1 : k = r
    · rw [if_pos h1]
      by_cases h2 : k = a
      · rw [if_pos h2, ← h1, ← h2]
      · rw [if_neg h2, if_pos h1]
    · rw [if_neg h1]
      by_cases h2 : k = a
      · rw [if_pos h2, if_pos h2]
      · rw [if_neg h2, if_neg h2, if_neg h1]
  have hl : ∀ k, k < n → (if k = a then r else if k = r then a else k) < n := by
    intro k hk; split
    · exact hr
    · split
      · exact ha
      · exact hk
  refine ⟨put_same _ _ _, fun i hi => ?_, fun i j hi hj e => ?_, fun i hi => ?_, g.lohd, g.hdm, fun i hi => ?_, fun i hi => ?_⟩
  · rw [hs, hm, put_ne (g.ne _ (hl i hi))]; exact g.row _ (hl i hi)
  · rw [hs, hs] at e
    have := g.inj _ _ (hl i hi) (hl j hj) e
    split at this <;> split at this <;> (try split at this) <;> (try split at this) <;> omega
  · rw [hs]; exact g.ne _ (hl i hi)
  · rw [hs]; exact g.lobl _ (hl i hi)
  · rw [hs]; exact g.blm _ (hl i hi)

theorem red_loop {k0 : Nat} (hk0 : 2000 ≤ k0) (lf : Nat) (hlf : 2000 ≤ lf) {lo nm n W hd : Nat} (hn : n ≤ 1000) (hW : W ≤ 1000) (xc : Bool) {C : Nat} (hC : C ≤ W) (k : Nat) :
    ∀ (f c r cid : Nat) (bl : Nat → Nat) (cl : Nat → Bool) (M : Fm) (h : AHeap) (nx : Nat), c + k = C → k < f → r ≤ n → F8 M → nm ≤ cid → cid < nx → h cid = some ⟨[.int .i64 (c : Int)], 1, true⟩ → GM h lo nm n W hd bl cl M →
    ∃ bl' cl' h' nx', F58_L1 (callP Try.prog keepT k0) Y0 lf f (some (hd, 0)) n xc (C : Int) (r : Int) (some (cid, 0)) h nx = some (.int .i64 ((red n k c r M).2 : Int), h', nx') ∧ nx ≤ nx' ∧ GM h' lo nm n W hd bl' cl' (red n k c r M).1 ∧ ∀ q, q < nx → (q < lo ∨ nm ≤ q) → h' q = h q := by
  induction k with
  | zero =>
    intro f c r cid bl cl M h nx e hf hr hM h1 h2 hb g
    obtain ⟨f, rfl⟩ : ∃ m, f = m + 1 := ⟨f - 1, by omega⟩
    obtain rfl : c = C := by omega
    rw [F58_L1_eq, some_bind, ld_at hb rfl]
    simp only [mst_]
    rw [if_neg (by simp)]
    exact ⟨bl, cl, h, nx + 11, rfl, by omega, g, fun _ _ _ => rfl⟩
  | succ k ih =>
    intro f c r cid bl cl M h nx e hf hr hM h1 h2 hb g
    obtain ⟨f, rfl⟩ : ∃ m, f = m + 1 := ⟨f - 1, by omega⟩
    have hc : c < C := by omega
    rw [F58_L1_eq, some_bind, ld_at hb rfl]
    simp only [mst_]
    rw [if_pos (by simpa using hc)]
    unfold red
    by_cases hrn : r < n
    · rw [if_pos (by simpa using hrn), if_pos hrn, F58_J2_eq]
      obtain ⟨a', cc, c1, c2⟩ := g.cut (R := AV × AHeap × Nat) xc (r := r) hr
      obtain ⟨k1, rfl⟩ : ∃ m, k0 = m + 1 := ⟨k0 - 1, by omega⟩
      obtain ⟨n1, l1, e1⟩ := find_loop (k0 := k1) (by omega) k1 hn g (a' := a') (cc := cc) (r := r) (c := c) (cid := cid) (by omega) hb c2 (n - r) k1 0 (nx + 9 + 6 + 4) (by omega) (by omega)
      rw [show ((0 : Nat) : Int) = 0 from rfl, Nat.add_zero] at e1
      rw [c1]
      simp only [mst_]
      rw [F63_eq, e1]
      simp only [mst_]
      cases hf' : find M c (n - r) r with
      | none =>
        rw [show fnd r none = -1 from rfl, if_pos (by decide), J3_step _ lf f (some (hd, 0)) n xc (C : Int) (r : Int) (by omega) hb]
        obtain ⟨bl', cl', h', nx', e', l', g', k'⟩ := ih f (c + 1) r (n1 + 2 + 1) bl cl M (h.put (n1 + 2 + 1) (some ⟨[.int .i64 ((c + 1 : Nat) : Int)], 1, true⟩)) (n1 + 2 + 6) (by omega) (by omega) hr hM (by omega) (by omega) (put_same _ _ _) (g.keep fun j _ hj => put_ne (by omega))
        exact ⟨bl', cl', h', nx', e', by omega, g', fun q hq hq' => by rw [k' q (by omega) hq', put_ne (by omega)]⟩
      | some a =>
        have hfs := find_some hf'
        have ha : a < n := by omega
        have wa : wrapA .i64 ((r : Int) + ((a : Int) - (r : Int))) = (a : Int) := by rw [wA (by omega) (by omega)]; omega
        rw [show fnd r (some a) = (a : Int) - (r : Int) from rfl, if_neg (by simp; omega), wa]
        clear wa
        rw [g.rd ha]
        simp only [mst_]
        rw [g.rd hrn]
        simp only [mst_]
        rw [if_pos ⟨by omega, by omega⟩, ix0, st_to g.hdr rfl (by rw [hrow_len]; exact hrn) hrow_set, if_pos ⟨by omega, by omega⟩, ix0, st_to (put_same _ _ _) rfl (by rw [hrow_len]; exact ha) hrow_set, put_put]
        have g1 := g.swap hrn ha
        have hb1 : (h.put hd (some ⟨hrow n W (fun k => if k = a then bl r else if k = r then bl a else bl k) (fun k => if k = a then cl r else if k = r then cl a else cl k), 1, true⟩)) cid = some ⟨[.int .i64 (c : Int)], 1, true⟩ := by
          rw [put_ne (by have := g.hdm; omega)]; exact hb
        have kh : ∀ q, q < nx → (q < lo ∨ nm ≤ q) → (h.put hd (some ⟨hrow n W (fun k => if k = a then bl r else if k = r then bl a else bl k) (fun k => if k = a then cl r else if k = r then cl a else cl k), 1, true⟩)) q = h q := fun q _ hq => put_ne (by have := g.hdm; have := g.lohd; omega)
        generalize h.put hd (some ⟨hrow n W (fun k => if k = a then bl r else if k = r then bl a else bl k) (fun k => if k = a then cl r else if k = r then cl a else cl k), 1, true⟩) = H at *
        generalize (fun k => if k = a then bl r else if k = r then bl a else bl k) = bl1 at *
        generalize (fun k => if k = a then cl r else if k = r then cl a else cl k) = cl1 at *
        have hP := swp_F8 hM r a
        have hp : swp M r a r c ≠ 0 := by unfold swp; rw [if_pos rfl]; exact hfs.2.2
        rw [g1.rd1 hrn]
        simp only [mst_]
        rw [ld_at hb1 rfl]
        simp only [mst_]
        rw [irow_rd (g1.row r hrn) (by omega)]
        simp only [mst_]
        obtain ⟨h2', n2, e2, x2⟩ := inv_spec (f := k1 + 1) (by omega) (swp M r a r c) (hP _ _) hp H (n1 + 2 + 37 - 2)
        rw [show n1 + 2 + 37 - 2 = n1 + 37 from by omega] at e2 x2
        have y2 := x2.1
        rw [e2]
        simp only [mst_]
        have g2 := g1.keep (h' := h2') fun j _ hj => x2.2 j (by omega)
        have hlb := g2.blm r hrn
        obtain ⟨h3, n3, e3, l3, b3, k3⟩ := scale_loop (k0 := k1 + 1) (by omega) lf f (some (hd, 0)) n xc (C : Int) (r : Int) (some (cid, 0)) (b := bl1 r) (W := W) (v := Gf.gi (swp M r a r c)) (cl1 r) hW (Gf.gi_lt (hP _ _)) (old := swp M r a r) (hP r) W lf 0 h2' (n2 + 3) (by omega) (by omega) (by omega) (by rw [g2.row r hrn]; congr 2)
        rw [show ((0 : Nat) : Int) = 0 from rfl] at e3
        rw [e3]
        have hbr := g2.lobl r hrn
        have g3 := g2.chg (h' := h3) hrn b3 fun j h4 h5 h6 => k3 j (by omega) h6
        have hb3 : h3 cid = some ⟨[.int .i64 (c : Int)], 1, true⟩ := by rw [k3 cid (by omega) (by omega), x2.2 cid (by omega)]; exact hb1
        have g3' : GM h3 lo nm n W hd bl1 cl1 (fun i' j => if i' < 0 ∧ i' ≠ r then (fun i j => if i = r then top M r c a j else swp M r a i j) i' j ^^^ Gf.gm ((fun i j => if i = r then top M r c a j else swp M r a i j) i' c) ((fun i j => if i = r then top M r c a j else swp M r a i j) r j) else (fun i j => if i = r then top M r c a j else swp M r a i j) i' j) := g3.congr fun i j hi hj => by
          by_cases q : i = r
          · simp [q]; rfl
          · simp [q]
        obtain ⟨h4, n4, e4, l4, b4, g4, k4⟩ := elim_loop (k0 := k1 + 1) (by omega) lf f (by omega) hn hW xc (C : Int) (r := r) (c := c) (cid := cid) hrn (by omega) h1 (M := fun i j => if i = r then top M r c a j else swp M r a i j) (fun i j => by
          show (if i = r then top M r c a j else swp M r a i j) < 256
          split
          · exact top_lt hM _ _ _ _
          · exact hP _ _) n lf 0 h3 n3 (by omega) (by omega) (by omega) (by omega) hb3 g3'
        rw [show ((0 : Nat) : Int) = 0 from rfl] at e4
        have g5 : GM h4 lo nm n W hd bl1 cl1 (elm M r c a) := g4.congr fun i j hi hj => by
          by_cases q : i = r
          · simp [elm, q]
          · simp [elm, q]
        rw [e4, J3_step _ lf f (some (hd, 0)) n xc (C : Int) ((r + 1 : Nat) : Int) (by omega) b4]
        obtain ⟨bl', cl', h', nx', e', l', g', k'⟩ := ih f (c + 1) (r + 1) (n4 + 1) bl1 cl1 (elm M r c a) (h4.put (n4 + 1) (some ⟨[.int .i64 ((c + 1 : Nat) : Int)], 1, true⟩)) (n4 + 6) (by omega) (by omega) (by omega) (elm_F8 hM _ _ _) (by omega) (by omega) (put_same _ _ _) (g5.keep fun j _ hj => put_ne (by omega))
        exact ⟨bl', cl', h', nx', e', by omega, g', fun q hq hq' => by rw [k' q (by omega) hq', put_ne (by omega), k4 q (by omega) hq', k3 q (by omega) (by omega), x2.2 q (by omega), kh q hq hq']⟩
    · rw [if_neg (by simpa using hrn), if_neg hrn]
      exact ⟨bl, cl, h, nx + 11, rfl, by omega, g, fun _ _ _ => rfl⟩

theorem reduce_spec {f : Nat} (hf : 2002 ≤ f) {lo nm n W hd : Nat} (hn : n ≤ 1000) (hW : W ≤ 1000) (xc : Bool) {C : Nat} (hC : C ≤ W) {bl : Nat → Nat} {cl : Nat → Bool} {M : Fm} (hM : F8 M) {h : AHeap} {nx : Nat} (hnx : nm ≤ nx) (g : GM h lo nm n W hd bl cl M) :
    ∃ bl' cl' h' nx', callP Try.prog keepT f Y0 58 [.slice (some (hd, 0)) n xc, .int .i64 (C : Int)] h nx = some (.int .i64 ((red n C 0 0 M).2 : Int), h', nx') ∧ nx ≤ nx' ∧ GM h' lo nm n W hd bl' cl' (red n C 0 0 M).1 ∧ ∀ q, q < nx → (q < lo ∨ nm ≤ q) → h' q = h q := by
  obtain ⟨f, rfl⟩ : ∃ m, f = m + 1 := ⟨f - 1, by omega⟩
  obtain ⟨bl', cl', h', nx', e', l', g', k'⟩ := red_loop (k0 := f) (by omega) f (by omega) hn hW xc hC C f 0 0 (nx + 2) bl cl M (h.put (nx + 2) (some ⟨[.int .i64 ((0 : Nat) : Int)], 1, true⟩)) (nx + 4) (by omega) (by omega) (by omega) hM (by omega) (by omega) (put_same _ _ _) (g.keep fun j _ hj => put_ne (by omega))
  rw [show ((0 : Nat) : Int) = 0 from rfl] at e' k'
  rw [F58_eq]
  dsimp only
  rw [st_one (put_same _ _ _) rfl (by simp), put_put, List.set_cons_zero, e']
  exact ⟨bl', cl', h', nx', rfl, by omega, g', fun q hq hq' => by rw [k' q (by omega) hq', put_ne (by omega)]⟩

end Go.Proofs.Ytalfcokiooaliaa.T

namespace Go.Proofs.Ytalfcokiooaliaa.T
open Go Go.RowKit Go.Proofs

abbrev ent (L : List (List Nat)) : Fm := fun i j => (L.getD i []).getD j 0
theorem ent_F8 {L : List (List Nat)} (h : SmallM L) : F8 (ent L) := fun i j => entD_lt h i j
def lst (n W : Nat) (f : Fm) : List (List Nat) := (List.range n).map fun i => (List.range W).map (f i)
theorem lst_len (n W : Nat) (f : Fm) : (lst n W f).length = n := by simp [lst]
theorem lst_succ (n W : Nat) (f : Fm) : lst (n + 1) W f = lst n W f ++ [(List.range W).map (f n)] := by simp [lst, List.range_succ]
theorem lst_get {n W : Nat} {f : Fm} {i : Nat} (hi : i < n) : (lst n W f)[i]'(by rw [lst_len]; exact hi) = (List.range W).map (f i) := by simp [lst]
theorem getD_at {α : Type} {l : List α} {i : Nat} {d : α} (h : i < l.length) : l.getD i d = l[i] := by
  simp [List.getD, List.getElem?_eq_getElem h]
theorem lst_ent {n W : Nat} {f : Fm} {i j : Nat} (hi : i < n) (hj : j < W) : ent (lst n W f) i j = f i j := by
  show ((lst n W f).getD i []).getD j 0 = _
  rw [getD_at (l := lst n W f) (by rw [lst_len]; exact hi), lst_get hi, getD_at (by simpa using hj)]; simp
theorem lst_small {n W : Nat} {f : Fm} (h : F8 f) : SmallM (lst n W f) := by
  intro r hr x hx
  obtain ⟨i, _, rfl⟩ := List.mem_map.1 hr
  obtain ⟨j, _, rfl⟩ := List.mem_map.1 hx
  exact h _ _
theorem irow_lst (W : Nat) (f : Nat → Nat) : ints .i64 (nints ((List.range W).map f)) = irow W f := by simp [ints, nints, irow]
theorem irow_row {L : List Nat} {W : Nat} (h : L.length = W) : ints .i64 (nints L) = irow W fun j => L.getD j 0 := by
  apply List.ext_getElem
  · simp [ints, nints, irow, h]
  · intro i h1 h2
    have : i < L.length := by simp [ints, nints] at h1; exact h1
    simp [ints, nints, irow, List.getElem?_eq_getElem this]
/-- Blocks of a matrix of one's own. -/
theorem WMat.gm {h : AHeap} {nx0 nx W : Nat} {a : Option (Nat × Nat)} {L : List (List Nat)} (m : WMat h nx0 nx .i64 a L W) (hW : 1 ≤ W) (hn : 1 ≤ L.length) : ∃ hd bl cl, a = some (hd, 0) ∧ GM h nx0 nx L.length W hd bl cl (ent L) := by
  obtain ⟨qs, ro, s, nn, d⟩ := m
  rcases s.2 with ⟨_, z⟩ | ⟨hd, rfl, l0, l1, b⟩
  · omega
  have hq : ∀ i (hi : i < L.length), ∃ ri c, qs[i]? = some (some (ri, 0), c) ∧ nx0 ≤ ri ∧ ri < nx ∧ h ri = some ⟨ints .i64 (nints L[i]), 1, true⟩ ∧ L[i].length = W := by
    intro i hi
    obtain ⟨⟨q1, q2⟩, e1, w1, ⟨_, z⟩ | ⟨ri, e2, r0, r1, rb⟩⟩ := ro.getO hi
    · omega
    · obtain rfl : q1 = some (ri, 0) := e2
      exact ⟨ri, q2, e1, r0, r1, rb, w1⟩
  have hlen : qs.length = L.length := ro.rows.length
  refine ⟨hd, fun i => ((qs[i]?.bind (·.1)).map Prod.fst).getD 0, fun i => (qs[i]?.map (·.2)).getD false, rfl, ?_, fun i hi => ?_, fun i j hi hj e => ?_, fun i hi => ?_, l0, l1, fun i hi => ?_, fun i hi => ?_⟩
  · rw [b]
    congr 2
    apply List.ext_getElem
    · simp [hrow, hlen]
    · intro i h1 h2
      have hi : i < L.length := by simp at h1; omega
      obtain ⟨ri, c, e1, _⟩ := hq i hi
      have e2 : qs[i]'(by omega) = (some (ri, 0), c) := by
        have := List.getElem?_eq_getElem (show i < qs.length by omega)
        rw [e1] at this; exact (Option.some.inj this).symm
      simp [hrow, rcell, e1, e2]
  · obtain ⟨ri, c, e1, _, _, e4, e5⟩ := hq i hi
    simp only [e1, Option.bind_some, Option.map_some, Option.getD_some]
    rw [e4, irow_row e5]
    congr 2
    exact irow_congr fun j _ => by show _ = (L.getD i []).getD j 0; rw [getD_at hi]
  · obtain ⟨ri, c, e1, _⟩ := hq i hi
    obtain ⟨rj, c', e2, _⟩ := hq j hj
    simp only [e1, e2, Option.bind_some, Option.map_some, Option.getD_some] at e
    subst e
    have g1 : qs[i]'(by omega) = (some (ri, 0), c) := by
      have := List.getElem?_eq_getElem (show i < qs.length by omega)
      rw [e1] at this; exact (Option.some.inj this).symm
    have g2 : qs[j]'(by omega) = (some (ri, 0), c') := by
      have := List.getElem?_eq_getElem (show j < qs.length by omega)
      rw [e2] at this; exact (Option.some.inj this).symm
    have pw := List.pairwise_iff_getElem.1 d
    by_cases hij : i < j
    · exact absurd (by rw [g2]) (pw i j (by omega) (by omega) hij ri (by rw [g1]))
    · by_cases hji : j < i
      · exact absurd (by rw [g1]) (pw j i (by omega) (by omega) hji ri (by rw [g2]))
      · omega
  · obtain ⟨ri, c, e1, _⟩ := hq i hi
    simp only [e1, Option.bind_some, Option.map_some, Option.getD_some]
    intro q
    exact nn _ (List.mem_of_getElem? e1) hd (by rw [q]) rfl
  · obtain ⟨ri, c, e1, e2, _⟩ := hq i hi
    simp only [e1, Option.bind_some, Option.map_some, Option.getD_some]; exact e2
  · obtain ⟨ri, c, e1, _, e3, _⟩ := hq i hi
    simp only [e1, Option.bind_some, Option.map_some, Option.getD_some]; exact e3

/-! ### a matrix and what stands beside it -/
theorem copy_spec {h : AHeap} {nx d n k : Nat} {a : Option (Nat × Nat)} {cells vs : List AV} (hk : 1 ≤ k) (hkn : k ≤ n) (hb : h d = some ⟨cells, 1, true⟩) (hc : cells.length = n) (s : Sl h nx a k 1 vs) :
    ∃ rd, copD h (some (d, 0)) n a k 1 = some (k, [(d, some ⟨vs ++ cells.drop k, 1, true⟩)], rd) := by
  obtain ⟨p, b, rfl, _, e3, e4, e5, e6⟩ := s.2 0 (by omega)
  have hd : (b.cells.drop p.2).take (k * 1) = vs := by
    apply List.ext_getElem?
    intro q
    rw [List.getElem?_take]
    by_cases hq : q < k * 1
    · rw [if_pos hq, List.getElem?_drop]; exact e6 q hq
    · rw [if_neg hq, List.getElem?_eq_none (by rw [s.1]; omega)]
  have hm : min k n = k := Nat.min_eq_left hkn
  have hvl : vs.length = k := by have := s.1; omega
  refine ⟨[d, p.1], ?_⟩
  unfold copD
  rw [hm, if_neg (by omega), Option.bind_some, Option.bind_some, hb, Option.bind_some, e3, Option.bind_some, if_pos (by simp [e4, hc]; omega), hd]
  simp [splice, hvl]

def besF (w more : Nat) (f : Fm) : Fm := fun i j => if j < w then f i j else if more = 0 then 0 else dl i (j - w)

theorem madeI (n : Nat) : madeA [AV.int .i64 0] n = irow n fun _ => 0 := by
  simp only [madeA, irow]
  apply List.ext_getElem
  · simp
  · intro i h1 h2; simp

theorem bes_loop (call : YldF → CallF) (lf : Nat) {L : List (List Nat)} {n w more : Nat} (hL : L.length = n) (hn : n ≤ 16) (hw1 : 1 ≤ w) (hw : w ≤ 16) (hm : more = 0 ∨ (n ≤ more ∧ more ≤ 16)) {a : Option (Nat × Nat)} (c : Bool) {h0 : AHeap} {n0 : Nat} (mt : Mat h0 n0 .i64 a L w) (k : Nat) :
    ∀ (f i : Nat) (oa : Option (Nat × Nat)) (oc : Bool) (h : AHeap) (nx : Nat), i + k = n → k < f → Ext h0 n0 h nx → WMat h n0 nx .i64 oa (lst i (w + more) (besF w more (ent L))) (w + more) →
    ∃ oa' oc' h' nx', F57_L1 call Y0 lf f (more : Int) oa i oc a n c ((n : Nat) : Int) (i : Int) h nx = some (.slice oa' n oc', h', nx') ∧ WMat h' n0 nx' .i64 oa' (lst n (w + more) (besF w more (ent L))) (w + more) ∧ Ext h0 n0 h' nx' := by
  induction k with
  | zero =>
    intro f i oa oc h nx e hf hx wm
    obtain ⟨f, rfl⟩ : ∃ m, f = m + 1 := ⟨f - 1, by omega⟩
    obtain rfl : i = n := by omega
    rw [F57_L1_eq, if_neg (by simp)]
    exact ⟨oa, oc, h, nx + 3, rfl, wm.ext ⟨by omega, fun _ _ => rfl⟩, hx.le (by omega)⟩
  | succ k ih =>
    intro f i oa oc h nx e hf hx wm
    obtain ⟨f, rfl⟩ : ∃ m, f = m + 1 := ⟨f - 1, by omega⟩
    have hi : i < n := by omega
    have y := hx.1
    obtain ⟨q, q1, q2, q3⟩ := (mt.ext hx).row (R := AV × AHeap × Nat) (i := i) (by omega)
    rw [hL] at q3
    have x4 : Ext h nx (h.put (nx + 10) (some ⟨irow (w + more) fun _ => 0, 1, true⟩)) (nx + 11) := ⟨by omega, fun j hj => put_ne (by omega)⟩
    obtain ⟨rd, cp⟩ := copy_spec (h := h.put (nx + 10) (some ⟨irow (w + more) fun _ => 0, 1, true⟩)) (d := nx + 10) (n := w + more) hw1 (by omega) (put_same _ _ _) (irow_len _ _) (q2.ext x4)
    have hcell : ints .i64 (nints L[i]) ++ (irow (w + more) fun _ => 0).drop w = irow (w + more) fun j => if j < w then ent L i j else 0 := by
      rw [irow_row q1]
      apply List.ext_getElem
      · simp [irow_len]
      · intro j h1 h2
        by_cases hj : j < w
        · rw [List.getElem_append_left (by rw [irow_len]; exact hj)]
          simp only [irow, List.getElem_map, List.getElem_range, if_pos hj]
          show _ = AV.int .i64 (((L.getD i []).getD j 0 : Nat) : Int)
          rw [getD_at (show i < L.length by omega)]
        · rw [List.getElem_append_right (by rw [irow_len]; omega)]
          simp only [irow, List.getElem_drop, List.getElem_map, List.getElem_range, if_neg hj]
    rw [hcell] at cp
    have ww : wrapA .i64 ((w : Int) + (more : Int)) = ((w + more : Nat) : Int) := by rw [wA (by omega) (by omega)]; omega
    have wi : wrapA .i64 ((w : Int) + (i : Int)) = ((w + i : Nat) : Int) := by clear ww; rw [wA (by omega) (by omega)]; omega
    -- what the push gives
    have push : ∀ (hh : AHeap) (m : Nat), nx + 11 ≤ m → Ext h nx hh m → hh (nx + 10) = some ⟨irow (w + more) (besF w more (ent L) i), 1, true⟩ → ∃ oa' oc' h' nx', F57_J2 call Y0 lf f (more : Int) oa i oc (some (nx + 10, 0)) (w + more) true a n c ((n : Nat) : Int) (i : Int) hh m = some (.slice oa' n oc', h', nx') ∧ WMat h' n0 nx' .i64 oa' (lst n (w + more) (besF w more (ent L))) (w + more) ∧ Ext h0 n0 h' nx' := by
      intro hh m hm' xm bm
      clear ww wi
      obtain ⟨e, g1, g2, g3, g4⟩ := wm.pushNew (x := xm) (c := oc) (bytes := 24) (id := m + 2) (id2 := m + 3) (q := (some (nx + 10, 0), true)) (r := (List.range (w + more)).map (besF w more (ent L) i)) ⟨by simp, .inr ⟨nx + 10, rfl, by omega, by omega, by rw [irow_lst]; exact bm⟩⟩ (growOk_of (by rw [lst_len]; omega) (by omega)) (by omega) (by omega) (by omega)
      rw [lst_len] at g1 g2
      rw [← lst_succ] at g3
      rw [F57_J2_eq]
      dsimp only
      rw [src_lit1, some_bind, g1, some_bind, g2, wsucc (by omega)]
      exact ih f (i + 1) e.a e.c _ (m + 7) (by omega) (by omega) ((hx.then g4).le (by omega)) (g3.ext ⟨by omega, fun _ _ => rfl⟩)
    rw [F57_L1_eq, if_pos (by clear ww wi; simpa using hi), q3]
    simp only [mst_]
    rw [ww, wi]
    clear ww wi
    rw [if_pos (by simp; omega), Nat.mul_one, Int.toNat_natCast, madeI, cp]
    simp only [mst_]
    simp only [puts_cons, puts_nil]
    rw [put_put, show (((w + more : Nat) : Int) == ((w + more : Nat) : Int)) = true from by simp]
    rcases hm with rfl | ⟨hm1, hm2⟩
    · rw [if_neg (by decide)]
      exact push _ (nx + 17) (by omega) ⟨by omega, fun j hj => put_ne (by omega)⟩ (by
        rw [put_same]
        exact congrArg (fun c => some (ABlk.mk c 1 true)) (irow_congr fun j hj => by unfold besF; rw [if_pos (by omega), if_pos (by omega)]))
    · rw [if_pos (by simp; omega), if_pos ⟨by omega, by omega⟩, ix0, show (AV.int .i64 1) = AV.int .i64 ((1 : Nat) : Int) from rfl, st_to (put_same _ _ _) rfl (by rw [irow_len]; omega) irow_set, put_put]
      exact push _ (nx + 24) (by omega) ⟨by omega, fun j hj => put_ne (by omega)⟩ (by
        rw [put_same]
        refine congrArg (fun c => some (ABlk.mk c 1 true)) (irow_congr fun j hj => ?_)
        unfold besF
        by_cases e1 : j = w + i
        · subst e1; rw [if_pos rfl, if_neg (by omega), if_neg (by omega), dl, if_pos (by omega)]
        · rw [if_neg e1]
          by_cases e2 : j < w
          · rw [if_pos e2, if_pos e2]
          · rw [if_neg e2, if_neg e2, if_neg (by omega), dl, if_neg (by omega)])

theorem bes_spec {f : Nat} (hf : 300 ≤ f) {L : List (List Nat)} {n w more : Nat} (hL : L.length = n) (hn : n ≤ 16) (hw1 : 1 ≤ w) (hw : w ≤ 16) (hm : more = 0 ∨ (n ≤ more ∧ more ≤ 16)) {a : Option (Nat × Nat)} (c : Bool) {h : AHeap} {nx : Nat} (mt : Mat h nx .i64 a L w) :
    ∃ oa oc h' nx', callP Try.prog keepT f Y0 57 [.slice a n c, .int .i64 (more : Int)] h nx = some (.slice oa n oc, h', nx') ∧ WMat h' nx nx' .i64 oa (lst n (w + more) (besF w more (ent L))) (w + more) ∧ Ext h nx h' nx' := by
  obtain ⟨f, rfl⟩ : ∃ m, f = m + 1 := ⟨f - 1, by omega⟩
  obtain ⟨oa, oc, h', nx', e', w', x'⟩ := bes_loop (callP Try.prog keepT f) f hL hn hw1 hw hm c mt n f 0 none false h (nx + 5) (by omega) (by omega) ⟨by omega, fun _ _ => rfl⟩ (WMat.nil _ _ _ _ _)
  rw [show ((0 : Nat) : Int) = 0 from rfl] at e'
  rw [F57_eq, e']
  exact ⟨oa, oc, h', nx', rfl, w', x'⟩

end Go.Proofs.Ytalfcokiooaliaa.T

namespace Go.Proofs.Ytalfcokiooaliaa.T
open Go Go.RowKit Go.Proofs

theorem Mat.some {h : AHeap} {nx w : Nat} {k : IntKind} {a : Option (Nat × Nat)} {M : List (List Nat)} (m : Mat h nx k a M w) (hn : 1 ≤ M.length) : ∃ p, a = some p ∧ p.1 < nx := by
  obtain ⟨qs, r, s⟩ := m
  obtain ⟨p, b, e1, e2, _⟩ := s.2 0 (by omega)
  exact ⟨p, e1, e2⟩

theorem clone_spec {f : Nat} (hf : 1 ≤ f) {l : List Nat} {k : Nat} (hl : l.length = k) (hk1 : 1 ≤ k) (hk : k ≤ 1000000) {a : Option (Nat × Nat)} (c : Bool) {h : AHeap} {nx : Nat} (s : Sl h nx a k 1 (ints .i64 (nints l))) :
    ∃ id cc h' nx', callP Try.prog keepT f Y0 21 [.slice a k c] h nx = some (.slice (some (id, 0)) k cc, h', nx') ∧ nx ≤ id ∧ id < nx' ∧ h' id = some ⟨ints .i64 (nints l), 1, true⟩ ∧ Ext h nx h' nx' := by
  obtain ⟨f, rfl⟩ : ∃ m, f = m + 1 := ⟨f - 1, by omega⟩
  obtain ⟨p, b, rfl, _⟩ := s.2 0 (by omega)
  have x1 : Ext h nx (h.put (nx + 3) (some ⟨[], 1, true⟩)) (nx + 4) := ⟨by omega, fun j hj => put_ne (by omega)⟩
  obtain ⟨rd, e1⟩ := (s.ext x1).src'
  have o : OwnSl (h.put (nx + 3) (some ⟨[], 1, true⟩)) nx (nx + 4) (some (nx + 3, 0)) 0 1 [] := ⟨by simp, .inr ⟨nx + 3, rfl, by omega, by omega, put_same _ _ _⟩⟩
  obtain ⟨e, f1, f2, f3, f4, _⟩ := o.appendS true (bytes := 8) (id := nx + 5) (k := k) (ws := ints .i64 (nints l)) (rd := rd) s.1 (growOk_of (by omega) (by omega)) (by omega) (by omega)
  rw [Nat.zero_add] at f2 f3
  rw [List.nil_append] at f3
  have ha := appD_a f1 (by omega)
  rcases f3.2 with ⟨_, z⟩ | ⟨id, g1, g2, g3, g4⟩
  · omega
  rw [F21_eq, if_neg (by simp)]
  dsimp only
  rw [e1, some_bind, f1, some_bind, f2, g1]
  exact ⟨id, e.c, _, nx + 7, rfl, g2, by omega, g4, ⟨by omega, fun j hj => by rw [f4.2 j (by omega), put_ne (by omega)]⟩⟩

theorem out_loop {k0 : Nat} (hk0 : 2 ≤ k0) (lf : Nat) {h0 : AHeap} {lo nm n0 n hd : Nat} (hn1 : 1 ≤ n) (hn : n ≤ 16) (hnm : nm ≤ n0) {bl : Nat → Nat} {cl : Nat → Bool} {M : Fm} (g : GM h0 lo nm n (n + n) hd bl cl M) (cc : Bool) (k : Nat) :
    ∀ (f i : Nat) (oa : Option (Nat × Nat)) (oc : Bool) (h : AHeap) (nx : Nat), i + k = n → k < f → Ext h0 n0 h nx → WMat h n0 nx .i64 oa (lst i n fun i j => M i (n + j)) n →
    ∃ oa' oc' h' nx', F53_L1 (callP Try.prog keepT k0) Y0 lf f ((n : Nat) : Int) oa i oc (some (hd, 0)) n cc ((n : Nat) : Int) (i : Int) h nx = some (.tuple [.slice oa' n oc', .int .i64 0], h', nx') ∧ WMat h' n0 nx' .i64 oa' (lst n n fun i j => M i (n + j)) n ∧ Ext h0 n0 h' nx' := by
  induction k with
  | zero =>
    intro f i oa oc h nx e hf hx wm
    obtain ⟨f, rfl⟩ : ∃ m, f = m + 1 := ⟨f - 1, by omega⟩
    obtain rfl : i = n := by omega
    rw [F53_L1_eq, if_neg (by simp)]
    exact ⟨oa, oc, h, nx + 4, rfl, wm.ext ⟨by omega, fun _ _ => rfl⟩, hx.le (by omega)⟩
  | succ k ih =>
    intro f i oa oc h nx e hf hx wm
    obtain ⟨f, rfl⟩ : ∃ m, f = m + 1 := ⟨f - 1, by omega⟩
    have hi : i < n := by omega
    have y := hx.1
    have gh := g.keep (h' := h) fun j _ hj => hx.2 j (by omega)
    have sr : Sl h nm (some (bl i, 0)) (n + n) 1 (irow (n + n) (M i)) := Sl.ofBlk (gh.row i hi) (by rw [irow_len, Nat.mul_one]) (gh.blm i hi)
    obtain ⟨c1, c2, _⟩ := sr.cut (cl i) (lo := n) (hi := n + n) (l := some (.int .i64 ((n : Nat) : Int))) (r := none) (by omega) (Nat.le_refl _) (bound_some (by omega)) bound_none
    have hv : ((irow (n + n) (M i)).drop (n * 1)).take ((n + n - n) * 1) = ints .i64 (nints ((List.range n).map fun j => M i (n + j))) := by
      rw [irow_lst, Nat.mul_one, Nat.mul_one, Nat.add_sub_cancel]
      apply List.ext_getElem
      · simp [irow_len]
      · intro j h1 h2
        simp [irow]
    rw [hv, Nat.add_sub_cancel] at c2
    rw [Nat.add_sub_cancel] at c1
    obtain ⟨id, cb, h5, n5, e5, l5, l6, b5, x5⟩ := clone_spec (f := k0) (by omega) (l := (List.range n).map fun j => M i (n + j)) (k := n) (by simp) hn1 (by omega) (cl i && n + n == n + n) (h := h) (nx := nx + 12) (c2.ext ⟨by omega, fun _ _ => rfl⟩)
    have y5 := x5.1
    obtain ⟨e, f1, f2, f3, f4⟩ := (wm.ext (nx' := nx) ⟨by omega, fun _ _ => rfl⟩).pushAt (n2 := n5) (n3 := n5 + 2) (x := ⟨by omega, fun q hq => x5.2 q (by omega)⟩) (c := oc) (bytes := 24) (id := nx + 9) (id2 := nx + 10) (q := (some (id, 0), cb)) (r := (List.range n).map fun j => M i (n + j))
      ⟨by simp, .inr ⟨id, rfl, by omega, l6, b5⟩⟩ (fun q hq => by
        obtain rfl : id = q := by simpa using hq
        omega) (growOk_of (by rw [lst_len]; omega) (by omega)) (by omega) (by omega) (by omega) (by omega) (by omega)
    rw [lst_len] at f1 f2
    have es : lst i n (fun i j => M i (n + j)) ++ [(List.range n).map fun j => M i (n + j)] = lst (i + 1) n fun i j => M i (n + j) := (lst_succ i n fun i j => M i (n + j)).symm
    rw [es] at f3
    rw [F53_L1_eq, if_pos (by simpa using hi)]
    simp only [mst_]
    rw [gh.rd hi]
    simp only [mst_]
    rw [c1]
    simp only [mst_]
    rw [e5]
    simp only [mst_]
    rw [src_lit1, some_bind, f1, some_bind, f2, wsucc (by omega)]
    exact ih f (i + 1) e.a e.c _ (n5 + 2) (by omega) (by omega) (hx.then f4) f3

theorem inv_matrix {f : Nat} (hf : 2010 ≤ f) {L : List (List Nat)} {n : Nat} (hL : L.length = n) (hn1 : 1 ≤ n) (hn : n ≤ 8) (hs : SmallM L) {a : Option (Nat × Nat)} (c : Bool) {h : AHeap} {nx : Nat} (mt : Mat h nx .i64 a L n) :
    (rk n n (ent L) < n → ∃ h' nx', callP Try.prog keepT f Y0 53 [.slice a n c] h nx = some (.tuple [.slice none 0 false, .int .i64 10], h', nx') ∧ Ext h nx h' nx') ∧
    (rk n n (ent L) = n → ∃ oa oc h' nx', callP Try.prog keepT f Y0 53 [.slice a n c] h nx = some (.tuple [.slice oa n oc, .int .i64 0], h', nx') ∧ WMat h' nx nx' .i64 oa (lst n n (invF n (ent L))) n ∧ Ext h nx h' nx') := by
  obtain ⟨f, rfl⟩ : ∃ m, f = m + 1 := ⟨f - 1, by omega⟩
  obtain ⟨n1, l1, e1⟩ := may_spec (f := f) (by omega) (M := L) (w := n) (by omega) (by omega) hn1 hn hs c mt (nx + 5)
  rw [hL] at e1
  have x1 : Ext h nx h (n1 + 13) := ⟨by omega, fun _ _ => rfl⟩
  obtain ⟨oa, oc, h2, n2, e2, wm, x2⟩ := bes_spec (f := f) (by omega) hL (by omega) hn1 (by omega) (more := n) (.inr ⟨Nat.le_refl _, by omega⟩) c (mt.ext x1)
  have y2 := x2.1
  obtain ⟨hd, bl, cl, rfl, g⟩ := wm.gm (by omega) (by rw [lst_len]; omega)
  rw [lst_len] at g
  have hF : F8 (besF n n (ent L)) := fun i j => by
    unfold besF; split
    · exact ent_F8 hs _ _
    · split
      · omega
      · exact dl_lt _ _
  obtain ⟨bl', cl', h3, n3, e3, l3, g3, k3⟩ := reduce_spec (f := f) (by omega) (by omega) (by omega) oc (C := n) (by omega) (ent_F8 (lst_small hF)) (nx := n2 + 5) (by omega) g
  have ag : ∀ i j, i < n → j < n + n → ent (lst n (n + n) (besF n n (ent L))) i j = aug n (ent L) i j := fun i j hi hj => by
    rw [lst_ent hi hj]; unfold besF aug
    by_cases hjn : j < n
    · rw [if_pos hjn, if_pos hjn]
    · rw [if_neg hjn, if_neg hjn, if_neg (by omega)]
  have ra := red_agree (n := n) (C := n + n) n 0 0 _ _ (by omega) ag
  have er : (red n n 0 0 (ent (lst n (n + n) (besF n n (ent L))))).2 = rk n n (ent L) := by rw [ra.1]; exact rk_aug
  obtain ⟨q, q1, q2, q3⟩ := mt.row (R := AV × AHeap × Nat) (i := 0) (by omega)
  rw [hL, show ((0 : Nat) : Int) = 0 from rfl] at q3
  have xx : Ext h nx h3 n3 := ⟨by omega, fun j hj => by rw [k3 j (by omega) (by omega), x2.2 j (by omega)]⟩
  rw [F53_eq, e1]
  simp only [mst_]
  rw [q3]
  simp only [mst_]
  rw [if_neg (by simp), e2]
  simp only [mst_]
  rw [e3]
  simp only [mst_]
  rw [er]
  constructor
  · intro hr
    rw [if_pos (by simpa using hr)]
    exact ⟨h3, n3 + 2, rfl, xx.le (by omega)⟩
  · intro hr
    rw [if_neg (by rw [hr]; simp)]
    obtain ⟨oa', oc', h', nx', e', w', x'⟩ := out_loop (k0 := f) (by omega) f hn1 (by omega) (n0 := n3 + 4) (by omega) g3 oc n f 0 none false h3 (n3 + 4) (by omega) (by omega) (Ext.refl _ _) (WMat.nil _ _ _ _ _)
    rw [show ((0 : Nat) : Int) = 0 from rfl] at e'
    rw [e']
    have el : lst n n (fun i j => (red n n 0 0 (ent (lst n (n + n) (besF n n (ent L))))).1 i (n + j)) = lst n n (invF n (ent L)) := by
      unfold lst
      refine List.map_congr_left fun i hi => List.map_congr_left fun j hj => ?_
      have hi := List.mem_range.1 hi
      have hj := List.mem_range.1 hj
      exact ra.2 i (n + j) hi (by omega)
    rw [el] at w'
    exact ⟨oa', oc', h', nx', rfl, w'.from (by omega), ⟨by have := x'.1; omega, fun j hj => by rw [x'.2 j (by omega), xx.2 j hj]⟩⟩

end Go.Proofs.Ytalfcokiooaliaa.T
