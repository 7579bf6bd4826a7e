/- Trees, plain law: what a list of nodes has: each node is a kid once. -/
import Derived.Test.YtogmdfbamgjjfaaH20
set_option linter.unusedVariables false
set_option linter.unusedSimpArgs false
namespace Go.Proofs.Ytogmdfbamgjjfaa.T
open Go Go.RowKit Go.Proofs

def tot (q : List (Nat × Tr)) (c : Nat) : Nat := ((q.take c).map fun x => (kqn x).length).sum
def mq (q : List (Nat × Tr)) (c : Nat) : Nat := 1 + tot q c
theorem tot_app {q r : List (Nat × Tr)} {c : Nat} (h : c ≤ q.length) : tot (q ++ r) c = tot q c := by unfold tot; rw [List.take_append_of_le_length h]
theorem tot_succ {q : List (Nat × Tr)} {c : Nat} {x : Nat × Tr} (h : q[c]? = some x) : tot q (c + 1) = tot q c + (kqn x).length := by
  unfold tot; rw [List.take_add_one, h]; simp
theorem tot_mono {q : List (Nat × Tr)} {a b : Nat} (h : a ≤ b) : tot q a ≤ tot q b := by
  obtain ⟨d, rfl⟩ := Nat.exists_eq_add_of_le h
  clear h
  induction d with
  | zero => exact Nat.le_refl _
  | succ d ih =>
    rw [← Nat.add_assoc]
    cases e : q[a + d]? with
    | none =>
      have : q.length ≤ a + d := List.getElem?_eq_none_iff.1 e
      have e2 : tot q (a + d + 1) = tot q (a + d) := by unfold tot; rw [List.take_of_length_le (by omega), List.take_of_length_le (by omega)]
      omega
    | some x => rw [tot_succ e]; omega

structure BI (i : Nat) (q : List (Nat × Tr)) (N : List NRec) : Prop where
  ln : N.length = i
  le : i ≤ q.length
  tq : q.length = mq q i
  rc : ∀ (c : Nat) (x : Nat × Tr), c < i → q[c]? = some x → N[c]? = some (recOf (mq q c) x) ∧ c < mq q c ∧ ∀ (y : Nat) (z : Nat × Tr), (kqn x)[y]? = some z → q[mq q c + y]? = some z
theorem BI.step {i : Nat} {q : List (Nat × Tr)} {N : List NRec} {x : Nat × Tr} (w : BI i q N) (h : q[i]? = some x) : BI (i + 1) (q ++ kqn x) (N ++ [recOf q.length x]) := by
  have hi : i < q.length := (List.getElem?_eq_some_iff.1 h).1
  have h' : (q ++ kqn x)[i]? = some x := by rw [List.getElem?_append_left hi]; exact h
  have hm : ∀ c, c ≤ q.length → mq (q ++ kqn x) c = mq q c := fun c hc => by unfold mq; rw [tot_app hc]
  have hl := w.tq
  refine ⟨by simp [w.ln], by rw [List.length_append]; omega, ?_, fun c y hc hy => ?_⟩
  · have e1 := tot_succ h'
    have e2 := hm i w.le
    unfold mq at e2 hl ⊢
    rw [List.length_append, e1]; omega
  · rw [List.getElem?_append_left (by omega)] at hy
    rw [hm c (by omega)]
    by_cases e : c < i
    · obtain ⟨a, b, d⟩ := w.rc c y e hy
      refine ⟨by rw [List.getElem?_append_left (by rw [w.ln]; exact e)]; exact a, b, fun z u hz => ?_⟩
      have := d z u hz
      rw [List.getElem?_append_left (List.getElem?_eq_some_iff.1 this).1]; exact this
    · obtain rfl : c = i := by omega
      rw [h] at hy; obtain rfl := Option.some.inj hy
      refine ⟨by rw [List.getElem?_append_right (by rw [w.ln]; exact Nat.le_refl _), w.ln, hl]; simp, by omega, fun z u hz => ?_⟩
      rw [← hl, List.getElem?_append_right (by omega), Nat.add_sub_cancel_left]; exact hz
theorem BF.fin {i : Nat} {q q' : List (Nat × Tr)} {N N' : List NRec} (b : BF i q N q' N') : BI i q N → BI q'.length q' N' ∧ ∃ r, q' = q ++ r := by
  induction b with
  | done q N =>
    intro w
    exact ⟨w, [], by simp⟩
  | step h r ih =>
    intro w
    obtain ⟨a, s, e⟩ := ih (w.step h)
    exact ⟨a, _, by rw [e, List.append_assoc]⟩
theorem BF.root {x : Nat × Tr} {q : List (Nat × Tr)} {N : List NRec} (b : BF 0 [x] [] q N) : BI q.length q N ∧ q[0]? = some x := by
  obtain ⟨a, r, e⟩ := b.fin ⟨rfl, by simp, by simp [mq, tot], fun c y h => by omega⟩
  exact ⟨a, by rw [e]; rfl⟩
theorem BF.empty {i : Nat} {q q' : List (Nat × Tr)} {N N' : List NRec} (b : BF i q N q' N') : q = [] → q' = [] ∧ N' = N := by
  cases b with
  | done => intro e; exact ⟨e, rfl⟩
  | step h => intro e; rw [e] at h; simp at h

theorem kq_get (l : Nat) (k : Nat → Tr) {j : Nat} {a b : Nat} {k1 : Nat → Tr} {d1 : Nat → Int} (e : k j = .nd a b k1 d1) : ∀ J, j < J → (kq l k J)[(kq l k j).length]? = some (l, k j)
  | 0, h => by omega
  | J + 1, h => by
    by_cases c : j = J
    · subst c; rw [kq, List.getElem?_append_right (Nat.le_refl _), e]; simp [one1]
    · have := kq_get l k e J (by omega)
      rw [kq, List.getElem?_append_left (List.getElem?_eq_some_iff.1 this).1]; exact this
theorem ki_get (n l : Nat) (k : Nat → Tr) {j : Nat} : ∀ J, j < J → (ki n l k J)[j]? = some (kid1 (n + (kq l k j).length) (k j))
  | 0, h => by omega
  | J + 1, h => by
    by_cases c : j = J
    · subst c; rw [ki, List.getElem?_append_right (by rw [ki_len]; exact Nat.le_refl _), ki_len]; simp
    · rw [ki, List.getElem?_append_left (by rw [ki_len]; omega)]; exact ki_get n l k J (by omega)

/-- The index of a kid. -/
def eq4 (q : List (Nat × Tr)) (l c : Nat) (k : Nat → Tr) (j : Nat) : Nat := mq q c + (kq l k j).length
def kidsAt (q : List (Nat × Tr)) (c : Nat) : Nat → Tr := (q.getD c (0, .nil)).2.kids
def pick1 (t : Tr) (n : Nat) : Nat := match t with
  | .nil => 0
  | .nd _ _ _ _ => n
/-- How often a node is come to as a kid, from a node of level l on. -/
def cn (q : List (Nat × Tr)) : Nat → Nat → Nat → Nat
  | 0, _, _ => 0
  | l + 1, c, y =>
    pick1 (kidsAt q c 0) ((if y = eq4 q l c (kidsAt q c) 0 then 1 else 0) + cn q l (eq4 q l c (kidsAt q c) 0) y) +
    pick1 (kidsAt q c 1) ((if y = eq4 q l c (kidsAt q c) 1 then 1 else 0) + cn q l (eq4 q l c (kidsAt q c) 1) y) +
    pick1 (kidsAt q c 2) ((if y = eq4 q l c (kidsAt q c) 2 then 1 else 0) + cn q l (eq4 q l c (kidsAt q c) 2) y) +
    pick1 (kidsAt q c 3) ((if y = eq4 q l c (kidsAt q c) 3 then 1 else 0) + cn q l (eq4 q l c (kidsAt q c) 3) y)

theorem hits (l m y : Nat) (k : Nat → Tr) : pick1 (k 0) (if y = m + (kq l k 0).length then 1 else 0) + pick1 (k 1) (if y = m + (kq l k 1).length then 1 else 0) + pick1 (k 2) (if y = m + (kq l k 2).length then 1 else 0) + pick1 (k 3) (if y = m + (kq l k 3).length then 1 else 0) = if m ≤ y ∧ y < m + (kq l k 4).length then 1 else 0 := by
  have one : ∀ (J s : Nat), s = (if m ≤ y ∧ y < m + (kq l k J).length then 1 else 0) → s + pick1 (k J) (if y = m + (kq l k J).length then 1 else 0) = (if m ≤ y ∧ y < m + (kq l k (J + 1)).length then 1 else 0) := fun J s hs => by
    rw [hs, kq]
    cases e : k J with
    | nil => simp only [pick1, one1, List.append_nil, Nat.add_zero]
    | nd a b c d =>
      simp only [pick1, one1, List.length_append, List.length_singleton]
      by_cases h1 : m ≤ y ∧ y < m + (kq l k J).length
      · rw [if_pos h1, if_neg (by omega), if_pos (by omega)]
      · by_cases h2 : y = m + (kq l k J).length
        · rw [if_neg h1, if_pos h2, if_pos (by omega)]
        · rw [if_neg h1, if_neg h2, if_neg (by omega)]
  have h0 := one 0 0 (by rw [if_neg]; simp [kq])
  rw [Nat.zero_add] at h0
  exact one 3 _ (one 2 _ (one 1 _ h0))
theorem kqn_at {q : List (Nat × Tr)} {c l : Nat} {t : Tr} (h : q[c]? = some (l + 1, t)) : kqn (l + 1, t) = kq l (kidsAt q c) 4 := by
  unfold kidsAt; rw [List.getD_eq_getElem?_getD, h]; rfl
theorem mq_succ {q : List (Nat × Tr)} {c : Nat} {x : Nat × Tr} (h : q[c]? = some x) : mq q (c + 1) = mq q c + (kqn x).length := by unfold mq; rw [tot_succ h]; omega

theorem kid_in {i : Nat} {q : List (Nat × Tr)} {N : List NRec} (w : BI i q N) {c l : Nat} {t : Tr} (hc : c < i) (h : q[c]? = some (l + 1, t)) {j : Nat} (hj : j < 4) {a b : Nat} {k1 : Nat → Tr} {d1 : Nat → Int} (e : kidsAt q c j = .nd a b k1 d1) : q[eq4 q l c (kidsAt q c) j]? = some (l, kidsAt q c j) := by
  refine (w.rc c _ hc h).2.2 _ _ ?_
  rw [kqn_at h]; exact kq_get l _ e 4 hj

theorem cn_zero (q : List (Nat × Tr)) : ∀ (l c : Nat), cn q l c 0 = 0
  | 0, _ => rfl
  | l + 1, c => by
    have one : ∀ j, pick1 (kidsAt q c j) ((if 0 = eq4 q l c (kidsAt q c) j then 1 else 0) + cn q l (eq4 q l c (kidsAt q c) j) 0) = 0 := fun j => by
      rw [cn_zero q l, if_neg (by unfold eq4 mq; omega)]
      cases kidsAt q c j <;> rfl
    simp only [cn, one]
theorem cn_par {q : List (Nat × Tr)} {N : List NRec} (w : BI q.length q N) {y p : Nat} (hp : p < q.length) (h1 : mq q p ≤ y) (h2 : y < mq q (p + 1)) : ∀ (l c : Nat) (t : Tr), q[c]? = some (l, t) → cn q l c y = (if p = c then 1 else 0) + cn q l c p
  | 0, c, t, hc => by
    rw [if_neg]
    · simp [cn]
    · rintro rfl; rw [mq_succ hc] at h2; simp [kqn] at h2; omega
  | l + 1, c, t, hc => by
    have lc : c < q.length := (List.getElem?_eq_some_iff.1 hc).1
    have one : ∀ j, j < 4 → pick1 (kidsAt q c j) ((if y = eq4 q l c (kidsAt q c) j then 1 else 0) + cn q l (eq4 q l c (kidsAt q c) j) y) =
        pick1 (kidsAt q c j) (if y = eq4 q l c (kidsAt q c) j then 1 else 0) + pick1 (kidsAt q c j) ((if p = eq4 q l c (kidsAt q c) j then 1 else 0) + cn q l (eq4 q l c (kidsAt q c) j) p) := fun j hj => by
      cases e : kidsAt q c j with
      | nil => rfl
      | nd a b k1 d1 =>
        have hk := kid_in w lc hc hj e
        simp only [pick1]
        rw [cn_par w hp h1 h2 l _ _ hk]
    have hh := hits l (mq q c) y (kidsAt q c)
    have hm := mq_succ hc
    rw [kqn_at hc] at hm
    have hpc : (if mq q c ≤ y ∧ y < mq q c + (kq l (kidsAt q c) 4).length then 1 else 0) = (if p = c then 1 else 0) := by
      rw [← hm]
      by_cases e : p = c
      · subst e; rw [if_pos ⟨h1, h2⟩, if_pos rfl]
      · rw [if_neg e, if_neg]
        rintro ⟨a1, a2⟩
        rcases Nat.lt_or_gt_of_ne e with e | e
        · have := tot_mono (q := q) (show p + 1 ≤ c by omega); unfold mq at *; omega
        · have := tot_mono (q := q) (show c + 1 ≤ p by omega); unfold mq at *; omega
    simp only [cn]
    rw [one 0 (by omega), one 1 (by omega), one 2 (by omega), one 3 (by omega), ← hpc, ← hh]
    unfold eq4
    omega
theorem par_of {q : List (Nat × Tr)} {y : Nat} (h1 : 1 ≤ y) : ∀ n, y < mq q n → ∃ p, p < n ∧ mq q p ≤ y ∧ y < mq q (p + 1)
  | 0, h => by simp [mq, tot] at h; omega
  | n + 1, h => by
    by_cases c : y < mq q n
    · obtain ⟨p, a, b, d⟩ := par_of h1 n c
      exact ⟨p, by omega, b, d⟩
    · exact ⟨n, by omega, by omega, h⟩
theorem cn_one {q : List (Nat × Tr)} {N : List NRec} (w : BI q.length q N) {L : Nat} {t : Tr} (h0 : q[0]? = some (L, t)) : ∀ (b y : Nat), y < b → 1 ≤ y → y < q.length → cn q L 0 y = 1
  | 0, y, h, _, _ => by omega
  | b + 1, y, h, h1, h2 => by
    have hq := w.tq
    obtain ⟨p, p1, p2, p3⟩ := par_of (q := q) h1 q.length (by omega)
    obtain ⟨x, hx⟩ : ∃ x, q[p]? = some x := ⟨_, List.getElem?_eq_getElem p1⟩
    have hlt := (w.rc p x p1 hx).2.1
    rw [cn_par w p1 p2 p3 L 0 t h0]
    by_cases e : p = 0
    · subst e; rw [if_pos rfl, cn_zero]
    · rw [if_neg e, cn_one w h0 b p (by omega) (by omega) p1]

end Go.Proofs.Ytogmdfbamgjjfaa.T
