/- Snaps: SnapSafe, plain law. -/
import Derived.Test.YtaikceooeahfeaaS15
set_option linter.unusedVariables false
set_option linter.unusedSimpArgs false
namespace Go.Proofs.Ytaikceooeahfeaa.T
open Go Go.RowKit Go.Proofs

def deads (l : List PS) : List Int := (l.map (·.dead)).flatten
def marks (l : List Bool) (bs : List Int) : List Bool := bs.foldl (fun l b => l.set b.toNat true) l
theorem marks_len (bs : List Int) : ∀ l : List Bool, (marks l bs).length = l.length := by
  induction bs with
  | nil => intro l; rfl
  | cons b bs ih => intro l; show (marks (l.set b.toNat true) bs).length = _; rw [ih, List.length_set]
theorem marks_app (l : List Bool) (a b : List Int) : marks l (a ++ b) = marks (marks l a) b := by simp [marks]
theorem marks_get (bs : List Int) : ∀ (l : List Bool) (i : Nat), (∀ b ∈ bs, 0 ≤ b) → (marks l bs)[i]? = if (i : Int) ∈ bs then (l[i]?).map (fun _ => true) else l[i]? := by
  induction bs with
  | nil => intro l i _; simp [marks]
  | cons b bs ih =>
    intro l i hp
    show (marks (l.set b.toNat true) bs)[i]? = _
    rw [ih _ _ (fun x hx => hp x (List.mem_cons_of_mem _ hx))]
    have h0 := hp b List.mem_cons_self
    by_cases c : (i : Int) = b
    · have hb : b.toNat = i := by omega
      rw [hb]
      have hm : (i : Int) ∈ b :: bs := by rw [c]; exact List.mem_cons_self
      rw [if_pos hm, List.getElem?_set]
      by_cases hi : i < l.length
      · simp [hi]
      · simp [hi, List.getElem?_eq_none (show l.length ≤ i by omega)]
    · have hb : b.toNat ≠ i := by omega
      rw [List.getElem?_set_ne hb]
      simp only [List.mem_cons, c, false_or]

theorem count_set {l : List PS} {j : Nat} {s : PS} (h : l[j]? = some s) (r : List Int) (x : Int) : (deads (l.set j ⟨s.num, s.made, s.dead ++ r⟩)).count x = (deads l).count x + r.count x := by
  induction l generalizing j with
  | nil => simp at h
  | cons a l ih =>
    cases j with
    | zero => simp at h; subst h; simp [deads]; omega
    | succ j =>
      have := ih (j := j) (by simpa using h)
      simp only [deads, List.set_cons_succ, List.map_cons, List.flatten_cons, List.count_append] at this ⊢
      omega
theorem count_erase {l : List PS} {j : Nat} {s : PS} (h : l[j]? = some s) (x : Int) : (deads (l.eraseIdx j)).count x + s.dead.count x = (deads l).count x := by
  induction l generalizing j with
  | nil => simp at h
  | cons a l ih =>
    cases j with
    | zero => simp at h; subst h; simp [deads]; omega
    | succ j =>
      have := ih (j := j) (by simpa using h)
      simp only [deads, List.eraseIdx_cons_succ, List.map_cons, List.flatten_cons, List.count_append] at this ⊢
      omega
theorem count_mem {l : List PS} {s : PS} (h : s ∈ l) {x : Int} (hx : x ∈ s.dead) : 0 < (deads l).count x := by
  rw [List.count_pos_iff]
  exact List.mem_flatten.2 ⟨s.dead, List.mem_map_of_mem h, hx⟩
/-- Of what is dropped a part is gone, and the rest lies behind the one ahead. -/
theorem count_drop {l : List PS} {i : Nat} {s : PS} (hi : l[i]? = some s) (p : Int → Bool) (h0 : i = 0 → ∀ b ∈ s.dead, p b = true) (x : Int) :
    (deads ((buryP l (i - 1) (s.dead.filter fun b => !p b)).eraseIdx i)).count x + (s.dead.filter p).count x = (deads l).count x := by
  have hlt := (List.getElem?_eq_some_iff.1 hi).1
  have hsplit : (s.dead.filter p).count x + (s.dead.filter fun b => !p b).count x = s.dead.count x := by
    induction s.dead with
    | nil => rfl
    | cons b d ih =>
      cases hb : p b with
      | true => rw [List.filter_cons_of_pos hb, List.filter_cons_of_neg (by simp [hb])]; simp only [List.count_cons]; omega
      | false => rw [List.filter_cons_of_neg (by simp [hb]), List.filter_cons_of_pos (by simp [hb])]; simp only [List.count_cons]; omega
  by_cases c : i = 0
  · have hr : (s.dead.filter fun b => !p b) = [] := by rw [List.filter_eq_nil_iff]; intro b hb; rw [h0 c b hb]; decide
    rw [hr, buryP_nil]
    have := count_erase hi x
    rw [hr] at hsplit
    simp only [List.count_nil] at hsplit
    omega
  · have hj : l[i - 1]? = some l[i - 1] := List.getElem?_eq_getElem (by omega)
    unfold buryP
    rw [hj]
    simp only
    have h1 := count_set hj (s.dead.filter fun b => !p b) x
    have h2 := count_erase (l := l.set (i - 1) ⟨l[i - 1].num, l[i - 1].made, l[i - 1].dead ++ (s.dead.filter fun b => !p b)⟩) (j := i) (s := s) (by rw [List.getElem?_set_ne (by omega)]; exact hi) x
    omega
theorem sortL_count (l : List Int) (x : Int) : (sortL l).count x = l.count x := (List.mergeSort_perm l _).count_eq x
theorem sortL_mem (l : List Int) (x : Int) : x ∈ sortL l ↔ x ∈ l := (List.mergeSort_perm l _).mem_iff

end Go.Proofs.Ytaikceooeahfeaa.T
