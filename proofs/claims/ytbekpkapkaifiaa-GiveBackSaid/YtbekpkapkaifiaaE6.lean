/- A space: the plain law of take, give, commit. -/
import Derived.Test.YtbekpkapkaifiaaE5
set_option linter.unusedVariables false
set_option linter.unusedSimpArgs false
namespace Go.Proofs.Ytbekpkapkaifiaa.T
open Go Go.RowKit Go.Proofs

def zc (u : List Int) : Nat := u.countP (fun x => x == 0)
theorem setR_eq (v : Int) {u : List Int} {a n : Nat} (h : a + n ≤ u.length) : setR v u a n = u.take a ++ List.replicate n v ++ u.drop (a + n) := by
  apply List.ext_getElem?
  intro i
  rw [setR_get v n a u i h]
  by_cases c : a ≤ i ∧ i < a + n
  · rw [if_pos c, List.getElem?_append_left (by simp; omega), List.getElem?_append_right (by simp; omega), List.getElem?_replicate, if_pos (by simp; omega)]
  · rw [if_neg c]
    by_cases c2 : i < a
    · rw [List.append_assoc, List.getElem?_append_left (by simp; omega), List.getElem?_take, if_pos c2]
    · rw [List.getElem?_append_right (by simp; omega), List.getElem?_drop]
      congr 1; simp; omega
theorem zc_mid {u : List Int} {a n : Nat} : zc u = zc (u.take a) + zc ((u.drop a).take n) + zc (u.drop (a + n)) := by
  unfold zc
  rw [← List.countP_append, ← List.countP_append]
  congr 1
  rw [List.append_assoc, ← List.drop_drop, List.take_append_drop, List.take_append_drop]
theorem zc_setR (v : Int) {u : List Int} {a n : Nat} (h : a + n ≤ u.length) : zc (setR v u a n) = zc (u.take a) + (if v = 0 then n else 0) + zc (u.drop (a + n)) := by
  rw [setR_eq v h]
  unfold zc
  rw [List.countP_append, List.countP_append, List.countP_replicate]
  simp

theorem findL_ok {n : Nat} (hn : 1 ≤ n) {e : Nat} : ∀ (xs pre : List Int) (cnt : Nat), cnt ≤ pre.length → (∀ i, pre.length - cnt ≤ i → i < pre.length → pre[i]? = some 0) → findL n xs pre.length cnt = some e →
    n ≤ e ∧ e ≤ (pre ++ xs).length ∧ ∀ i, e - n ≤ i → i < e → (pre ++ xs)[i]? = some 0
  | [], pre, cnt, _, _, h => by simp [findL] at h
  | x :: xs, pre, cnt, hc, hz, h => by
    have hl : (pre ++ [x]).length = pre.length + 1 := by simp
    have e1 : pre ++ x :: xs = (pre ++ [x]) ++ xs := by simp
    have hz' : ∀ i, (pre ++ [x]).length - (if x = 0 then cnt + 1 else 0) ≤ i → i < (pre ++ [x]).length → (pre ++ [x])[i]? = some 0 := by
      intro i h1 h2
      by_cases cx : x = 0
      · rw [if_pos cx] at h1
        by_cases ci : i < pre.length
        · rw [List.getElem?_append_left ci]; exact hz i (by omega) ci
        · rw [List.getElem?_append_right (by omega), show i - pre.length = 0 by omega, cx]; rfl
      · rw [if_neg cx] at h1; omega
    have hc' : (if x = 0 then cnt + 1 else 0) ≤ (pre ++ [x]).length := by split <;> omega
    simp only [findL] at h
    generalize (if x = 0 then cnt + 1 else 0) = c at *
    by_cases cn : c = n
    · rw [if_pos cn] at h
      simp only [Option.some.injEq] at h
      subst h
      rw [e1]
      refine ⟨by omega, by simp, fun i h1 h2 => ?_⟩
      rw [List.getElem?_append_left (by omega)]
      exact hz' i (by omega) (by omega)
    · rw [if_neg cn, ← hl] at h
      rw [e1]
      exact findL_ok hn xs (pre ++ [x]) c hc' hz' h

theorem all_get {u : List Int} {a n : Nat} {v : Int} (h : a + n ≤ u.length) (w : ∀ i, a ≤ i → i < a + n → u[i]? = some v) : (u.drop a).take n = List.replicate n v := by
  apply List.ext_getElem?
  intro i
  rw [List.getElem?_take, List.getElem?_replicate]
  by_cases c : i < n
  · rw [if_pos c, if_pos c, List.getElem?_drop, w _ (by omega) (by omega)]
  · rw [if_neg c, if_neg c]

def z3 (x : Int) : Int := if x = 3 then 0 else x
def cth (u : List Int) : Nat := u.countP (fun x => x == 3)
theorem com_eq : ∀ (xs A : List Int) (m : Nat) (s : SP), s.u = A ++ List.replicate m 3 ++ xs →
    (comL s (runsG (fun x => x == 3) xs (A.length + m) (if m = 0 then none else some A.length))).u = A ++ List.replicate m 0 ++ xs.map z3 ∧
    (comL s (runsG (fun x => x == 3) xs (A.length + m) (if m = 0 then none else some A.length))).free = s.free + m + cth xs
  | [], A, m, s, hs => by
    by_cases hm : m = 0
    · subst hm
      simp only [if_true, runsG, comL]
      exact ⟨by simpa using hs, by simp [cth]⟩
    · rw [if_neg hm]
      simp only [runsG, comL, comS]
      refine ⟨?_, by simp [cth]; omega⟩
      rw [hs, setR_eq 0 (by simp)]
      simp
  | x :: xs, A, m, s, hs => by
    by_cases hx : x = 3
    · subst hx
      have e : (if m = 0 then none else some A.length : Option Nat) = if m = 0 then none else some A.length := rfl
      have hr : runsG (fun x => x == 3) (3 :: xs) (A.length + m) (if m = 0 then none else some A.length) = runsG (fun x => x == 3) xs (A.length + (m + 1)) (if m + 1 = 0 then none else some A.length) := by
        by_cases hm : m = 0
        · subst hm; simp [runsG]
        · rw [if_neg hm, if_neg (by omega)]; simp [runsG]; rfl
      rw [hr]
      obtain ⟨i1, i2⟩ := com_eq xs A (m + 1) s (by rw [hs, List.replicate_succ']; simp)
      refine ⟨?_, ?_⟩
      · rw [i1, List.replicate_succ']; simp [z3]
      · rw [i2]; simp [cth]; omega
    · by_cases hm : m = 0
      · subst hm
        have hr : runsG (fun x => x == 3) (x :: xs) (A.length + 0) (if (0 : Nat) = 0 then none else some A.length) = runsG (fun x => x == 3) xs ((A ++ [x]).length + 0) (if (0 : Nat) = 0 then none else some (A ++ [x]).length) := by
          simp [runsG, hx]
        rw [hr]
        obtain ⟨i1, i2⟩ := com_eq xs (A ++ [x]) 0 s (by rw [hs]; simp)
        refine ⟨?_, ?_⟩
        · rw [i1]; simp [z3, hx]
        · rw [i2]; simp [cth, hx]
      · have hr : runsG (fun x => x == 3) (x :: xs) (A.length + m) (if m = 0 then none else some A.length) = (A.length, A.length + m) :: runsG (fun x => x == 3) xs ((A ++ List.replicate m 0 ++ [x]).length + 0) (if (0 : Nat) = 0 then none else some (A ++ List.replicate m 0 ++ [x]).length) := by
          rw [if_neg hm]; simp [runsG, hx]; congr 1
        rw [hr, comL]
        obtain ⟨i1, i2⟩ := com_eq xs (A ++ List.replicate m 0 ++ [x]) 0 (comS s (A.length, A.length + m)) (by
          simp only [comS]
          rw [hs, setR_eq 0 (by simp)]
          simp)
        refine ⟨?_, ?_⟩
        · rw [i1]; simp [z3, hx]
        · rw [i2]; simp [cth, hx, comS]; omega

def stepU (x : Int) : Int := if x = 3 then 0 else if x = 2 then 3 else x
theorem commit_u (s : SP) : (commitS s).u = s.u.map stepU := by
  have := (com_eq s.u [] 0 s (by simp)).1
  simp only [List.length_nil, Nat.zero_add, if_true] at this
  simp only [commitS]
  rw [this]
  simp only [List.replicate_zero, List.nil_append, List.map_map]
  apply List.map_congr_left
  intro x _
  show ripe (z3 x) = stepU x
  by_cases c : x = 3
  · subst c; decide
  · unfold z3 stepU; rw [if_neg c, if_neg c]; rfl
theorem commit_free (s : SP) : (commitS s).free = s.free + cth s.u := by
  have := (com_eq s.u [] 0 s (by simp)).2
  simp only [List.length_nil, Nat.zero_add, if_true] at this
  simp only [commitS]
  rw [this]; simp
theorem zc_step (u : List Int) : zc (u.map stepU) = zc u + cth u := by
  induction u with
  | nil => rfl
  | cons x u ih =>
    simp only [zc, cth] at ih ⊢
    rw [List.map_cons, List.countP_cons, List.countP_cons, List.countP_cons, ih]
    by_cases h3 : x = 3
    · subst h3; simp [stepU]; omega
    · by_cases h2 : x = 2
      · subst h2; simp [stepU]
      · simp only [stepU, if_neg h3, if_neg h2, beq_iff_eq]; omega

end Go.Proofs.Ytbekpkapkaifiaa.T
