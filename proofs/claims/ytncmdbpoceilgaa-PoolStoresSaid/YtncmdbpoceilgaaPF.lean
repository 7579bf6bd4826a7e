/- Pools: plain law of stores. -/
import Derived.Test.YtncmdbpoceilgaaPE
set_option linter.unusedVariables false
set_option linter.unusedSimpArgs false
namespace Go.Proofs.Ytncmdbpoceilgaa.T
open Go Go.RowKit Go.Proofs
set_option maxRecDepth 10000
variable {β : Type}

theorem playP_append : ∀ (l1 l2 : List Cmd) (s : Pl), playP s (l1 ++ l2) = playP s l1 ++ playP (endP s l1) l2
  | [], _, _ => rfl
  | c :: l1, l2, s => by simp [playP, endP, playP_append l1 l2]
theorem endP_append : ∀ (l1 l2 : List Cmd) (s : Pl), endP s (l1 ++ l2) = endP (endP s l1) l2
  | [], _, _ => rfl
  | c :: l1, l2, s => by simp [endP, endP_append l1 l2]
theorem endP_ok : ∀ (l : List Cmd) {s : Pl}, s.Ok → (endP s l).Ok
  | [], _, w => w
  | c :: l, _, w => endP_ok l (step_ok w c)
theorem getO_set {k : ByteArray} {v : β} : ∀ {l : List (ByteArray × β)}, getO k (setO k v l) = some v
  | [] => by simp [setO, getO]
  | p :: l => by
    unfold setO
    by_cases q : p.1 = k
    · simp [q, getO]
    · simp [q, getO, getO_set]
theorem step_obj {s : Pl} {c : Cmd} (hk : c.kind = 2 ∨ c.kind = 3 ∨ c.kind = 4 ∨ c.kind = 5) : (∀ x, getO c.name s.obj = some x → stepP s c = objectP s x c) ∧ (getO c.name s.obj = none → stepP s c = (noT 6, s)) := by
  have h1 : ¬ c.kind = 1 := by omega
  have h6 : ¬ c.kind = 6 := by omega
  have h11 : ¬ c.kind = 11 := by omega
  have hs : ¬ (c.kind = 7 ∨ c.kind = 8 ∨ c.kind = 9 ∨ c.kind = 10) := by omega
  refine ⟨fun x hx => ?_, fun hx => ?_⟩
  · unfold stepP; rw [if_neg h1, if_neg h6, if_neg h11, if_neg hs, if_pos hk, hx]
  · unfold stepP; rw [if_neg h1, if_neg h6, if_neg h11, if_neg hs, if_pos hk, hx]

/-- The bytes behind a store. -/
theorem writeP_get (x d : List Int) (o i : Nat) (hi : i < max x.length (o + d.length)) : (writeP x o d)[i]? = some (if o ≤ i ∧ i < o + d.length then d.getD (i - o) 0 else if i < x.length then x.getD i 0 else 0) := by
  have hwl := wideP_len x (o + d.length)
  have hw : ∀ j, j < max x.length (o + d.length) → (wideP x (o + d.length))[j]? = some (if j < x.length then x.getD j 0 else 0) := fun j hj => by
    unfold wideP
    by_cases c : j < x.length
    · rw [List.getElem?_append_left c, if_pos c, List.getElem?_eq_getElem c, List.getD_eq_getElem?_getD, List.getElem?_eq_getElem c]; rfl
    · rw [List.getElem?_append_right (by omega), if_neg c, List.getElem?_replicate, if_pos (by omega)]
  unfold writeP
  by_cases c1 : i < o
  · rw [List.append_assoc, List.getElem?_append_left (by simp; omega), List.getElem?_take, if_pos c1, hw i (by omega), if_neg (show ¬ (o ≤ i ∧ i < o + d.length) by omega)]
  · by_cases c2 : i < o + d.length
    · have hd : i - o < d.length := by omega
      rw [if_pos ⟨by omega, c2⟩, List.getElem?_append_left (by simp; omega), List.getElem?_append_right (by simp; omega)]
      rw [show i - ((wideP x (o + d.length)).take o).length = i - o from by simp; omega, List.getElem?_eq_getElem hd, List.getD_eq_getElem?_getD, List.getElem?_eq_getElem hd]; rfl
    · rw [if_neg (show ¬ (o ≤ i ∧ i < o + d.length) by omega), List.getElem?_append_right (by simp; omega), List.getElem?_drop]
      rw [show o + d.length + (i - ((wideP x (o + d.length)).take o ++ d).length) = i from by simp; omega]
      exact hw i hi

/-- Fetch, store, fetch. -/
theorem stores {s : Pl} (w : s.Ok) (k : ByteArray) (d : List Int) (o : Nat) (hd : 1 ≤ d.length ∧ d.length ≤ 400) (ho : o + d.length ≤ 1024) :
    (getO k s.obj = none → playP s [⟨3, k, nE, 0, 2000, []⟩, ⟨2, k, nE, (o : Int), 0, d⟩, ⟨3, k, nE, 0, 2000, []⟩] = [noT 6, noT 6, noT 6]) ∧
    ∀ x, getO k s.obj = some x → playP s [⟨3, k, nE, 0, 2000, []⟩, ⟨2, k, nE, (o : Int), 0, d⟩, ⟨3, k, nE, 0, 2000, []⟩] = [⟨0, x.length, x, []⟩, ⟨0, (writeP x o d).length, [], []⟩, ⟨0, (writeP x o d).length, writeP x o d, []⟩] := by
  refine ⟨fun hx => ?_, fun x hx => ?_⟩
  · have e1 := (step_obj (s := s) (c := ⟨3, k, nE, 0, 2000, []⟩) (by simp)).2 hx
    have e2 := (step_obj (s := s) (c := ⟨2, k, nE, (o : Int), 0, d⟩) (by simp)).2 hx
    simp only [playP]
    rw [e1]
    simp only
    rw [e2]
    simp only
    rw [e1]
  · have hl := (w.obj _ (getO_mem hx)).2
    simp only at hl
    have ft : ∀ y : List Int, y.length ≤ 1024 → fetchP y ⟨3, k, nE, 0, 2000, []⟩ = ⟨0, y.length, y, []⟩ := fun y hy => by
      unfold fetchP
      rw [if_neg (by simp), if_neg (by simp)]
      show (⟨0, _, (y.drop 0).take 2000, []⟩ : Tld) = _
      rw [List.drop_zero, List.take_of_length_le (by omega)]
    have e1 := (step_obj (s := s) (c := ⟨3, k, nE, 0, 2000, []⟩) (by simp)).1 x hx
    have e2 := (step_obj (s := s) (c := ⟨2, k, nE, (o : Int), 0, d⟩) (by simp)).1 x hx
    have f1 : objectP s x ⟨3, k, nE, 0, 2000, []⟩ = (⟨0, x.length, x, []⟩, s) := by unfold objectP; rw [if_pos rfl, ft x hl]
    have f2 : objectP s x ⟨2, k, nE, (o : Int), 0, d⟩ = (⟨0, (writeP x o d).length, [], []⟩, { s with obj := setO k (writeP x o d) s.obj }) := by
      unfold objectP
      rw [if_neg (by simp), if_neg (by simp), if_pos rfl, if_neg (show ¬ d.length = 0 by omega), if_neg (show ¬ d.length > 400 by omega), if_neg (show ¬ (o : Int) < 0 by omega), if_neg (show ¬ (o : Int) > 1024 - (d.length : Int) by omega)]
      simp only [Int.toNat_natCast]
    have hy : (writeP x o d).length ≤ 1024 := by rw [writeP_len]; omega
    have e3 := (step_obj (s := { s with obj := setO k (writeP x o d) s.obj }) (c := ⟨3, k, nE, 0, 2000, []⟩) (by simp)).1 (writeP x o d) getO_set
    have f3 : objectP { s with obj := setO k (writeP x o d) s.obj } (writeP x o d) ⟨3, k, nE, 0, 2000, []⟩ = (⟨0, (writeP x o d).length, writeP x o d, []⟩, { s with obj := setO k (writeP x o d) s.obj }) := by unfold objectP; rw [if_pos rfl, ft _ hy]
    simp only [playP]
    rw [e1, f1]
    simp only
    rw [e2, f2]
    simp only
    rw [e3, f3]
end Go.Proofs.Ytncmdbpoceilgaa.T
