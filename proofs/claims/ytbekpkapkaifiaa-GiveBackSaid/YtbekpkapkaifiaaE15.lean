/- A log tells the units: the plain law. -/
import Derived.Test.YtbekpkapkaifiaaE13
import Derived.Test.YtbekpkapkaifiaaE14
set_option linter.unusedVariables false
set_option linter.unusedSimpArgs false
namespace Go.Proofs.Ytbekpkapkaifiaa.T
open Go Go.RowKit Go.Proofs

def bit (x : Int) : Int := if x = 0 then 0 else 1
def LogOk (N : Nat) (s : SP) : Prop := repL (List.replicate N 0) s.log = some (s.u.map bit)

theorem repS_ok {R : List Int} {t : Bool} {a n : Nat} (hn : 1 ≤ n) (h : a + n ≤ R.length) (w : ∀ i, a ≤ i → i < a + n → R[i]? = some (if t = true then 1 else 0)) : repS R (t, (a : Int), ((a + n : Nat) : Int)) = some (setR (if t = true then 0 else 1) R a n) := by
  unfold repS
  simp only [Int.toNat_natCast]
  rw [if_neg (by omega), show a + n - a = n by omega, all_get h w, if_pos (by simp)]

theorem map_bit_setR {v : Int} {u : List Int} {a n : Nat} (h : a + n ≤ u.length) (hv : bit v = 1) (w : ∀ i, a ≤ i → i < a + n → u[i]? = some 1) : (setR v u a n).map bit = u.map bit := by
  apply List.ext_getElem?
  intro i
  rw [List.getElem?_map, List.getElem?_map, setR_get v n a u i h]
  by_cases c : a ≤ i ∧ i < a + n
  · rw [if_pos c, w i c.1 c.2]; simp only [Option.map_some, hv]; rfl
  · rw [if_neg c]

theorem com_step {N : Nat} {s : SP} {A rest : List Int} {m : Nat} (hm : 1 ≤ m) (hs : s.u = A ++ List.replicate m 3 ++ rest) (w : LogOk N s) : LogOk N (comS s (A.length, A.length + m)) := by
  unfold LogOk comS at *
  simp only
  have hl : s.u.length = A.length + m + rest.length := by rw [hs]; simp; omega
  rw [repL_app, w, Option.bind_some, show A.length + m - A.length = m by omega]
  simp only [repL]
  rw [repS_ok (t := true) hm (by simp; omega) (fun i h1 h2 => ?_)]
  · simp only [Option.bind_some, if_true]
    rw [map_setR]; rfl
  · rw [List.getElem?_map, hs, List.append_assoc, List.getElem?_append_right (by omega), List.getElem?_append_left (by simp; omega), List.getElem?_replicate, if_pos (by omega)]
    simp [bit]

theorem com_ok {N : Nat} : ∀ (xs A : List Int) (m : Nat) (s : SP), s.u = A ++ List.replicate m 3 ++ xs → LogOk N s →
    LogOk N (comL s (runsG (fun x => x == 3) xs (A.length + m) (if m = 0 then none else some A.length)))
  | [], A, m, s, hs, w => by
    by_cases hm : m = 0
    · subst hm
      simp only [if_true, runsG, comL]; exact w
    · rw [if_neg hm]
      simp only [runsG, comL]
      exact com_step (by omega) hs w
  | x :: xs, A, m, s, hs, w => by
    by_cases hx : x = 3
    · subst hx
      have hr : runsG (fun x => x == 3) (3 :: xs) (A.length + m) (if m = 0 then none else some A.length) = runsG (fun x => x == 3) xs (A.length + (m + 1)) (if m + 1 = 0 then none else some A.length) := by
        by_cases hm : m = 0
        · subst hm; simp [runsG]
        · rw [if_neg hm, if_neg (by omega)]; simp [runsG]; rfl
      rw [hr]
      exact com_ok xs A (m + 1) s (by rw [hs, List.replicate_succ']; simp) w
    · by_cases hm : m = 0
      · subst hm
        have hr : runsG (fun x => x == 3) (x :: xs) (A.length + 0) (if (0 : Nat) = 0 then none else some A.length) = runsG (fun x => x == 3) xs ((A ++ [x]).length + 0) (if (0 : Nat) = 0 then none else some (A ++ [x]).length) := by
          simp [runsG, hx]
        rw [hr]
        exact com_ok xs (A ++ [x]) 0 s (by rw [hs]; simp) w
      · have hr : runsG (fun x => x == 3) (x :: xs) (A.length + m) (if m = 0 then none else some A.length) = (A.length, A.length + m) :: runsG (fun x => x == 3) xs ((A ++ List.replicate m 0 ++ [x]).length + 0) (if (0 : Nat) = 0 then none else some (A ++ List.replicate m 0 ++ [x]).length) := by
          rw [if_neg hm]; simp [runsG, hx]; congr 1
        rw [hr, comL]
        exact com_ok xs (A ++ List.replicate m 0 ++ [x]) 0 (comS s (A.length, A.length + m)) (by
          simp only [comS]
          rw [hs, setR_eq 0 (by simp)]
          simp) (com_step (by omega) hs w)

theorem doS_log {N : Nat} {s : SP} (ok : Sok N s) (w : LogOk N s) (d : Deed) : LogOk N (doS s d).1 := by
  have k1 := ok.1
  unfold doS
  by_cases c1 : d.k = 1
  · rw [if_pos c1]
    by_cases c : d.n < 1 ∨ d.n > s.u.length
    · unfold takeS; rw [if_pos c]; exact w
    obtain ⟨m, hm⟩ : ∃ m : Nat, d.n = (m : Int) := ⟨d.n.toNat, by omega⟩
    rw [hm, takeS_eq (by omega) (by omega)]
    cases hf : findL m s.u 0 0 with
    | none => exact w
    | some e =>
      obtain ⟨e1, e2, e3⟩ := take_found (by omega) hf
      unfold LogOk at *
      simp only [takeM]
      rw [repL_app, w, Option.bind_some]
      simp only [repL]
      have := repS_ok (R := s.u.map bit) (t := false) (a := e - m) (n := m) (by omega) (by simp; omega) (fun i h1 h2 => by rw [List.getElem?_map, e3 i h1 (by omega)]; rfl)
      rw [show ((e - m : Nat) : Int) = (e : Int) - (m : Int) by omega, show e - m + m = e by omega] at this
      rw [this]
      simp only [Option.bind_some]
      rw [map_setR]; rfl
  rw [if_neg c1]
  by_cases c2 : d.k = 2
  · rw [if_pos c2]
    unfold giveS
    by_cases c : d.a < 0 ∨ d.n < 1 ∨ d.n > s.u.length ∨ d.a > s.u.length - d.n
    · rw [if_pos c]; exact w
    rw [if_neg c]
    by_cases ca : ((s.u.drop d.a.toNat).take d.n.toNat).all (fun x => decide (x = 1)) = true
    · rw [if_pos ca]
      unfold LogOk at *
      simp only
      rw [w, map_bit_setR (by omega) (by decide) (fun i h1 h2 => ?_)]
      have hi : i < s.u.length := by omega
      have hmem : s.u[i] ∈ (s.u.drop d.a.toNat).take d.n.toNat := by
        apply List.mem_of_getElem? (i := i - d.a.toNat)
        rw [List.getElem?_take, if_pos (by omega), List.getElem?_drop, show d.a.toNat + (i - d.a.toNat) = i by omega, List.getElem?_eq_getElem hi]
      have := List.all_eq_true.1 ca _ hmem
      rw [List.getElem?_eq_getElem hi]
      simpa using this
    · rw [if_neg ca]; exact w
  rw [if_neg c2]
  by_cases c3 : d.k = 3
  · rw [if_pos c3]
    have := com_ok s.u [] 0 s (by simp) w
    simp only [List.length_nil, Nat.zero_add, if_true] at this
    unfold LogOk at *
    simp only [commitS]
    rw [this, List.map_map]
    congr 1
    apply List.map_congr_left
    intro x _
    show bit x = bit (ripe x)
    by_cases h2 : x = 2
    · subst h2; decide
    · have hr : ripe x = x := by unfold ripe; rw [if_neg h2]
      rw [hr]
  · rw [if_neg c3]; exact w

theorem freshS_log (N : Nat) : LogOk N (freshS N) := by
  unfold LogOk freshS
  simp [repL, bit]
theorem stP_log {N : Nat} : ∀ {ds : List Deed} {s : SP}, Sok N s → LogOk N s → LogOk N (stP s ds)
  | [], s, _, h => h
  | d :: ds, s, k, h => by
    show LogOk N (stP (doS s d).1 ds)
    exact stP_log (doS_ok k d).1 (doS_log k h d)

theorem runsG_half (p : Int → Bool) : ∀ (xs : List Int) (k : Nat) (st : Option Nat), 2 * (runsG p xs k st).length ≤ xs.length + (if st = none then 1 else 2)
  | [], k, none => by simp [runsG]
  | [], k, some s => by simp [runsG]
  | x :: xs, k, none => by
    simp only [runsG]
    split
    · have := runsG_half p xs (k + 1) (some k); simp at this ⊢; omega
    · have := runsG_half p xs (k + 1) none; simp at this ⊢; omega
  | x :: xs, k, some s => by
    simp only [runsG]
    split
    · have := runsG_half p xs (k + 1) (some s); simp at this ⊢; omega
    · have := runsG_half p xs (k + 1) none; simp at this ⊢; omega
theorem doS_loglen {N : Nat} {s : SP} (ok : Sok N s) (d : Deed) : 2 * (doS s d).1.log.length ≤ 2 * s.log.length + (N + 2) := by
  have k1 := ok.1
  unfold doS
  by_cases c1 : d.k = 1
  · rw [if_pos c1]
    by_cases c : d.n < 1 ∨ d.n > s.u.length
    · unfold takeS; rw [if_pos c]; simp only; omega
    obtain ⟨m, hm⟩ : ∃ m : Nat, d.n = (m : Int) := ⟨d.n.toNat, by omega⟩
    rw [hm, takeS_eq (by omega) (by omega)]
    have := (takeM_ok ok (m := m) (by omega)).2
    omega
  rw [if_neg c1]
  by_cases c2 : d.k = 2
  · rw [if_pos c2]
    unfold giveS
    split
    · simp only; omega
    · split <;> (simp only; omega)
  rw [if_neg c2]
  by_cases c3 : d.k = 3
  · rw [if_pos c3]
    have h1 := com_log (runsG (fun x => x == 3) s.u 0 none) s
    have h2 := runsG_half (fun x => x == 3) s.u 0 none
    simp only [commitS, if_true] at h1 h2 ⊢
    omega
  · rw [if_neg c3]; simp only; omega
theorem stP_loglen {N : Nat} : ∀ {ds : List Deed} {s : SP}, Sok N s → 2 * (stP s ds).log.length ≤ 2 * s.log.length + ds.length * (N + 2)
  | [], s, _ => by simp [stP]
  | d :: ds, s, k => by
    show 2 * (stP (doS s d).1 ds).log.length ≤ _
    have h1 := stP_loglen (ds := ds) (doS_ok k d).1
    have h2 := doS_loglen k d
    rw [List.length_cons, Nat.add_mul]; omega

end Go.Proofs.Ytbekpkapkaifiaa.T
