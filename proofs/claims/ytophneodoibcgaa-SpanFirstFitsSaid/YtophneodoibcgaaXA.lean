/- SpanFirstFits. -/
import Derived.Test.YtophneodoibcgaaX9
set_option linter.unusedVariables false
set_option linter.unusedSimpArgs false
namespace Go.Proofs.Ytophneodoibcgaa.T
open Go Go.RowKit Go.Proofs

theorem firstL_none {n : Int} : ∀ {l : RL}, (∀ r ∈ l, r.2 - r.1 < n) → firstL l n = (0, 6)
  | [], _ => rfl
  | r :: l, h => by
    have := h r List.mem_cons_self
    unfold firstL
    rw [if_neg (by omega), firstL_none fun x hx => h x (List.mem_cons_of_mem _ hx)]
theorem firstL_first {n : Int} : ∀ {l : RL} (_ : Cn l) {r : Int × Int}, r ∈ l → r.2 - r.1 ≥ n → (∀ p ∈ l, p.1 + n ≤ r.1 → p.2 - p.1 < n) → firstL l n = (r.1, 0)
  | [], _, r, h, _, _ => by cases h
  | p :: l, c, r, h, hl, hp => by
    unfold firstL
    by_cases t : p.2 - p.1 ≥ n
    · rw [if_pos t]
      rcases List.mem_cons.1 h with rfl | h
      · rfl
      · have := (List.pairwise_cons.1 c.sep).1 r h
        have := hp p List.mem_cons_self (by omega)
        omega
    · rw [if_neg t]
      rcases List.mem_cons.1 h with rfl | h
      · exact absurd hl t
      · exact firstL_first c.tail h hl fun q hq => hp q (List.mem_cons_of_mem _ hq)

/-- Members in a row lie in one range. -/
theorem row_range {l : RL} (c : Cn l) {a : Int} : ∀ (n : Nat), (∀ j, a ≤ j → j ≤ a + n → Hs l j) → ∃ r ∈ l, r.1 ≤ a ∧ a + n < r.2
  | 0, h => by
    obtain ⟨r, hr, q⟩ := h a (Int.le_refl _) (by omega)
    exact ⟨r, hr, q.1, by omega⟩
  | n + 1, h => by
    obtain ⟨r, hr, q1, q2⟩ := row_range c n fun j h1 h2 => h j h1 (by omega)
    obtain ⟨s, hs, z1, z2⟩ := h (a + (n + 1 : Nat)) (by omega) (by omega)
    obtain ⟨i, hi, rfl⟩ := List.getElem_of_mem hr
    obtain ⟨j, hj, rfl⟩ := List.getElem_of_mem hs
    have pw := List.pairwise_iff_getElem.1 c.sep
    rcases Nat.lt_trichotomy i j with t | t | t
    · have := pw i j hi hj t; omega
    · subst t; exact ⟨_, hr, q1, z2⟩
    · have := pw j i hj hi t
      have := (c.ok _ hr); omega

/-- So many members just below i. -/
structure RowI (S : RL) (k : Int) (i row : Int) : Prop where
  lo : 0 ≤ row ∧ row ≤ i ∧ row < k
  mem : ∀ j, i - row ≤ j → j < i → Hs S j
  cut : row = i ∨ ¬ Hs S (i - row - 1)
  short : ∀ r ∈ S, r.1 + k ≤ i → r.2 - r.1 < k

theorem fits_loop {f lf : Nat} (hf : 1200 ≤ f) {h0 : AHeap} {n0 : Nat} {a : Option (Nat × Nat)} {c : Option Nat} {S : RL} {m : Nat} (hm : m ≤ 100) (w : Set' 360 m S) (s : RS h0 n0 a S) {k : Int} (hk : 1 ≤ k ∧ k ≤ 80) (d : Nat) :
    ∀ (q i : Nat) (row : Int) (h : AHeap) (nx : Nat), i + d = 400 → d < q → RowI S k i row → Ext h0 n0 h nx →
      ∃ h' nx', F6_L1 (callP Try.prog keepT f) Y0 lf q a S.length c k (firstL S k).1 (firstL S k).2 row (i : Int) h nx = some (.bool true, h', nx') := by
  have wm : Set' MAXC m S := ⟨w.c, fun r hr => by have := w.b r hr; have hM : MAXC = 1048576 := rfl; omega, w.n⟩
  induction d with
  | zero =>
    intro q i row h nx e hq I x
    obtain ⟨q, rfl⟩ : ∃ m, q = m + 1 := ⟨q - 1, by omega⟩
    rw [F6_L1_eq, if_neg (by rw [decide_eq_true_eq]; omega), firstL_none (l := S) (n := k) fun r hr => ?_]
    · rw [if_pos (by decide)]
      exact ⟨_, _, rfl⟩
    · have h1 := w.b r hr
      by_cases t : r.1 + k ≤ i
      · exact I.short r hr t
      · omega
  | succ d ih =>
    intro q i row h nx e hq I x
    obtain ⟨q, rfl⟩ : ∃ m, q = m + 1 := ⟨q - 1, by omega⟩
    have hx1 := x.1
    have hlo := I.lo
    obtain ⟨b, h1, n1, r1, hb, x1⟩ := has_spec (f := f) hf Y0 c (by omega) wm (i : Int) (nx := nx + 5) (s.ext (x.le (by omega)))
    have hx2 := x1.1
    have x' : ∀ N, n1 ≤ N → Ext h0 n0 h1 N := fun N hN => ⟨by omega, fun j hj => (x1.2 j (by omega)).trans (x.2 j hj)⟩
    rw [F6_L1_eq, if_pos (decide_eq_true (by omega)), r1]
    simp only [mst_]
    by_cases hbt : b = true
    · have hi := hb.1 hbt
      rw [if_pos hbt, wA (x := row + 1) (by omega) (by omega), F6_J2_eq]
      have mem' : ∀ j, (i : Int) + 1 - (row + 1) ≤ j → j < (i : Int) + 1 → Hs S j := fun j h1 h2 => by
        by_cases ej : j = i
        · subst ej; exact hi
        · exact I.mem j (by omega) (by omega)
      have cut' : row + 1 = (i : Int) + 1 ∨ ¬ Hs S ((i : Int) + 1 - (row + 1) - 1) := by
        rcases I.cut with t | t
        · left; omega
        · right; rw [show (i : Int) + 1 - (row + 1) - 1 = i - row - 1 by omega]; exact t
      by_cases t : row + 1 = k
      · rw [if_pos (show (row + 1 == k) = true by rw [t]; exact beq_self_eq_true _)]
        obtain ⟨r, hr, z1, z2⟩ := row_range w.c (a := (i : Int) - row) row.toNat fun j h1 h2 => mem' j (by omega) (by omega)
        have hr1 : r.1 = (i : Int) - row := by
          rcases I.cut with t2 | t2
          · have := (w.c.ok r hr).1; omega
          · by_cases t3 : r.1 = (i : Int) - row
            · exact t3
            · exact absurd ⟨r, hr, by omega, by omega⟩ t2
        rw [firstL_first w.c hr (by omega) fun p hp hpr => I.short p hp (by omega)]
        rw [if_pos (by rfl), wA (x := (i : Int) - k) (by omega) (by omega), wA (x := (i : Int) - k + 1) (by omega) (by omega)]
        rw [show (r.1 == (i : Int) - k + 1) = true by rw [beq_iff_eq]; omega]
        exact ⟨h1, _, rfl⟩
      · rw [if_neg (show ¬ (row + 1 == k) = true by simpa using t), wsucc (by omega)]
        refine ih q (i + 1) (row + 1) h1 _ (by omega) (by omega) ⟨by omega, fun j h1 h2 => mem' j (by omega) (by omega), by simpa using cut', fun r hr hrk => ?_⟩ (x' _ (by omega))
        by_cases t2 : r.1 + k ≤ i
        · exact I.short r hr t2
        · by_cases t3 : r.2 - r.1 < k
          · exact t3
          · exfalso
            have h0 := (w.c.ok r hr).1
            rcases cut' with t4 | t4
            · omega
            · exact t4 ⟨r, hr, by omega, by omega⟩
    · have hi : ¬ Hs S (i : Int) := fun q => hbt (hb.2 q)
      rw [if_neg hbt, F6_J2_eq, if_neg (show ¬ ((0 : Int) == k) = true by rw [beq_iff_eq]; omega), wsucc (by omega)]
      refine ih q (i + 1) 0 h1 _ (by omega) (by omega) ⟨by omega, fun j h1 h2 => by omega, .inr (by rw [show ((i + 1 : Nat) : Int) - 0 - 1 = i by omega]; exact hi), fun r hr hrk => ?_⟩ (x' _ (by omega))
      by_cases t2 : r.1 + k ≤ i
      · exact I.short r hr t2
      · by_cases t3 : r.2 - r.1 < k
        · exact t3
        · exact absurd ⟨r, hr, by omega, by omega⟩ hi

theorem SpanFirstFits_run (h : AHeap) (nx : Nat) (L : List Int) (hL : L.length * 8 ≤ 140737488351232) (_ : ∀ n ∈ L, (Lit.int .i64 n).wf = true) (a : Option (Nat × Nat)) (s : Sl h nx a L.length 1 (L.map (AV.int .i64))) (n : Int) (_ : (Lit.int .i64 n).wf = true) :
    ∃ f h' nx', callP Try.prog keepT f Y0 6 [.slice a L.length none, .int .i64 n] h nx = some (.bool true, h', nx') := by
  refine ⟨2001, ?_⟩
  rw [F6_eq]
  obtain ⟨oa, oc, h1, n1, r1, w1, x1⟩ := set_spec (f := 2000) (by omega) Y0 none (n := 12) (nx := nx + 8) (by omega) (L := L) (s.ext ⟨by omega, fun _ _ => rfl⟩) (by omega)
  rw [show ((12 : Nat) : Int) = 12 from rfl] at r1
  rw [r1]
  simp only [mst_]
  have hl : ((pairsL L).take 12).length ≤ 12 := by rw [List.length_take]; omega
  have ws := (setL_ok 360 (by decide) ((pairsL L).take 12)).1
  have wm := setL_max ((pairsL L).take 12)
  generalize setL ((pairsL L).take 12) = S at *
  have hk := pickL_in (x := n) (n := 80) (by decide)
  rw [picked_spec (by omega) Y0 n 80 (by decide) (by decide)]
  simp only [mst_]
  rw [wA (x := 1 + pickL n 80) (by omega) (by omega)]
  generalize pickL n 80 = p at *
  obtain ⟨h2, n2, r2, x2⟩ := first_spec (f := 2000) (by omega) Y0 oc (by omega) wm (n := 1 + p) (by omega) (nx := n1 + 4 + pickK n 80 + 8) (w1.sl.ext ⟨by omega, fun _ _ => rfl⟩)
  have hx2 := x2.1
  rw [r2]
  simp only [mst_]
  exact fits_loop (f := 2000) (lf := 2000) (by omega) (c := oc) (by omega) ws (w1.sl.ext (nx' := n2 + 4) ⟨by omega, fun j hj => x2.2 j (by omega)⟩) (k := 1 + p) (by omega) 400 2000 0 0 h2 (n2 + 4) (by omega) (by omega)
    ⟨by omega, fun j h1 h2 => by omega, .inl rfl, fun r hr hrk => by have := (ws.c.ok r hr).1; omega⟩ ⟨Nat.le_refl _, fun _ _ => rfl⟩

end Go.Proofs.Ytophneodoibcgaa.T
