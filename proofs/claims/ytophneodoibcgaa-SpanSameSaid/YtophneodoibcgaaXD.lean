/- SpanSame. -/
import Derived.Test.YtophneodoibcgaaX9
set_option linter.unusedVariables false
set_option linter.unusedSimpArgs false
namespace Go.Proofs.Ytophneodoibcgaa.T
open Go Go.RowKit Go.Proofs

/-- Numbers of pairs, one by one. -/
def flatP (ps : RL) : List Int := (ps.map fun p => [p.1, p.2]).flatten
theorem flatP_cons (p : Int × Int) (ps : RL) : flatP (p :: ps) = p.1 :: p.2 :: flatP ps := rfl
theorem flatP_app (a b : RL) : flatP (a ++ b) = flatP a ++ flatP b := by unfold flatP; simp
theorem flatP_len (ps : RL) : (flatP ps).length = 2 * ps.length := by
  induction ps with
  | nil => rfl
  | cons p ps ih => rw [flatP_cons]; simp only [List.length_cons, ih]; omega
theorem pairs_flatP : ∀ ps : RL, pairsL (flatP ps) = ps
  | [] => rfl
  | p :: ps => by rw [flatP_cons, pairsL, pairs_flatP ps]
theorem flatP_get (ps : RL) (i : Nat) (h : i < ps.length) : (flatP ps)[2 * i]? = some ps[i].1 ∧ (flatP ps)[2 * i + 1]? = some ps[i].2 := by
  induction ps generalizing i with
  | nil => simp at h
  | cons p ps ih =>
    rw [flatP_cons]
    cases i with
    | zero => exact ⟨rfl, rfl⟩
    | succ i =>
      have := ih i (by simpa using h)
      rw [show 2 * (i + 1) = 2 * i + 1 + 1 by omega, show 2 * i + 1 + 1 + 1 = (2 * i + 1) + 1 + 1 by omega]
      simpa using this

theorem ints_app (a b : List Int) : ints .i64 (a ++ b) = ints .i64 a ++ ints .i64 b := by unfold ints; simp

theorem appD_ids {h : AHeap} {a : Option (Nat × Nat)} {n : Nat} {c : Option Nat} {es bytes id : Nat} {q : Nat × List AV × List Nat} {e : AE} (he : appD h a n c es bytes id q = some e) : ∀ x ∈ idsOf e.sets, ownOf a x ∨ x = id := by
  unfold appD at he
  split at he
  · obtain rfl := Option.some.inj he; intro x hx; cases hx
  · split at he
    · cases a with
      | none => obtain rfl := Option.some.inj he; intro x hx; simp [idsOf] at hx; exact .inr hx
      | some p =>
        obtain ⟨b, _, he⟩ := Option.bind_eq_some_iff.1 he
        repeat' split at he
        all_goals first
          | (cases he; done)
          | (obtain rfl := Option.some.inj he
             intro x hx
             simp [idsOf] at hx
             rcases hx with rfl | rfl
             · exact .inl ⟨p.2, rfl⟩
             · exact .inr rfl)
          | (obtain rfl := Option.some.inj he
             intro x hx
             simp [idsOf] at hx
             subst hx
             first
               | exact .inr rfl
               | exact .inl ⟨p.2, rfl⟩)
    · cases he

/-- The first loop: the pairs are copied. -/
theorem pairs_loop {f lf : Nat} {P : Option Res → Prop} {h0 : AHeap} {n0 : Nat} {a : Option (Nat × Nat)} {c : Option Nat} {L : List Int} {x1 : Int} (s : Sl h0 n0 a L.length 1 (ints .i64 L)) (hL : L.length ≤ 100000000000000)
    (next : ∀ (h : AHeap) (nx : Nat) (oa : Option (Nat × Nat)) (oc : Option Nat), Ext h0 n0 h nx → OwnSl h n0 nx oa (flatP ((pairsL L).take 12)).length 1 (ints .i64 (flatP ((pairsL L).take 12))) →
      P (F3_J3 (callP Try.prog keepT f) Y0 lf x1 oa (flatP ((pairsL L).take 12)).length oc h nx)) (d : Nat) :
    ∀ (q i : Nat) (h : AHeap) (nx : Nat) (oa : Option (Nat × Nat)) (oc : Option Nat), i + d = 12 → i ≤ (pairsL L).length → d < q → Ext h0 n0 h nx → OwnSl h n0 nx oa (flatP ((pairsL L).take i)).length 1 (ints .i64 (flatP ((pairsL L).take i))) →
      P (F3_L1 (callP Try.prog keepT f) Y0 lf q a L.length c x1 oa (flatP ((pairsL L).take i)).length oc ((2 * i : Nat) : Int) h nx) := by
  have hpl := pairsL_len L
  induction d with
  | zero =>
    intro q i h nx oa oc e hi hq x w
    obtain ⟨q, rfl⟩ : ∃ m, q = m + 1 := ⟨q - 1, by omega⟩
    obtain rfl : i = 12 := by omega
    rw [F3_L1_eq, wsucc (by omega)]
    by_cases c1 : 2 * 12 + 1 < L.length
    · rw [if_pos (decide_eq_true (by omega)), if_neg (by rw [decide_eq_true_eq]; omega)]
      exact next h _ oa oc (x.le (by omega)) (w.le (by omega))
    · rw [if_neg (by rw [decide_eq_true_eq]; omega)]
      exact next h _ oa oc (x.le (by omega)) (w.le (by omega))
  | succ d ih =>
    intro q i h nx oa oc e hi hq x w
    obtain ⟨q, rfl⟩ : ∃ m, q = m + 1 := ⟨q - 1, by omega⟩
    have hx1 := x.1
    rw [F3_L1_eq, wsucc (by omega)]
    by_cases c1 : 2 * i + 1 < L.length
    · rw [if_pos (decide_eq_true (by omega)), if_pos (decide_eq_true (by omega)), F3_J2_eq]
      have sx := s.ext x
      have g0 : (ints .i64 L)[2 * i * 1]? = some (.int .i64 L[2 * i]) := ints_get (by omega)
      have g1 : (ints .i64 L)[(2 * i + 1) * 1]? = some (.int .i64 L[2 * i + 1]) := ints_get c1
      rw [sx.read0 (i := ((2 * i : Nat) : Int)) (v := .int .i64 L[2 * i]) (by omega) (by omega) (by omega) (by rw [Int.toNat_natCast]; exact g0)]
      simp only [mst_]
      rw [wsucc (by omega), sx.read0 (i := ((2 * i + 1 : Nat) : Int)) (v := .int .i64 L[2 * i + 1]) (by omega) (by omega) (by omega) (by rw [Int.toNat_natCast]; exact g1)]
      simp only [mst_]
      have hp := pairsL_get L i c1
      have htk : (pairsL L).take (i + 1) = (pairsL L).take i ++ [(L[2 * i], L[2 * i + 1])] := by rw [List.take_add_one, hp]; rfl
      have hfl := flatP_len ((pairsL L).take i)
      have htl : ((pairsL L).take i).length ≤ 12 := by rw [List.length_take]; omega
      have src : srcS (h.put (nx + 9 + 10) (some ⟨[.int .i64 L[2 * i], .int .i64 L[2 * i + 1]], 1, true⟩)) (some (nx + 9 + 10, 0)) 2 1 = some (2, [.int .i64 L[2 * i], .int .i64 L[2 * i + 1]], [nx + 9 + 10]) := by simp [srcS]
      rw [src]
      simp only [mst_]
      obtain ⟨e3, p1, p2, p3, p4⟩ := (w.put (id := nx + 9 + 10) (b := some ⟨[.int .i64 L[2 * i], .int .i64 L[2 * i + 1]], 1, true⟩) (nx' := nx + 9 + 11) (by omega) (by omega)).append (c := oc) (bytes := 8) (id := nx + 9 + 11) (k := 2) (ws := [.int .i64 L[2 * i], .int .i64 L[2 * i + 1]]) (rd := [nx + 9 + 10]) (by decide) rfl (growOk_of (by omega) (by omega)) (by omega) (by omega)
      rw [p1]
      simp only [mst_]
      have hl2 : (flatP ((pairsL L).take i)).length + 2 = (flatP ((pairsL L).take (i + 1))).length := by rw [htk, flatP_app, List.length_append]; rfl
      have hf2 : ints .i64 (flatP ((pairsL L).take i)) ++ [.int .i64 L[2 * i], .int .i64 L[2 * i + 1]] = ints .i64 (flatP ((pairsL L).take (i + 1))) := by rw [htk, flatP_app, ints_app]; rfl
      rw [hl2] at p2 p3
      rw [hf2] at p3
      rw [p2, wA (x := ((2 * i : Nat) : Int) + 2) (by omega) (by omega), show ((2 * i : Nat) : Int) + 2 = ((2 * (i + 1) : Nat) : Int) by omega]
      refine ih q (i + 1) _ _ e3.a e3.c (by omega) (by omega) (by omega) ⟨by omega, fun j hj => ?_⟩ (p3.le (by omega))
      rw [p4.2 j hj, put_ne (by omega)]; exact x.2 j hj
    · rw [if_neg (by rw [decide_eq_true_eq]; omega)]
      have ht : (pairsL L).take i = (pairsL L).take 12 := by rw [List.take_of_length_le (by omega), List.take_of_length_le (by omega)]
      rw [ht] at w ⊢
      exact next h _ oa oc (x.le (by omega)) (w.le (by omega))

/-- What is picked in the second loop: the list is turned, and is laid from behind. -/
def turnAt (n : Nat) (t : Int) (i : Nat) : Nat := ((i : Int) + pickL t n).toNat % n
def turned (ps : RL) (t : Int) : Nat → RL
  | 0 => []
  | i + 1 => (ps[turnAt ps.length t i]?).toList ++ turned ps t i
theorem turnAt_lt {n : Nat} (h : 0 < n) (t : Int) (i : Nat) : turnAt n t i < n := Nat.mod_lt _ h
theorem turned_mem {ps : RL} {t : Int} : ∀ {i : Nat} {p : Int × Int}, p ∈ turned ps t i → p ∈ ps
  | 0, p, h => by cases h
  | i + 1, p, h => by
    rcases List.mem_append.1 h with h | h
    · cases e : ps[turnAt ps.length t i]? with
      | none => rw [e] at h; cases h
      | some q => rw [e] at h; simp at h; subst h; exact List.mem_of_getElem? e
    · exact turned_mem h
theorem turned_has {ps : RL} {t : Int} {i j : Nat} (h : j < i) {p : Int × Int} (e : ps[turnAt ps.length t j]? = some p) : p ∈ turned ps t i := by
  induction i with
  | zero => omega
  | succ i ih =>
    by_cases c : j = i
    · subst c; exact List.mem_append_left _ (by rw [e]; simp)
    · exact List.mem_append_right _ (ih (by omega))
theorem turned_len {ps : RL} {t : Int} (h : 0 < ps.length) : ∀ i, (turned ps t i).length = i
  | 0 => rfl
  | i + 1 => by
    have := turnAt_lt h t i
    show ((ps[turnAt ps.length t i]?).toList ++ turned ps t i).length = _
    rw [List.getElem?_eq_getElem this, List.length_append, turned_len h i]; simp; omega
/-- All are picked. -/
theorem turned_all {ps : RL} (t : Int) {p : Int × Int} (hp : p ∈ ps) : p ∈ turned ps t ps.length := by
  obtain ⟨k, hk, rfl⟩ := List.getElem_of_mem hp
  have hn : 0 < ps.length := by omega
  have hpk := pickL_in (x := t) (n := (ps.length : Int)) (by omega)
  obtain ⟨r, hr⟩ : ∃ r : Nat, pickL t ps.length = r := ⟨(pickL t ps.length).toNat, by omega⟩
  refine turned_has (j := (k + ps.length - r) % ps.length) (Nat.mod_lt _ hn) ?_
  have : turnAt ps.length t ((k + ps.length - r) % ps.length) = k := by
    unfold turnAt
    rw [hr, show ((((k + ps.length - r) % ps.length : Nat) : Int) + (r : Int)).toNat = (k + ps.length - r) % ps.length + r by omega, Nat.mod_add_mod, show k + ps.length - r + r = k + ps.length by omega, Nat.add_mod_right, Nat.mod_eq_of_lt hk]
  rw [this]; exact List.getElem?_eq_getElem hk

theorem same_loop4 {f lf : Nat} (hf : 1 ≤ f) {P : Option Res → Prop} {h0 : AHeap} {n0 : Nat} {a : Option (Nat × Nat)} {c : Option Nat} {ps : RL} {x1 : Int} (hps : ps.length ≤ 12) (s : Sl h0 n0 a (flatP ps).length 1 (ints .i64 (flatP ps)))
    (next : ∀ (q : Nat) (h : AHeap) (nx : Nat) (oa : Option (Nat × Nat)) (oc : Option Nat), Ext h0 n0 h nx → OwnSl h n0 nx oa (flatP (turned ps x1 ps.length)).length 1 (ints .i64 (flatP (turned ps x1 ps.length))) →
      P (F3_L4 (callP Try.prog keepT f) Y0 lf (q + 1) x1 a (flatP ps).length c oa (flatP (turned ps x1 ps.length)).length oc (ps.length : Int) (ps.length : Int) h nx)) (d : Nat) :
    ∀ (q i : Nat) (h : AHeap) (nx : Nat) (oa : Option (Nat × Nat)) (oc : Option Nat), i + d = ps.length → d < q → Ext h0 n0 h nx → OwnSl h n0 nx oa (flatP (turned ps x1 i)).length 1 (ints .i64 (flatP (turned ps x1 i))) →
      P (F3_L4 (callP Try.prog keepT f) Y0 lf q x1 a (flatP ps).length c oa (flatP (turned ps x1 i)).length oc (ps.length : Int) (i : Int) h nx) := by
  induction d with
  | zero =>
    intro q i h nx oa oc e hq x w
    obtain ⟨q, rfl⟩ : ∃ m, q = m + 1 := ⟨q - 1, by omega⟩
    obtain rfl : i = ps.length := by omega
    exact next q h nx oa oc x w
  | succ d ih =>
    intro q i h nx oa oc e hq x w
    obtain ⟨q, rfl⟩ : ∃ m, q = m + 1 := ⟨q - 1, by omega⟩
    have hx1 := x.1
    have hn : 0 < ps.length := by omega
    have hpk := pickL_in (x := x1) (n := (ps.length : Int)) (by omega)
    have hat := turnAt_lt hn x1 i
    have hidx : Int.tmod ((i : Int) + pickL x1 (ps.length : Int)) (ps.length : Int) = (turnAt ps.length x1 i : Int) := by
      unfold turnAt
      rw [Int.tmod_eq_emod_of_nonneg (by omega)]
      obtain ⟨r, hr⟩ : ∃ r : Nat, (i : Int) + pickL x1 ps.length = r := ⟨((i : Int) + pickL x1 ps.length).toNat, by omega⟩
      rw [hr, Int.toNat_natCast]
      rfl
    obtain ⟨g0, g1⟩ := flatP_get ps (turnAt ps.length x1 i) hat
    have hfl := flatP_len ps
    have hps1 : turned ps x1 (i + 1) = ps[turnAt ps.length x1 i] :: turned ps x1 i := by
      show (ps[turnAt ps.length x1 i]?).toList ++ turned ps x1 i = _
      rw [List.getElem?_eq_getElem hat]; rfl
    have hft := flatP_len (turned ps x1 i)
    have htl := turned_len (t := x1) hn i
    rw [F3_L4_eq, if_pos (decide_eq_true (by omega)), picked_spec hf Y0 x1 (ps.length : Int) (by omega) (by omega)]
    simp only [mst_]
    rw [if_neg (show ¬ (ps.length : Int) = 0 by omega), wA (x := (i : Int) + pickL x1 (ps.length : Int)) (by omega) (by omega), hidx]
    generalize turnAt ps.length x1 i = k at *
    rw [wA (x := 2 * (k : Int)) (by omega) (by omega), show 2 * (k : Int) = ((2 * k : Nat) : Int) by omega, wsucc (by omega)]
    have sx := s.ext x
    rw [sx.read0 (i := ((2 * k : Nat) : Int)) (v := .int .i64 ps[k].1) (by omega) (by omega) (by omega) (by rw [Int.toNat_natCast, Nat.mul_one]; unfold ints; rw [List.getElem?_map, g0]; rfl)]
    simp only [mst_]
    rw [sx.read0 (i := ((2 * k + 1 : Nat) : Int)) (v := .int .i64 ps[k].2) (by omega) (by omega) (by omega) (by rw [Int.toNat_natCast, Nat.mul_one]; unfold ints; rw [List.getElem?_map, g1]; rfl)]
    simp only [mst_]
    generalize hN : nx + 11 + pickK x1 (ps.length : Int) = N
    obtain ⟨h9, hh9⟩ : ∃ h9, h9 = h.put (N + 11) (some ⟨[.int .i64 ps[k].1, .int .i64 ps[k].2], 1, true⟩) := ⟨_, rfl⟩
    rw [← hh9]
    have w9 : OwnSl h9 n0 (N + 12) oa (flatP (turned ps x1 i)).length 1 (ints .i64 (flatP (turned ps x1 i))) := by rw [hh9]; exact w.put (by omega) (by omega)
    obtain ⟨rd, src⟩ := w9.sl.src'
    rw [src]
    simp only [mst_]
    have wn : OwnSl h9 n0 (N + 12) (some (N + 11, 0)) 2 1 [.int .i64 ps[k].1, .int .i64 ps[k].2] := ⟨rfl, .inr ⟨N + 11, rfl, by omega, by omega, by rw [hh9, put_same]⟩⟩
    obtain ⟨e11, p1, p2, p3, p4, _⟩ := wn.appendS (some 2) (bytes := 8) (id := N + 13) (k := (flatP (turned ps x1 i)).length) (ws := ints .i64 (flatP (turned ps x1 i))) (rd := rd) w9.1 (growOk_of (by omega) (by omega)) (by omega) (by omega)
    rw [p1]
    simp only [mst_]
    have hl2 : 2 + (flatP (turned ps x1 i)).length = (flatP (turned ps x1 (i + 1))).length := by rw [hps1, flatP_cons]; simp only [List.length_cons]; omega
    have hf2 : [.int .i64 ps[k].1, .int .i64 ps[k].2] ++ ints .i64 (flatP (turned ps x1 i)) = ints .i64 (flatP (turned ps x1 (i + 1))) := by rw [hps1, flatP_cons]; rfl
    rw [hl2] at p2 p3
    rw [hf2] at p3
    rw [p2, wsucc (by omega)]
    refine ih q (i + 1) _ _ e11.a e11.c (by omega) (by omega) ⟨by omega, fun j hj => ?_⟩ (p3.le (by omega))
    rw [p4.2 j hj, hh9, put_ne (by omega)]; exact x.2 j hj

theorem SpanSame_run (h : AHeap) (nx : Nat) (L : List Int) (hL : L.length * 8 ≤ 140737488351232) (_ : ∀ n ∈ L, (Lit.int .i64 n).wf = true) (a : Option (Nat × Nat)) (s : Sl h nx a L.length 1 (L.map (AV.int .i64))) (t : Int) (_ : (Lit.int .i64 t).wf = true) :
    ∃ f h' nx', callP Try.prog keepT f Y0 3 [.slice a L.length none, .int .i64 t] h nx = some (.bool true, h', nx') := by
  refine ⟨2001, ?_⟩
  rw [F3_eq]
  refine pairs_loop (f := 2000) (lf := 2000) (P := fun r => ∃ h' nx', r = some (.bool true, h', nx')) (h0 := h) (n0 := nx + 3) (c := none) (s.ext ⟨by omega, fun _ _ => rfl⟩) (by omega) (fun h1 n1 pa pc x1 w1 => ?_) 12 2000 0 h (nx + 3) none none (by omega) (by omega) (by omega) ⟨Nat.le_refl _, fun _ _ => rfl⟩ (OwnSl.nil _ _ _ _)
  have hl : ((pairsL L).take 12).length ≤ 12 := by rw [List.length_take]; omega
  generalize (pairsL L).take 12 = ps at *
  have hfl := flatP_len ps
  have hx1 := x1.1
  rw [F3_J3_eq]
  have hdiv : wrapA .i64 (Int.tdiv (((flatP ps).length : Nat) : Int) 2) = (ps.length : Int) := by
    rw [Int.tdiv_eq_ediv_of_nonneg (by omega), wA (by omega) (by omega)]; omega
  rw [hdiv]
  refine same_loop4 (f := 2000) (lf := 2000) (by omega) (P := fun r => ∃ h' nx', r = some (.bool true, h', nx')) (h0 := h1) (n0 := n1 + 6) (c := pc) hl (w1.sl.ext ⟨by omega, fun _ _ => rfl⟩) (fun q h2 n2 oa oc x2 w2 => ?_) ps.length 2000 0 h1 (n1 + 6) none none (by omega) (by omega) ⟨Nat.le_refl _, fun _ _ => rfl⟩ (OwnSl.nil _ _ _ _)
  have hx2 := x2.1
  rw [F3_L4_eq, if_neg (by rw [decide_eq_true_eq]; omega)]
  have sp : Sl h2 (n2 + 10) pa (flatP ps).length 1 (ints .i64 (flatP ps)) := w1.sl.ext ⟨by omega, fun j hj => x2.2 j (by omega)⟩
  obtain ⟨xa, xc, h3, n3, r3, w3, x3⟩ := set_spec (f := 2000) (by omega) Y0 pc (n := 12) (by omega) sp (by omega)
  have hx3 := x3.1
  rw [show ((12 : Nat) : Int) = 12 from rfl] at r3
  rw [r3]
  simp only [mst_]
  rw [pairs_flatP, List.take_of_length_le hl] at w3 ⊢
  generalize hos : turned ps t ps.length = os at *
  have hol : os.length ≤ 12 := by
    by_cases c : 0 < ps.length
    · rw [← hos, turned_len c]; exact hl
    · rw [← hos, show ps.length = 0 by omega]; exact Nat.zero_le _
  have hfo := flatP_len os
  have w2' : OwnSl h3 (n1 + 6) n3 oa (flatP os).length 1 (ints .i64 (flatP os)) := w2.ext ⟨by omega, fun j hj => x3.2 j (by omega)⟩
  obtain ⟨rd, src⟩ := w2'.sl.src'
  rw [src]
  simp only [mst_]
  obtain ⟨e18, p1, p2, p3, p4, _⟩ := w2'.appendS oc (bytes := 8) (id := n3 + 2) (k := (flatP os).length) (ws := ints .i64 (flatP os)) (rd := rd) w2'.1 (growOk_of (by omega) (by omega)) (by omega) (by omega)
  rw [p1]
  simp only [mst_]
  have hl2 : (flatP os).length + (flatP os).length = (flatP (os ++ os)).length := by rw [flatP_app, List.length_append]
  have hf2 : ints .i64 (flatP os) ++ ints .i64 (flatP os) = ints .i64 (flatP (os ++ os)) := by rw [flatP_app, ints_app]
  rw [hl2] at p2 p3
  rw [hf2] at p3
  rw [p2]
  obtain ⟨ya, yc, h4, n4, r4, w4, x4⟩ := set_spec (f := 2000) (by omega) Y0 e18.c (n := 24) (nx := n3 + 9) (by omega) (p3.sl.ext ⟨by omega, fun _ _ => rfl⟩) (by omega)
  have hx4 := x4.1
  rw [show ((24 : Nat) : Int) = 24 from rfl] at r4
  rw [r4]
  simp only [mst_]
  have hoo : (os ++ os).length ≤ 24 := by rw [List.length_append]; omega
  rw [pairs_flatP, List.take_of_length_le hoo] at w4 ⊢
  rw [if_pos trivial, if_pos trivial]
  have k1 := setL_ok 360 (by decide) ps
  have k2 := setL_ok 360 (by decide) (os ++ os)
  have heq : setL (os ++ os) = setL ps := Cn.uniq k2.1.c k1.1.c fun k => by
    rw [k2.2, k1.2]
    constructor
    · rintro ⟨p, hp, q⟩
      refine ⟨p, ?_, q⟩
      have : p ∈ os := (List.mem_append.1 hp).elim id id
      rw [← hos] at this
      exact turned_mem this
    · rintro ⟨p, hp, q⟩
      exact ⟨p, List.mem_append_left _ (by rw [← hos]; exact turned_all t hp), q⟩
  rw [heq] at w4 ⊢
  have hpn := k1.1.n
  have lo3 : OwnSl ((h3.puts e18.sets)) (n2 + 10) (n3 + 9) xa (setL ps).length 2 (pairCells (setL ps)) := by
    refine ⟨w3.1, w3.2.imp id fun ⟨i, e1, e2, e3, e4⟩ => ⟨i, e1, e2, by omega, ?_⟩⟩
    rw [puts_out e18.sets fun p hp e => ?_]
    · exact e4
    · rcases w2.2 with ⟨ea, en⟩ | ⟨j, ea, j0, j1, ej⟩
      · -- nothing was appended
        have h0 : (flatP os).length = 0 := en
        unfold appD at p1
        rw [if_pos h0] at p1
        cases p1
        cases hp
      · have := appD_ids p1 p.1 (List.mem_map_of_mem hp)
        rcases this with q | q
        · obtain ⟨o, q⟩ := q
          rw [ea] at q; cases q; omega
        · omega
  obtain ⟨n5, r5, x5⟩ := same_spec (f := 2000) (by omega) Y0 xc yc (l := setL ps) (by omega) (h := h4) (nx := n4 + 10) (RS.ext lo3.sl ⟨by omega, fun j hj => x4.2 j (by omega)⟩) (RS.ext w4.sl ⟨by omega, fun _ _ => rfl⟩)
  rw [r5]
  simp only [mst_]
  exact ⟨_, _, rfl⟩

end Go.Proofs.Ytophneodoibcgaa.T
