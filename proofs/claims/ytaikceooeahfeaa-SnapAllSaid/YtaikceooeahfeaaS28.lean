/- Snaps: SnapAll, plain law: a move of the keeper that the law's lists fit; the end of all. -/
import Derived.Test.YtaikceooeahfeaaS26
set_option linter.unusedVariables false
set_option linter.unusedSimpArgs false
namespace Go.Proofs.Ytaikceooeahfeaa.T
open Go Go.RowKit Go.Proofs

/-- A keeper with the list of what is gone; the law's other lists are somewhere. -/
def SX (K : PK) (goneL : List Bool) : Prop := ∃ (lives : List Bool) (T : List (Int × Bool)) (S : List (List Bool)), SI K lives goneL T S ∧ ∀ l ∈ S, l.length ≤ K.blocks.length
def bornB (m : Int × Int) (code : Int) : Bool := m.1 == 1 && code == 0
def goneAt (goneL : List Bool) (m : Int × Int) (code : Int) : List Bool := if bornB m code = true then goneL ++ [false] else goneL

theorem SX.step {K : PK} {goneL : List Bool} (w : SX K goneL) (hn : 0 ≤ K.now) (m : Int × Int) :
    (stepP K m).2.2.Nodup ∧ (∀ b ∈ (stepP K m).2.2, 0 ≤ b ∧ (goneAt goneL m (stepP K m).2.1)[b.toNat]? = some false) ∧
      SX (stepP K m).1 (marks (goneAt goneL m (stepP K m).2.1) (stepP K m).2.2) := by
  obtain ⟨lives, T, S, w, hS⟩ := w
  have hway := step_ways K m
  generalize stepP K m = SS at *
  have nb : ∀ {c : Int}, m.1 ≠ 1 → goneAt goneL m c = goneL := fun h => by
    unfold goneAt bornB; rw [if_neg]; simp [h]
  cases hway with
  | no e he =>
    have : goneAt goneL m e = goneL := by unfold goneAt bornB; rw [if_neg]; simp [he]
    simp only [this]
    exact ⟨List.nodup_nil, fun b hb => (by cases hb), lives, T, S, w.tick, hS⟩
  | born hm =>
    have : goneAt goneL m 0 = goneL ++ [false] := by unfold goneAt bornB; rw [if_pos]; simp [hm]
    simp only [this]
    exact ⟨List.nodup_nil, fun b hb => (by cases hb), lives ++ [true], T, S, w.birth hn hS, fun l hl => by have := hS l hl; simp; omega⟩
  | keep hm =>
    simp only [nb (c := 0) (show m.1 ≠ 1 by omega)]
    refine ⟨List.nodup_nil, fun b hb => (by cases hb), lives, T ++ [(K.now, true)], S ++ [lives], w.snap, fun l hl => ?_⟩
    rcases List.mem_append.1 hl with hl | hl
    · exact hS l hl
    · simp at hl; subst hl; show l.length ≤ K.blocks.length; rw [w.lv, List.length_map]; exact Nat.le_refl _
  | kill hm b hb at_ hk hl =>
    simp only [nb (c := 0) (show m.1 ≠ 1 by omega)]
    obtain ⟨z1, z2⟩ := w.kill hk hl
    exact ⟨z2.nd, fun x hx => ⟨(z2.ok x hx).1, (z2.ok x hx).2.2.1⟩, _, _, _, z1, fun l hl => by have := hS l hl; show l.length ≤ (K.blocks.set b (at_, false)).length; rw [List.length_set]; exact this⟩
  | bury hm b hb at_ hk s hs hl =>
    simp only [nb (c := 0) (show m.1 ≠ 1 by omega)]
    exact ⟨List.nodup_nil, fun b hb => (by cases hb), _, _, _, w.bury hk hs, fun l hl => by have := hS l hl; show l.length ≤ (K.blocks.set b (at_, false)).length; rw [List.length_set]; exact this⟩
  | drop hm i s hi hs =>
    simp only [nb (c := 0) (show m.1 ≠ 1 by omega)]
    obtain ⟨j, z1, z2, z3, z4, z5⟩ := w.drop hi
    exact ⟨z5.nd, fun x hx => ⟨(z5.ok x hx).1, (z5.ok x hx).2.2.1⟩, _, _, _, z4, hS⟩

theorem SX.len {K : PK} {goneL : List Bool} (w : SX K goneL) : goneL.length = K.blocks.length := by
  obtain ⟨_, _, _, w, _⟩ := w; exact w.gl

/-! ### numbers of snapshots -/
theorem liveT_lt : ∀ (l : List (Int × Bool)) (k : Nat), (liveT l k).Pairwise fun p q => p.1 < q.1
  | [], _ => List.Pairwise.nil
  | x :: l, k => by
    unfold liveT
    split
    · refine List.Pairwise.cons (fun p hp => ?_) (liveT_lt l (k + 1))
      obtain ⟨i, hi⟩ := List.getElem?_of_mem hp
      obtain ⟨j, q1, _⟩ := liveT_ge hi
      simp only; omega
    · exact liveT_lt l (k + 1)
theorem SX.num {K : PK} {goneL : List Bool} (w : SX K goneL) : K.shots.Pairwise (fun s t => s.num < t.num) ∧ ∀ s ∈ K.shots, 0 ≤ s.num ∧ s.num < K.kept := by
  obtain ⟨lives, T, S, w, _⟩ := w
  constructor
  · have := liveT_lt T 0
    rw [← w.key, List.pairwise_map] at this
    exact this
  · intro s hs
    have hm : keyS s ∈ liveT T 0 := by rw [← w.key]; exact List.mem_map_of_mem hs
    obtain ⟨i, hi⟩ := List.getElem?_of_mem hm
    obtain ⟨j, q1, q2⟩ := liveT_ge hi
    have := (List.getElem?_eq_some_iff.1 q2).1
    have h1 : s.num = ((0 + j : Nat) : Int) := q1
    have := w.kept
    omega

/-! ### the tail of the moves: a kill and a drop each -/
def finalP : PK → List (Int × Int) → PK
  | K, [] => K
  | K, m :: l => finalP (stepP K m).1 l
theorem finalP_app : ∀ (a b : List (Int × Int)) (K : PK), finalP K (a ++ b) = finalP (finalP K a) b
  | [], _, _ => rfl
  | m :: a, b, K => finalP_app a b (stepP K m).1
def tailP (j n : Nat) : List (Int × Int) := ((List.range' j n).map fun (b : Nat) => [((2 : Int), (b : Int)), ((4 : Int), (b : Int))]).flatten
theorem tailP_cons (j n : Nat) : tailP j (n + 1) = (2, (j : Int)) :: (4, (j : Int)) :: tailP (j + 1) n := by
  unfold tailP; rw [List.range'_succ]; rfl
theorem tailP_len : ∀ (n j : Nat), (tailP j n).length = 2 * n
  | 0, j => by simp [tailP]
  | n + 1, j => by rw [tailP_cons, List.length_cons, List.length_cons, tailP_len n]; omega

/-- So far: the blocks below j are dead, the snapshots below j are dropped. -/
structure TJ (j : Nat) (K : PK) : Prop where
  b : ∀ (i : Nat) (x : Int) (l : Bool), i < j → K.blocks[i]? = some (x, l) → l = false
  s : ∀ t ∈ K.shots, (j : Int) ≤ t.num

theorem kill_blocks (K : PK) (b : Nat) : (∀ (i : Nat) (x : Int) (l : Bool), (killP K b).1.blocks[i]? = some (x, l) → l = true → i ≠ b ∧ ∃ x, K.blocks[i]? = some (x, true)) ∧ (killP K b).1.blocks.length = K.blocks.length ∧ (killP K b).1.kept = K.kept ∧ ∀ t ∈ (killP K b).1.shots, ∃ u ∈ K.shots, u.num = t.num := by
  unfold killP
  rw [if_neg (by omega), Int.toNat_natCast]
  split
  · rename_i e
    exact ⟨fun i x l (h : K.blocks[i]? = some (x, l)) hl => ⟨fun q => (by subst q; rw [h] at e; cases e), x, (by rw [h, hl])⟩, rfl, rfl, fun t ht => ⟨t, ht, rfl⟩⟩
  · rename_i at_ e
    exact ⟨fun i x l (h : K.blocks[i]? = some (x, l)) hl => ⟨fun q => (by subst q; rw [h] at e; cases e; cases hl), x, (by rw [h, hl])⟩, rfl, rfl, fun t ht => ⟨t, ht, rfl⟩⟩
  · rename_i born e
    have key : ∀ (i : Nat) (x : Int) (l : Bool), (K.blocks.set b (born, false))[i]? = some (x, l) → l = true → i ≠ b ∧ ∃ x, K.blocks[i]? = some (x, true) := fun i x l h hl => by
      have hne : i ≠ b := fun q => by
        subst q
        rw [List.getElem?_set_self (List.getElem?_eq_some_iff.1 e).1] at h
        simp at h; rw [hl] at h; simp at h
      rw [List.getElem?_set_ne (fun q => hne q.symm)] at h
      exact ⟨hne, x, by rw [h, hl]⟩
    split
    · exact ⟨key, by simp, rfl, fun t ht => ⟨t, ht, rfl⟩⟩
    · rename_i s hs
      split
      · exact ⟨key, by simp, rfl, fun t ht => ⟨t, ht, rfl⟩⟩
      · refine ⟨key, by simp, rfl, fun t ht => ?_⟩
        rcases List.mem_or_eq_of_mem_set ht with ht | rfl
        · exact ⟨t, ht, rfl⟩
        · exact ⟨s, List.mem_of_getLast? hs, rfl⟩

theorem idxP_none : ∀ {l : List PS} {x : Int} {k : Nat}, idxP l x k < 0 → ∀ s ∈ l, s.num ≠ x
  | [], _, _, _, s, hs => by cases hs
  | t :: l, x, k, h, s, hs => by
    unfold idxP at h
    split at h
    · omega
    · rename_i c
      rcases List.mem_cons.1 hs with rfl | hs
      · exact c
      · exact idxP_none h s hs

theorem drop_shots {K : PK} (b : Nat) (hp : K.shots.Pairwise (fun s t => s.num < t.num)) : (dropP K b).1.blocks = K.blocks ∧ (dropP K b).1.kept = K.kept ∧ ∀ t ∈ (dropP K b).1.shots, (∃ u ∈ K.shots, u.num = t.num) ∧ t.num ≠ b := by
  unfold dropP
  split
  · rename_i c
    exact ⟨rfl, rfl, fun t ht => ⟨⟨t, ht, rfl⟩, idxP_none c t ht⟩⟩
  · rename_i c
    rcases idxP_cases K.shots b 0 with q | ⟨i, s, q1, q2, q3⟩
    · rw [q] at c; omega
    · rw [Nat.zero_add] at q1
      rw [q1, Int.toNat_natCast, q2]
      refine ⟨rfl, rfl, fun t ht => ?_⟩
      have hi := (List.getElem?_eq_some_iff.1 q2).1
      obtain ⟨m, hm⟩ := List.getElem?_of_mem ht
      obtain ⟨q, e1, e2, e3, _⟩ := erase_at hi _ hm
      refine ⟨⟨K.shots[q], List.getElem_mem e2, e3.symm⟩, fun e => ?_⟩
      have hqi : q ≠ i := by split at e1 <;> omega
      have hs : K.shots[i] = s := (List.getElem?_eq_some_iff.1 q2).2
      have pw := List.pairwise_iff_getElem.1 hp
      rw [e3] at e
      rcases Nat.lt_or_gt_of_ne hqi with z | z
      · have := pw q i e2 hi z; rw [hs, q3] at this; omega
      · have := pw i q hi e2 z; rw [hs, q3] at this; omega

theorem TJ.pair {j : Nat} {K : PK} {goneL : List Bool} (t : TJ j K) (w : SX K goneL) (hn : 0 ≤ K.now) :
    TJ (j + 1) (stepP (stepP K (2, (j : Int))).1 (4, (j : Int))).1 ∧ (stepP (stepP K (2, (j : Int))).1 (4, (j : Int))).1.kept = K.kept ∧ (stepP (stepP K (2, (j : Int))).1 (4, (j : Int))).1.blocks.length = K.blocks.length ∧ ∃ g, SX (stepP (stepP K (2, (j : Int))).1 (4, (j : Int))).1 g := by
  have w1 := (w.step hn (2, (j : Int))).2.2
  have e1 : stepP K (2, (j : Int)) = killP (tickP K) (j : Int) := by unfold stepP moveP; rw [if_neg (show ¬ ((2 : Int) = 1) by decide), if_pos (show ((2 : Int) = 2) from rfl)]
  have hn1 : (stepP K (2, (j : Int))).1.now = K.now + 1 := step_now K _
  have w2 := (w1.step (by omega) (4, (j : Int))).2.2
  obtain ⟨k1, k2, k3, k4⟩ := kill_blocks (tickP K) j
  rw [← e1] at k1 k2 k3 k4
  have hp := w1.num.1
  generalize (stepP K (2, (j : Int))).1 = K1 at *
  have e2 : stepP K1 (4, (j : Int)) = dropP (tickP K1) (j : Int) := by unfold stepP moveP; rw [if_neg (show ¬ ((4 : Int) = 1) by decide), if_neg (show ¬ ((4 : Int) = 2) by decide), if_neg (show ¬ ((4 : Int) = 3) by decide), if_pos (show ((4 : Int) = 4) from rfl)]
  obtain ⟨d1, d2, d3⟩ := drop_shots (K := tickP K1) j hp
  rw [← e2] at d1 d2 d3
  generalize (stepP K1 (4, (j : Int))).1 = K2 at *
  have d1 : K2.blocks = K1.blocks := d1
  refine ⟨⟨fun i x l hi h => ?_, fun u hu => ?_⟩, d2.trans k3, by rw [d1]; exact k2, _, w2⟩
  · rw [d1] at h
    cases l with
    | false => rfl
    | true =>
      obtain ⟨z1, y, z2⟩ := k1 i x true h rfl
      exact t.b i y true (by omega) z2
  · obtain ⟨⟨v, hv, e⟩, ne⟩ := d3 u hu
    obtain ⟨v', hv', e'⟩ := k4 v hv
    have := t.s v' hv'
    omega

theorem tail_end : ∀ (n j : Nat) (K : PK) (goneL : List Bool), TJ j K → SX K goneL → 0 ≤ K.now → TJ (j + n) (finalP K (tailP j n)) ∧ (finalP K (tailP j n)).kept = K.kept ∧ (finalP K (tailP j n)).blocks.length = K.blocks.length ∧ ∃ g, SX (finalP K (tailP j n)) g
  | 0, j, K, g, t, w, _ => ⟨t, rfl, rfl, g, w⟩
  | n + 1, j, K, g, t, w, hn => by
    obtain ⟨t1, k1, b1, g1, w1⟩ := t.pair w hn
    have hn2 : (stepP (stepP K (2, (j : Int))).1 (4, (j : Int))).1.now = K.now + 1 + 1 := by rw [step_now, step_now]
    obtain ⟨t2, k2, b2, w2⟩ := tail_end n (j + 1) _ g1 t1 w1 (by omega)
    rw [tailP_cons]
    show TJ _ (finalP (stepP (stepP K (2, (j : Int))).1 (4, (j : Int))).1 (tailP (j + 1) n)) ∧ _
    rw [show j + (n + 1) = j + 1 + n by omega]
    exact ⟨t2, k2.trans k1, b2.trans b1, w2⟩

theorem final_sx : ∀ (l : List (Int × Int)) (K : PK) (goneL : List Bool), SX K goneL → 0 ≤ K.now → K.kept ≤ K.now → K.blocks.length ≤ K.now → (∃ g, SX (finalP K l) g) ∧ (finalP K l).now = K.now + l.length ∧ (finalP K l).kept ≤ K.kept + l.length ∧ (finalP K l).blocks.length ≤ K.blocks.length + l.length
  | [], K, g, w, _, _, _ => ⟨⟨g, w⟩, by simp [finalP], by simp [finalP], by simp [finalP]⟩
  | m :: l, K, g, w, hn, hk, hb => by
    have w1 := (w.step hn m).2.2
    have hnow := step_now K m
    have h2 : (stepP K m).1.kept ≤ K.kept + 1 ∧ (stepP K m).1.blocks.length ≤ K.blocks.length + 1 := by
      have hway := step_ways K m
      generalize stepP K m = SS at *
      cases hway <;> simp [tickP] <;> omega
    obtain ⟨a1, a2, a3, a4⟩ := final_sx l (stepP K m).1 _ w1 (by omega) (by omega) (by omega)
    refine ⟨a1, ?_, ?_, ?_⟩ <;> simp only [finalP, List.length_cons] <;> omega

/-- At the end all that was born is gone. -/
theorem end_gone {ms : List (Int × Int)} (hm : ms.length ≤ 60) {K : PK} (hK : K = finalP pk0 (ms ++ tailP 0 60)) {goneL : List Bool} (w : SX K goneL) : ∀ b, b < K.blocks.length → goneL[b]? = some true := by
  have w0 : SX pk0 [] := ⟨[], [], [], pk0_si, fun l hl => by cases hl⟩
  obtain ⟨⟨g1, w1⟩, n1, k1, b1⟩ := final_sx ms pk0 [] w0 (by decide) (by decide) (by decide)
  rw [finalP_app] at hK
  have hpk : pk0.kept = 0 := rfl
  have hpb : pk0.blocks.length = 0 := rfl
  have hpn : pk0.now = 0 := rfl
  obtain ⟨t, k2, b2, _⟩ := tail_end 60 0 (finalP pk0 ms) g1 ⟨fun i x l hi => by omega, fun u hu => (w1.num.2 u hu).1⟩ w1 (by omega)
  rw [← hK] at t k2 b2
  have hsn := w.num.2
  obtain ⟨lives, T, S, w, _⟩ := w
  have hs : K.shots = [] := by
    cases e : K.shots with
    | nil => rfl
    | cons u l =>
      have h1 := t.s u (by rw [e]; exact List.mem_cons_self)
      have h2 := (hsn u (by rw [e]; exact List.mem_cons_self)).2
      omega
  intro b hb
  refine all_gone w hs (fun x hx => ?_) hb
  obtain ⟨i, hi⟩ := List.getElem?_of_mem hx
  have := (List.getElem?_eq_some_iff.1 hi).1
  exact t.b i x.1 x.2 (by omega) hi

end Go.Proofs.Ytaikceooeahfeaa.T
