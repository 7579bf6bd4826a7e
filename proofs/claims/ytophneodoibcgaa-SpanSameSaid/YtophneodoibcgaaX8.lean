/- Search, Has, Size, First. -/
import Derived.Test.YtophneodoibcgaaX7
set_option linter.unusedVariables false
set_option linter.unusedSimpArgs false
namespace Go.Proofs.Ytophneodoibcgaa.T
open Go Go.RowKit Go.Proofs

theorem half {x : Int} {m : Nat} (e : x = m) (h : m ≤ 1000000) : wrapA .i64 (Int.fdiv (wrapA .u64 (wrapA .i64 x)) ((2 : Int) ^ min (Int.toNat 1) (IntKind.bits .u64))) = ((m / 2 : Nat) : Int) := by
  subst e
  rw [wA (x := (m : Int)) (by omega) (by omega)]
  have h1 : wrapA .u64 (m : Int) = m := by
    rw [wrapA_def]; show (m : Int) % 18446744073709551616 = m
    omega
  have h2 : ((2 : Int) ^ min (Int.toNat 1) (IntKind.bits .u64)) = 2 := rfl
  rw [h1, h2, Int.fdiv_eq_ediv_of_nonneg _ (by decide), wA (by omega) (by omega)]
  omega

theorem less_spec {f : Nat} (hf : 1 ≤ f) (Y : YldF) {h : AHeap} {nx bx bk : Nat} {a : Option (Nat × Nat)} {c : Option Nat} {l : RL} {k : Int} (s : RS h nx a l) (e1 : h bx = some ⟨[.slice a l.length c], 1, true⟩) (e2 : h bk = some ⟨[.int .i64 k], 1, true⟩) {m : Nat} (hm : m < l.length) :
    callP Try.prog keepT f Y 26 [.int .i64 (m : Int), .ptr (some (bx, 0)), .ptr (some (bk, 0))] h nx = some (.bool (decide (l[m].2 > k)), h, nx + 9) := by
  obtain ⟨f, rfl⟩ : ∃ m, f = m + 1 := ⟨f - 1, by omega⟩
  obtain ⟨_, r2, _⟩ := s.rd (R := Res) (List.getElem?_eq_getElem hm)
  rw [F26_eq]
  simp only [mst_]
  rw [ld_at e1 (v := .slice a l.length c) rfl]
  simp only [mst_]
  rw [r2]
  simp only [mst_]
  rw [ld_at e2 (v := .int .i64 k) rfl]
  simp only [mst_]

theorem search_loop {f lf : Nat} (hf : 1 ≤ f) {Y : YldF} {h : AHeap} {n0 bx bk : Nat} {a : Option (Nat × Nat)} {c : Option Nat} {l : RL} {k : Int} (hl : l.length ≤ 1000) (s : RS h n0 a l) (e1 : h bx = some ⟨[.slice a l.length c], 1, true⟩) (e2 : h bk = some ⟨[.int .i64 k], 1, true⟩) (cn : Cn l) (d : Nat) :
    ∀ (q lo hi nx : Nat), hi - lo ≤ d → d < q → lo ≤ hi → hi ≤ l.length → n0 ≤ nx → (∀ j (hj : j < l.length), j < lo → l[j].2 ≤ k) → (∀ j (hj : j < l.length), hi ≤ j → l[j].2 > k) →
      ∃ i nx' : Nat, F25_L1 (callP Try.prog keepT f) Y lf q (.fn 26 [] [.ptr (some (bx, 0)), .ptr (some (bk, 0))]) (lo : Int) (hi : Int) h nx = some (.int .i64 (i : Int), h, nx') ∧ nx ≤ nx' ∧ i ≤ l.length ∧ (∀ j (hj : j < l.length), j < i → l[j].2 ≤ k) ∧ (∀ j (hj : j < l.length), i ≤ j → l[j].2 > k) := by
  induction d with
  | zero =>
    intro q lo hi nx e hq h1 h2 hn g1 g2
    obtain ⟨q, rfl⟩ : ∃ m, q = m + 1 := ⟨q - 1, by omega⟩
    rw [F25_L1_eq, if_neg (by rw [decide_eq_true_eq]; omega)]
    exact ⟨lo, nx + 5, rfl, by omega, by omega, g1, fun j hj q => g2 j hj (by omega)⟩
  | succ d ih =>
    intro q lo hi nx e hq h1 h2 hn g1 g2
    obtain ⟨q, rfl⟩ : ∃ m, q = m + 1 := ⟨q - 1, by omega⟩
    by_cases c : lo < hi
    · have hmid : (lo + hi) / 2 < l.length := by omega
      rw [F25_L1_eq, if_pos (decide_eq_true (by omega)), asCal_fn]
      simp only [mst_]
      rw [half (m := lo + hi) (by omega) (by omega), callC_fn]
      rw [show ([] : List AV) ++ [.int .i64 (((lo + hi) / 2 : Nat) : Int)] ++ [.ptr (some (bx, 0)), .ptr (some (bk, 0))] = [.int .i64 (((lo + hi) / 2 : Nat) : Int), .ptr (some (bx, 0)), .ptr (some (bk, 0))] from rfl]
      rw [less_spec hf Y (s.ext ⟨by omega, fun _ _ => rfl⟩) e1 e2 hmid]
      simp only [mst_]
      have cm : ∀ j (hj : j < l.length), j < (lo + hi) / 2 → l[j].2 < l[(lo + hi) / 2].2 := fun j hj q => by
        have := List.pairwise_iff_getElem.1 cn.sep j _ hj hmid q
        have := (cn.ok _ (List.getElem_mem hmid)).2
        omega
      have cm2 : ∀ j (hj : j < l.length), (lo + hi) / 2 < j → l[(lo + hi) / 2].2 < l[j].2 := fun j hj q => by
        have := List.pairwise_iff_getElem.1 cn.sep _ j hmid hj q
        have := (cn.ok _ (List.getElem_mem hj)).2
        omega
      by_cases t : l[(lo + hi) / 2].2 > k
      · rw [if_neg (show ¬ (!decide (l[(lo + hi) / 2].2 > k)) = true by simp [t])]
        refine (ih q lo ((lo + hi) / 2) _ (by omega) (by omega) (by omega) (by omega) (by omega) g1 fun j hj q => ?_).imp fun i ⟨n', a1, a2, a3⟩ => ⟨n', a1, by omega, a3⟩
        by_cases ej : j = (lo + hi) / 2
        · subst ej; exact t
        · have := cm2 j hj (by omega); omega
      · rw [if_pos (show (!decide (l[(lo + hi) / 2].2 > k)) = true by simp [t]), wsucc (by omega)]
        refine (ih q ((lo + hi) / 2 + 1) hi _ (by omega) (by omega) (by omega) (by omega) (by omega) (fun j hj q => ?_) g2).imp fun i ⟨n', a1, a2, a3⟩ => ⟨n', a1, by omega, a3⟩
        by_cases ej : j = (lo + hi) / 2
        · subst ej; omega
        · have := cm j hj (by omega); omega
    · rw [F25_L1_eq, if_neg (by rw [decide_eq_true_eq]; omega)]
      exact ⟨lo, nx + 5, rfl, by omega, by omega, g1, fun j hj q => g2 j hj (by omega)⟩

theorem has_spec {f : Nat} (hf : 1200 ≤ f) (Y : YldF) {h : AHeap} {nx m : Nat} {a : Option (Nat × Nat)} (c : Option Nat) {l : RL} (hm : m ≤ 200) (w : Set' MAXC m l) (k : Int) (s : RS h nx a l) :
    ∃ b h' nx', callP Try.prog keepT f Y 16 [.slice a l.length c, .int .i64 k] h nx = some (.bool b, h', nx') ∧ (b = true ↔ Hs l k) ∧ Ext h nx h' nx' := by
  obtain ⟨f, rfl⟩ : ∃ m, f = m + 2 := ⟨f - 2, by omega⟩
  have hl := w.n
  rw [F16_eq]
  dsimp only
  obtain ⟨h2, hh2⟩ : ∃ h2, h2 = (h.put nx (some ⟨[.slice a l.length c], 1, true⟩)).put (nx + 1) (some ⟨[.int .i64 k], 1, true⟩) := ⟨_, rfl⟩
  rw [← hh2]
  have e1 : h2 nx = some ⟨[.slice a l.length c], 1, true⟩ := by rw [hh2, put_ne (by omega), put_same]
  have e2 : h2 (nx + 1) = some ⟨[.int .i64 k], 1, true⟩ := by rw [hh2, put_same]
  have x2 : Ext h nx h2 (nx + 6) := ⟨by omega, fun j hj => by rw [hh2, put_ne (by omega), put_ne (by omega)]⟩
  rw [ld_at e1 (v := .slice a l.length c) rfl]
  simp only [mst_]
  obtain ⟨h5, n5, r5, x5⟩ := may_spec (f := f + 1) (by omega) Y c hm w (s.ext x2)
  have hx5 := x5.1
  rw [r5]
  simp only [mst_]
  have e1' := (x5.2 nx (by omega)).trans e1
  have e2' := (x5.2 (nx + 1) (by omega)).trans e2
  rw [ld_at e1' (v := .slice a l.length c) rfl]
  simp only [mst_]
  have s5 : RS h5 (n5 + 5 + 4) a l := (s.ext x2).ext (x5.le (by omega))
  obtain ⟨i, n9, z1, z2, z3, z4, z5⟩ := search_loop (f := f) (lf := f) (by omega) (Y := Y) (k := k) (by omega) s5 e1' e2' w.c l.length f 0 l.length (n5 + 5 + 4) (by omega) (by omega) (by omega) (by omega) (by omega) (fun j _ q => by omega) (fun j hj q => by omega)
  have z1' : callP Try.prog keepT (f + 1) Y 25 [.int .i64 ((l.length : Nat) : Int), .fn 26 [] [.ptr (some (nx, 0)), .ptr (some (nx + 1, 0))]] h5 (n5 + 5) = some (.int .i64 (i : Int), h5, n9) := by rw [F25_eq]; exact z1
  rw [z1']
  simp only [mst_]
  rw [ld_at e1' (v := .slice a l.length c) rfl]
  simp only [mst_]
  by_cases ci : i < l.length
  · obtain ⟨r1, _, _⟩ := s5.rd (R := Res) (List.getElem?_eq_getElem ci)
    rw [if_pos (decide_eq_true (by omega)), ld_at e1' (v := .slice a l.length c) rfl]
    simp only [mst_]
    rw [r1]
    simp only [mst_]
    rw [ld_at e2' (v := .int .i64 k) rfl]
    simp only [mst_]
    refine ⟨_, _, _, rfl, ?_, ⟨by omega, fun j hj => (x5.2 j (by omega)).trans (x2.2 j hj)⟩⟩
    rw [decide_eq_true_eq]
    constructor
    · intro q; exact ⟨l[i], List.getElem_mem ci, q, z5 i ci (Nat.le_refl _)⟩
    · rintro ⟨r, hr, q1, q2⟩
      obtain ⟨j, hj, rfl⟩ := List.getElem_of_mem hr
      have hij : i ≤ j := by
        rcases Nat.lt_or_ge j i with q | q
        · have := z4 j hj q; omega
        · exact q
      by_cases ej : i = j
      · subst ej; exact q1
      · have := List.pairwise_iff_getElem.1 w.c.sep i j ci hj (by omega)
        have := (w.c.ok _ (List.getElem_mem ci)).2
        omega
  · rw [if_neg (by rw [decide_eq_true_eq]; omega)]
    refine ⟨_, _, _, rfl, ?_, ⟨by omega, fun j hj => (x5.2 j (by omega)).trans (x2.2 j hj)⟩⟩
    constructor
    · intro q; cases q
    · rintro ⟨r, hr, q1, q2⟩
      obtain ⟨j, hj, rfl⟩ := List.getElem_of_mem hr
      have := z4 j hj (by omega)
      omega

def sizeL (l : RL) : Int := (l.map fun r => r.2 - r.1).sum
theorem sizeL_app (l m : RL) : sizeL (l ++ m) = sizeL l + sizeL m := by unfold sizeL; rw [List.map_append, List.sum_append]
theorem sizeL_bound : ∀ {l : RL}, (∀ r ∈ l, 0 ≤ r.1 ∧ r.1 < r.2 ∧ r.2 ≤ MAXC) → 0 ≤ sizeL l ∧ sizeL l ≤ MAXC * l.length
  | [], _ => by simp [sizeL]
  | r :: l, h => by
    have h1 := h r List.mem_cons_self
    obtain ⟨h2, h3⟩ := sizeL_bound (l := l) fun x hx => h x (List.mem_cons_of_mem _ hx)
    have hM : MAXC = 1048576 := rfl
    have : sizeL (r :: l) = (r.2 - r.1) + sizeL l := by unfold sizeL; rfl
    rw [this, List.length_cons]
    rw [hM] at h1 h3 ⊢
    omega
theorem size_loop {f lf : Nat} {Y : YldF} {h0 : AHeap} {n0 : Nat} {a : Option (Nat × Nat)} {c : Option Nat} {l : RL} {m : Nat} (hm : m ≤ 200) (w : Set' MAXC m l) (s : RS h0 n0 a l) (d : Nat) :
    ∀ (q i : Nat) (h : AHeap) (nx : Nat), i + d = l.length → d < q → Ext h0 n0 h nx →
      ∃ h' nx', F14_L1 (callP Try.prog keepT f) Y lf q (sizeL (l.take i)) a l.length c ((l.length : Nat) : Int) (i : Int) h nx = some (.int .i64 (sizeL l), h', nx') ∧ Ext h0 n0 h' nx' := by
  have hl := w.n
  have hM : MAXC = 1048576 := rfl
  induction d with
  | zero =>
    intro q i h nx e hq x
    obtain ⟨q, rfl⟩ : ∃ m, q = m + 1 := ⟨q - 1, by omega⟩
    rw [F14_L1_eq, if_neg (by rw [decide_eq_true_eq]; omega), List.take_of_length_le (by omega)]
    exact ⟨h, _, rfl, x.le (by omega)⟩
  | succ d ih =>
    intro q i h nx e hq x
    obtain ⟨q, rfl⟩ : ∃ m, q = m + 1 := ⟨q - 1, by omega⟩
    have hi : i < l.length := by omega
    have hx1 := x.1
    obtain ⟨_, _, r3⟩ := (s.ext x).rd (R := Res) (List.getElem?_eq_getElem hi)
    have hok := w.ok l[i] (List.getElem_mem hi)
    have htk : l.take (i + 1) = l.take i ++ [l[i]] := List.take_succ_eq_append_getElem hi
    have hsb := sizeL_bound (l := l.take i) fun r hr => w.ok r (List.mem_of_mem_take hr)
    have htl : (l.take i).length ≤ 200 := by rw [List.length_take]; omega
    have hst : sizeL (l.take (i + 1)) = sizeL (l.take i) + (l[i].2 - l[i].1) := by rw [htk, sizeL_app]; simp [sizeL]
    rw [F14_L1_eq, if_pos (decide_eq_true (by omega)), r3]
    simp only [mst_]
    rw [st_all (put_same _ _ _) (by rfl) (by rfl) (by rfl), put_put]
    obtain ⟨h8, hh8⟩ : ∃ h8, h8 = h.put (nx + 3) (some ⟨[.int .i64 l[i].1, .int .i64 l[i].2], 2, true⟩) := ⟨_, rfl⟩
    rw [← hh8]
    have e8 : h8 (nx + 3) = some ⟨[.int .i64 l[i].1, .int .i64 l[i].2], 2, true⟩ := by rw [hh8, put_same]
    rw [ld_at e8 (v := .int .i64 l[i].2) rfl]
    simp only [mst_]
    rw [ld_at e8 (v := .int .i64 l[i].1) rfl]
    simp only [mst_]
    have hb2 : sizeL (l.take i) ≤ 1048576 * 200 := by rw [hM] at hsb; omega
    rw [wsucc (by omega), wA (x := l[i].2 - l[i].1) (by omega) (by omega), wA (x := sizeL (l.take i) + (l[i].2 - l[i].1)) (by omega) (by omega), ← hst]
    exact ih q (i + 1) h8 _ (by omega) (by omega) ⟨by omega, fun j hj => by rw [hh8, put_ne (by omega)]; exact x.2 j hj⟩
theorem size_spec {f : Nat} (hf : 400 ≤ f) (Y : YldF) {h : AHeap} {nx m : Nat} {a : Option (Nat × Nat)} (c : Option Nat) {l : RL} (hm : m ≤ 200) (w : Set' MAXC m l) (s : RS h nx a l) :
    ∃ h' nx', callP Try.prog keepT f Y 14 [.slice a l.length c] h nx = some (.int .i64 (sizeL l), h', nx') ∧ Ext h nx h' nx' := by
  obtain ⟨f, rfl⟩ : ∃ m, f = m + 1 := ⟨f - 1, by omega⟩
  have hl := w.n
  rw [F14_eq]
  obtain ⟨h1, n1, r1, x1⟩ := may_spec (f := f) (by omega) Y c hm w (s.ext (nx' := nx + 4) ⟨by omega, fun _ _ => rfl⟩)
  have hx1 := x1.1
  rw [r1]
  simp only [mst_]
  rw [if_pos trivial]
  have x1' : Ext h nx h1 (n1 + 3) := ⟨by omega, fun j hj => x1.2 j (by omega)⟩
  obtain ⟨h', nx', z1, z2⟩ := size_loop (f := f) (lf := f) (Y := Y) (c := c) hm w (s.ext x1') l.length f 0 h1 (n1 + 3) (by omega) (by omega) ⟨Nat.le_refl _, fun _ _ => rfl⟩
  rw [List.take_zero, show sizeL [] = 0 from rfl] at z1
  exact ⟨h', nx', z1, x1'.trans z2⟩

def firstL : RL → Int → Int × Int
  | [], _ => (0, 6)
  | r :: l, n => if r.2 - r.1 ≥ n then (r.1, 0) else firstL l n
theorem first_loop {f lf : Nat} {Y : YldF} {h0 : AHeap} {n0 : Nat} {a : Option (Nat × Nat)} {c : Option Nat} {l : RL} {m : Nat} (hm : m ≤ 200) (w : Set' MAXC m l) (s : RS h0 n0 a l) {n : Int} (d : Nat) :
    ∀ (q i : Nat) (h : AHeap) (nx : Nat), i + d = l.length → d < q → Ext h0 n0 h nx →
      ∃ h' nx', F17_L1 (callP Try.prog keepT f) Y lf q n a l.length c ((l.length : Nat) : Int) (i : Int) h nx = some (.tuple [.int .i64 (firstL (l.drop i) n).1, .int .i64 (firstL (l.drop i) n).2], h', nx') ∧ Ext h0 n0 h' nx' := by
  have hl := w.n
  have hM : MAXC = 1048576 := rfl
  induction d with
  | zero =>
    intro q i h nx e hq x
    obtain ⟨q, rfl⟩ : ∃ m, q = m + 1 := ⟨q - 1, by omega⟩
    rw [F17_L1_eq, if_neg (by rw [decide_eq_true_eq]; omega), List.drop_of_length_le (by omega)]
    exact ⟨h, _, rfl, x.le (by omega)⟩
  | succ d ih =>
    intro q i h nx e hq x
    obtain ⟨q, rfl⟩ : ∃ m, q = m + 1 := ⟨q - 1, by omega⟩
    have hi : i < l.length := by omega
    have hx1 := x.1
    obtain ⟨_, _, r3⟩ := (s.ext x).rd (R := Res) (List.getElem?_eq_getElem hi)
    have hok := w.ok l[i] (List.getElem_mem hi)
    rw [F17_L1_eq, if_pos (decide_eq_true (by omega)), r3, List.drop_eq_getElem_cons hi]
    generalize l[i] = r at *
    simp only [mst_]
    rw [st_all (put_same _ _ _) (by rfl) (by rfl) (by rfl), put_put]
    obtain ⟨h8, hh8⟩ : ∃ h8, h8 = h.put (nx + 3) (some ⟨[.int .i64 r.1, .int .i64 r.2], 2, true⟩) := ⟨_, rfl⟩
    rw [← hh8]
    have e8 : h8 (nx + 3) = some ⟨[.int .i64 r.1, .int .i64 r.2], 2, true⟩ := by rw [hh8, put_same]
    have x8 : ∀ N, nx + 3 < N → Ext h0 n0 h8 N := fun N hN => ⟨by omega, fun j hj => by rw [hh8, put_ne (by omega)]; exact x.2 j hj⟩
    rw [ld_at e8 (v := .int .i64 r.2) rfl]
    simp only [mst_]
    rw [ld_at e8 (v := .int .i64 r.1) rfl]
    simp only [mst_]
    rw [wA (x := r.2 - r.1) (by omega) (by omega)]
    unfold firstL
    by_cases t : r.2 - r.1 ≥ n
    · rw [if_pos (decide_eq_true t), if_pos t, ld_at e8 (v := .int .i64 r.1) rfl]
      simp only [mst_]
      exact ⟨h8, _, rfl, x8 _ (by omega)⟩
    · rw [if_neg (by rw [decide_eq_true_eq]; exact t), if_neg t, wsucc (by omega)]
      exact ih q (i + 1) h8 _ (by omega) (by omega) (x8 _ (by omega))
theorem first_spec {f : Nat} (hf : 400 ≤ f) (Y : YldF) {h : AHeap} {nx m : Nat} {a : Option (Nat × Nat)} (c : Option Nat) {l : RL} (hm : m ≤ 200) (w : Set' MAXC m l) {n : Int} (hn : 1 ≤ n) (s : RS h nx a l) :
    ∃ h' nx', callP Try.prog keepT f Y 17 [.slice a l.length c, .int .i64 n] h nx = some (.tuple [.int .i64 (firstL l n).1, .int .i64 (firstL l n).2], h', nx') ∧ Ext h nx h' nx' := by
  obtain ⟨f, rfl⟩ : ∃ m, f = m + 1 := ⟨f - 1, by omega⟩
  have hl := w.n
  rw [F17_eq]
  obtain ⟨h1, n1, r1, x1⟩ := may_spec (f := f) (by omega) Y c hm w (s.ext (nx' := nx + 5) ⟨by omega, fun _ _ => rfl⟩)
  have hx1 := x1.1
  rw [r1]
  simp only [mst_]
  rw [if_neg (show ¬ decide (n < 1) = true by rw [decide_eq_true_eq]; omega)]
  have x1' : Ext h nx h1 (n1 + 5) := ⟨by omega, fun j hj => x1.2 j (by omega)⟩
  obtain ⟨h', nx', z1, z2⟩ := first_loop (f := f) (lf := f) (Y := Y) (c := c) hm w (s.ext x1') (n := n) l.length f 0 h1 (n1 + 5) (by omega) (by omega) ⟨Nat.le_refl _, fun _ _ => rfl⟩
  exact ⟨h', nx', z1, x1'.trans z2⟩

end Go.Proofs.Ytophneodoibcgaa.T
