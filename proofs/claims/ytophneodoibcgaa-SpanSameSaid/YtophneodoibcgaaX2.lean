/- Sets of numbers: what is added, cut, common; plain laws. -/
import Derived.Test.YtophneodoibcgaaX1
set_option linter.unusedVariables false
set_option linter.unusedSimpArgs false
namespace Go.Proofs.Ytophneodoibcgaa.T
open Go Go.RowKit Go.Proofs

noncomputable def sweptL (W : Int → Bool) (d : RL) : RL := sweep W (sortAt d) 0 (-1) []
theorem swept_ok {W : Int → Bool} (hW : W 0 = false) {d : RL} (h0 : ∀ e ∈ d, 0 ≤ e.1) (ht : total d = 0) :
    Cn (sweptL W d) ∧ (∀ k, Hs (sweptL W d) k ↔ W (depth d k) = true) ∧ 2 * (sweptL W d).length ≤ d.length ∧ ∀ s ∈ sweptL W d, ∃ e ∈ d, s.2 = e.1 := by
  have hp := sortAt_perm d
  have hl := sortAt_len d
  unfold sweptL
  by_cases hd : sortAt d = []
  · rw [hd] at hp ⊢
    have : d = [] := hp.symm.eq_nil
    subst this
    refine ⟨Cn.nil, fun k => ?_, by simp [sweep], fun s hs => by cases hs⟩
    simp [sweep, Hs_nil, depth, hW]
  · obtain ⟨z1, z2, z3, z4⟩ := sweep_ok W hW (sortAt d) 0 (-1) [] hd (sortAt_sorted d) (fun e he => h0 e (hp.mem_iff.1 he)) (by rw [total_perm hp]; omega) ⟨Cn.nil, fun s hs => (by cases hs), fun h => (by omega)⟩
    refine ⟨z1, fun k => ?_, by simp at z3; omega, fun s hs => ?_⟩
    · rw [z2 k]
      rw [Int.zero_add, depth_perm hp]
      constructor
      · rintro (q | q)
        · exact absurd q (Hs_nil k)
        · split at q
          · omega
          · exact q
      · intro q
        right
        split
        · rename_i hk
          rw [← depth_perm hp, depth_before fun e he => ?_] at q
          · rw [hW] at q; cases q
          · cases hs : sortAt d with
            | nil => rw [hs] at hd; exact absurd rfl hd
            | cons x r =>
              rw [hs] at he hk
              have hx : k < x.1 := hk
              have hsd := sortAt_sorted d
              rw [hs] at hsd
              rcases List.mem_cons.1 he with rfl | he
              · exact hx
              · have := (List.pairwise_cons.1 hsd).1 e he; omega
        · exact q
    · rcases z4 s hs with q | ⟨e, he, q⟩
      · cases q
      · exact ⟨e, hp.mem_iff.1 he, q⟩

def wantPos (d : Int) : Bool := decide (d > 0)
def wantTwo (d : Int) : Bool := d == 2
noncomputable def addL (l : RL) (r : Int × Int) : RL := sweptL wantPos (edgesL l 1 ++ edgesL [r] 1)
noncomputable def cutL (l : RL) (r : Int × Int) : RL := sweptL wantPos (edgesL l 1 ++ edgesL [r] (-1))
noncomputable def bothL (l m : RL) : RL := sweptL wantTwo (edgesL l 1 ++ edgesL m 1)

theorem edges2 {l m : RL} {b c B : Int} (hl : ∀ r ∈ l, 0 ≤ r.1 ∧ r.1 < r.2 ∧ r.2 ≤ B) (hm : ∀ r ∈ m, 0 ≤ r.1 ∧ r.1 < r.2 ∧ r.2 ≤ B) : (∀ e ∈ edgesL l b ++ edgesL m c, 0 ≤ e.1 ∧ e.1 ≤ B) ∧ total (edgesL l b ++ edgesL m c) = 0 ∧ (edgesL l b ++ edgesL m c).length = 2 * (l.length + m.length) := by
  refine ⟨fun e he => ?_, by rw [total_app, edgesL_total, edgesL_total]; rfl, by rw [List.length_append, edgesL_len, edgesL_len]; omega⟩
  rcases List.mem_append.1 he with he | he
  · obtain ⟨⟨r, hr, q⟩, _⟩ := edgesL_mem he; have := hl r hr; omega
  · obtain ⟨⟨r, hr, q⟩, _⟩ := edgesL_mem he; have := hm r hr; omega

/-- A set within bounds. -/
structure Set' (B : Int) (n : Nat) (l : RL) : Prop where
  c : Cn l
  b : ∀ r ∈ l, r.2 ≤ B
  n : l.length ≤ n
theorem Set'.ok {B : Int} {n : Nat} {l : RL} (w : Set' B n l) : ∀ r ∈ l, 0 ≤ r.1 ∧ r.1 < r.2 ∧ r.2 ≤ B := fun r hr => ⟨(w.c.ok r hr).1, (w.c.ok r hr).2, w.b r hr⟩
theorem Set'.one {r : Int × Int} {B : Int} (h : 0 ≤ r.1 ∧ r.1 < r.2 ∧ r.2 ≤ B) : Set' B 1 [r] :=
  ⟨⟨List.pairwise_singleton _ _, fun s hs => by simp at hs; subst hs; exact ⟨h.1, h.2.1⟩⟩, fun s hs => by simp at hs; subst hs; exact h.2.2, Nat.le_refl _⟩
theorem Set'.le {B : Int} {n m : Nat} {l : RL} (w : Set' B n l) (h : n ≤ m) : Set' B m l := ⟨w.c, w.b, Nat.le_trans w.n h⟩

theorem swept_set {W : Int → Bool} (hW : W 0 = false) {B : Int} {n m : Nat} {l k : RL} {b c : Int} (wl : Set' B n l) (wk : Set' B m k) : Set' B (n + m) (sweptL W (edgesL l b ++ edgesL k c)) ∧ ∀ x, Hs (sweptL W (edgesL l b ++ edgesL k c)) x ↔ W (depth (edgesL l b) x + depth (edgesL k c) x) = true := by
  obtain ⟨e1, e2, e3⟩ := edges2 (b := b) (c := c) wl.ok wk.ok
  obtain ⟨z1, z2, z3, z4⟩ := swept_ok hW (fun e he => (e1 e he).1) e2
  have := wl.n
  have := wk.n
  refine ⟨⟨z1, fun r hr => ?_, by omega⟩, fun x => by rw [z2, depth_app]⟩
  obtain ⟨e, he, q⟩ := z4 r hr
  rw [q]; exact (e1 e he).2
theorem add_set {B : Int} {n : Nat} {l : RL} (w : Set' B n l) {r : Int × Int} (h : 0 ≤ r.1 ∧ r.1 < r.2 ∧ r.2 ≤ B) : Set' B (n + 1) (addL l r) ∧ ∀ x, Hs (addL l r) x ↔ Hs l x ∨ (r.1 ≤ x ∧ x < r.2) := by
  obtain ⟨z1, z2⟩ := swept_set (W := wantPos) rfl (b := 1) (c := 1) w (Set'.one h)
  refine ⟨z1, fun x => ?_⟩
  rw [show addL l r = sweptL wantPos (edgesL l 1 ++ edgesL [r] 1) from rfl, z2, edgesL_depth w.c, edgesL_depth (Set'.one h).c, ← Hs_one r x]
  unfold wantPos
  rw [decide_eq_true_eq]
  by_cases h1 : Hs l x <;> by_cases h2 : Hs [r] x <;> simp [h1, h2]
theorem cut_set {B : Int} {n : Nat} {l : RL} (w : Set' B n l) {r : Int × Int} (h : 0 ≤ r.1 ∧ r.1 < r.2 ∧ r.2 ≤ B) : Set' B (n + 1) (cutL l r) ∧ ∀ x, Hs (cutL l r) x ↔ Hs l x ∧ ¬ (r.1 ≤ x ∧ x < r.2) := by
  obtain ⟨z1, z2⟩ := swept_set (W := wantPos) rfl (b := 1) (c := -1) w (Set'.one h)
  refine ⟨z1, fun x => ?_⟩
  rw [show cutL l r = sweptL wantPos (edgesL l 1 ++ edgesL [r] (-1)) from rfl, z2, edgesL_depth w.c, edgesL_depth (Set'.one h).c, ← Hs_one r x]
  unfold wantPos
  rw [decide_eq_true_eq]
  by_cases h1 : Hs l x <;> by_cases h2 : Hs [r] x <;> simp [h1, h2]
theorem both_set {B : Int} {n m : Nat} {l k : RL} (w : Set' B n l) (v : Set' B m k) : Set' B (n + m) (bothL l k) ∧ ∀ x, Hs (bothL l k) x ↔ Hs l x ∧ Hs k x := by
  obtain ⟨z1, z2⟩ := swept_set (W := wantTwo) rfl (b := 1) (c := 1) w v
  refine ⟨z1, fun x => ?_⟩
  rw [show bothL l k = sweptL wantTwo (edgesL l 1 ++ edgesL k 1) from rfl, z2, edgesL_depth w.c, edgesL_depth v.c]
  unfold wantTwo
  rw [beq_iff_eq]
  by_cases h1 : Hs l x <;> by_cases h2 : Hs k x <;> simp [h1, h2]

end Go.Proofs.Ytophneodoibcgaa.T
