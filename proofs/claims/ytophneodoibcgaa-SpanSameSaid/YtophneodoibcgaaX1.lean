/- Sets of numbers as ranges: plain laws. Nothing of a program but its sort. -/
import Derived.Test.YtophneodoibcgaaXO
set_option linter.unusedVariables false
set_option linter.unusedSimpArgs false
namespace Go.Proofs.Ytophneodoibcgaa.T
open Go Go.RowKit Go.Proofs

abbrev RL := List (Int × Int)
/-- A number is in a list of ranges. -/
def Hs (l : RL) (k : Int) : Prop := ∃ r ∈ l, r.1 ≤ k ∧ k < r.2
/-- Ranges as they should be. -/
structure Cn (l : RL) : Prop where
  sep : l.Pairwise fun r s => r.2 < s.1
  ok : ∀ r ∈ l, 0 ≤ r.1 ∧ r.1 < r.2

theorem Cn.nil : Cn [] := ⟨List.Pairwise.nil, fun r hr => by cases hr⟩
theorem Cn.tail {r : Int × Int} {l : RL} (c : Cn (r :: l)) : Cn l := ⟨(List.pairwise_cons.1 c.sep).2, fun s hs => c.ok s (List.mem_cons_of_mem _ hs)⟩
theorem Hs_nil (k : Int) : ¬ Hs [] k := fun ⟨_, h, _⟩ => by cases h
theorem Hs_cons (r : Int × Int) (l : RL) (k : Int) : Hs (r :: l) k ↔ (r.1 ≤ k ∧ k < r.2) ∨ Hs l k := by
  constructor
  · rintro ⟨s, hs, q⟩
    rcases List.mem_cons.1 hs with rfl | hs
    · exact .inl q
    · exact .inr ⟨s, hs, q⟩
  · rintro (q | ⟨s, hs, q⟩)
    · exact ⟨r, List.mem_cons_self, q⟩
    · exact ⟨s, List.mem_cons_of_mem _ hs, q⟩
theorem Hs_app (l m : RL) (k : Int) : Hs (l ++ m) k ↔ Hs l k ∨ Hs m k := by
  induction l with
  | nil => simp [Hs_nil]
  | cons r l ih => rw [List.cons_append, Hs_cons, Hs_cons, ih, or_assoc]
theorem Hs_one (r : Int × Int) (k : Int) : Hs [r] k ↔ r.1 ≤ k ∧ k < r.2 := by rw [Hs_cons]; simp [Hs_nil]
theorem Cn.after {r : Int × Int} {l : RL} (c : Cn (r :: l)) {k : Int} (h : Hs l k) : r.2 < k := by
  obtain ⟨s, hs, q⟩ := h
  have := (List.pairwise_cons.1 c.sep).1 s hs
  omega

/-- A set has one list. -/
theorem Cn.uniq : ∀ {l m : RL}, Cn l → Cn m → (∀ k, Hs l k ↔ Hs m k) → l = m
  | [], [], _, _, _ => rfl
  | [], s :: m, _, d, e => by
    have := d.ok s List.mem_cons_self
    exact absurd ((e s.1).2 ((Hs_cons _ _ _).2 (.inl ⟨by omega, by omega⟩))) (Hs_nil _)
  | r :: l, [], c, _, e => by
    have := c.ok r List.mem_cons_self
    exact absurd ((e r.1).1 ((Hs_cons _ _ _).2 (.inl ⟨by omega, by omega⟩))) (Hs_nil _)
  | r :: l, s :: m, c, d, e => by
    have c1 := c.ok r List.mem_cons_self
    have d1 := d.ok s List.mem_cons_self
    have lo : ∀ {r : Int × Int} {l : RL} {k : Int}, Cn (r :: l) → Hs (r :: l) k → r.1 ≤ k := fun {r l k} c h => by
      rcases (Hs_cons _ _ _).1 h with q | q
      · exact q.1
      · have := c.after q; have := c.ok r List.mem_cons_self; omega
    have h1 : r.1 = s.1 := by
      have a := lo d ((e r.1).1 ((Hs_cons _ _ _).2 (.inl ⟨by omega, by omega⟩)))
      have b := lo c ((e s.1).2 ((Hs_cons _ _ _).2 (.inl ⟨by omega, by omega⟩)))
      omega
    have nin : ∀ {r : Int × Int} {l : RL}, Cn (r :: l) → ¬ Hs (r :: l) r.2 := fun {r l} c h => by
      rcases (Hs_cons _ _ _).1 h with q | q
      · omega
      · have := c.after q; omega
    have h2 : r.2 = s.2 := by
      rcases Int.lt_trichotomy r.2 s.2 with q | q | q
      · exact absurd ((e r.2).2 ((Hs_cons _ _ _).2 (.inl ⟨by omega, by omega⟩))) (nin c)
      · exact q
      · exact absurd ((e s.2).1 ((Hs_cons _ _ _).2 (.inl ⟨by omega, by omega⟩))) (nin d)
    obtain rfl : r = s := Prod.ext h1 h2
    rw [Cn.uniq c.tail d.tail fun k => ?_]
    constructor
    · intro h
      rcases (Hs_cons _ _ _).1 ((e k).1 ((Hs_cons _ _ _).2 (.inr h))) with q | q
      · have := c.after h; omega
      · exact q
    · intro h
      rcases (Hs_cons _ _ _).1 ((e k).2 ((Hs_cons _ _ _).2 (.inr h))) with q | q
      · have := d.after h; omega
      · exact q

/-! ### edges, and how deep a number lies -/
def depth : RL → Int → Int
  | [], _ => 0
  | e :: d, k => (if e.1 ≤ k then e.2 else 0) + depth d k
def total : RL → Int
  | [] => 0
  | e :: d => e.2 + total d
theorem depth_app (a b : RL) (k : Int) : depth (a ++ b) k = depth a k + depth b k := by
  induction a with
  | nil => simp [depth]
  | cons e a ih => simp only [List.cons_append, depth, ih]; omega
theorem total_app (a b : RL) : total (a ++ b) = total a + total b := by
  induction a with
  | nil => simp [total]
  | cons e a ih => simp only [List.cons_append, total, ih]; omega
theorem depth_perm {a b : RL} (p : a.Perm b) (k : Int) : depth a k = depth b k := by
  induction p with
  | nil => rfl
  | cons x _ ih => simp only [depth, ih]
  | swap x y l => simp only [depth]; omega
  | trans _ _ i1 i2 => exact i1.trans i2
theorem total_perm {a b : RL} (p : a.Perm b) : total a = total b := by
  induction p with
  | nil => rfl
  | cons x _ ih => simp only [total, ih]
  | swap x y l => simp only [total]; omega
  | trans _ _ i1 i2 => exact i1.trans i2
theorem depth_before {d : RL} {k : Int} (h : ∀ e ∈ d, k < e.1) : depth d k = 0 := by
  induction d with
  | nil => rfl
  | cons e d ih =>
    have := h e List.mem_cons_self
    simp only [depth]
    rw [if_neg (by omega), ih fun x hx => h x (List.mem_cons_of_mem _ hx)]; rfl

def edgesL (l : RL) (by_ : Int) : RL := (l.map fun r => [(r.1, by_), (r.2, -by_)]).flatten
theorem edgesL_cons (r : Int × Int) (l : RL) (b : Int) : edgesL (r :: l) b = (r.1, b) :: (r.2, -b) :: edgesL l b := rfl
theorem edgesL_len (l : RL) (b : Int) : (edgesL l b).length = 2 * l.length := by
  induction l with
  | nil => rfl
  | cons r l ih => rw [edgesL_cons]; simp only [List.length_cons, ih]; omega
theorem edgesL_total (l : RL) (b : Int) : total (edgesL l b) = 0 := by
  induction l with
  | nil => rfl
  | cons r l ih => rw [edgesL_cons]; simp only [total, ih]; omega
theorem edgesL_mem {l : RL} {b : Int} {e : Int × Int} (h : e ∈ edgesL l b) : (∃ r ∈ l, e.1 = r.1 ∨ e.1 = r.2) ∧ (e.2 = b ∨ e.2 = -b) := by
  obtain ⟨q, hq, he⟩ := List.mem_flatten.1 h
  obtain ⟨r, hr, rfl⟩ := List.mem_map.1 hq
  simp at he
  rcases he with rfl | rfl
  · exact ⟨⟨r, hr, .inl rfl⟩, .inl rfl⟩
  · exact ⟨⟨r, hr, .inr rfl⟩, .inr rfl⟩
open Classical in
theorem edgesL_depth {l : RL} (c : Cn l) (b : Int) (k : Int) : depth (edgesL l b) k = if Hs l k then b else 0 := by
  induction l with
  | nil => rw [if_neg (Hs_nil k)]; rfl
  | cons r l ih =>
    have ih := ih c.tail
    have h1 := c.ok r List.mem_cons_self
    rw [edgesL_cons]
    simp only [depth, ih]
    by_cases q : r.1 ≤ k ∧ k < r.2
    · have hn : ¬ Hs l k := fun h => by have := c.after h; omega
      rw [if_neg hn, if_pos ((Hs_cons _ _ _).2 (.inl q)), if_pos q.1, if_neg (by omega)]; omega
    · by_cases h : Hs l k
      · have := c.after h
        rw [if_pos h, if_pos ((Hs_cons _ _ _).2 (.inr h)), if_pos (by omega), if_pos (by omega)]; omega
      · rw [if_neg h, if_neg (fun z => ((Hs_cons _ _ _).1 z).elim q h)]
        by_cases q1 : r.1 ≤ k
        · rw [if_pos q1, if_pos (by omega)]; omega
        · rw [if_neg q1, if_neg (by omega)]; rfl

/-! ### the sweep -/
def nextAt (a : Int) : RL → Bool
  | [] => false
  | p :: _ => p.1 == a
def actS (W : Int → Bool) (a dep fr : Int) (out : RL) : Int × RL :=
  if (W dep && decide (fr < 0)) = true then (a, out) else if (!W dep && decide (fr ≥ 0)) = true then (-1, out ++ [(fr, a)]) else (fr, out)
def sweep (W : Int → Bool) : RL → Int → Int → RL → RL
  | [], _, _, out => out
  | e :: r, dep, fr, out => if nextAt e.1 r = true then sweep W r (dep + e.2) fr out else sweep W r (dep + e.2) (actS W e.1 (dep + e.2) fr out).1 (actS W e.1 (dep + e.2) fr out).2

def firstOf : RL → Int
  | [] => 0
  | p :: _ => p.1

/-- What a sweep knows. -/
structure SwI (r : RL) (fr : Int) (out : RL) : Prop where
  c : Cn out
  lo : ∀ s ∈ out, s.2 < (if fr ≥ 0 then fr else firstOf r)
  fr : fr ≥ 0 → fr < firstOf r

theorem sweep_ok (W : Int → Bool) (hW : W 0 = false) : ∀ (r : RL) (dep fr : Int) (out : RL), r ≠ [] → r.Pairwise (fun p q => p.1 ≤ q.1) → (∀ e ∈ r, 0 ≤ e.1) → dep + total r = 0 → SwI r fr out →
    Cn (sweep W r dep fr out) ∧ (∀ k, Hs (sweep W r dep fr out) k ↔ Hs out k ∨ (if k < firstOf r then fr ≥ 0 ∧ fr ≤ k else W (dep + depth r k) = true)) ∧
      2 * (sweep W r dep fr out).length ≤ 2 * out.length + (if fr ≥ 0 then 1 else 0) + r.length ∧ (∀ s ∈ sweep W r dep fr out, s ∈ out ∨ ∃ e ∈ r, s.2 = e.1)
  | [], _, _, _, h, _, _, _, _ => absurd rfl h
  | (a, b) :: r, dep, fr, out, _, hs, h0, ht, w => by
    have hs1 := (List.pairwise_cons.1 hs).1
    have hs2 := (List.pairwise_cons.1 hs).2
    have h0' : ∀ e ∈ r, 0 ≤ e.1 := fun e he => h0 e (List.mem_cons_of_mem _ he)
    have ha : 0 ≤ a := h0 _ List.mem_cons_self
    have ht' : dep + b + total r = 0 := by simp only [total] at ht; omega
    have hfa : firstOf ((a, b) :: r) = a := rfl
    have wlo := w.lo
    have wfr := w.fr
    rw [hfa] at wlo wfr
    have hd : ∀ k, a ≤ k → dep + depth ((a, b) :: r) k = dep + b + depth r k := fun k hk => by simp only [depth]; rw [if_pos hk]; omega
    unfold sweep
    cases hn : nextAt a r with
    | true =>
      rw [if_pos rfl]
      cases r with
      | nil => simp [nextAt] at hn
      | cons e r =>
        have e1 : e.1 = a := by simpa [nextAt] using hn
        have hfe : firstOf (e :: r) = a := e1
        obtain ⟨z1, z2, z3, z4⟩ := sweep_ok W hW (e :: r) (dep + b) fr out (by simp) hs2 h0' ht' ⟨w.c, by rw [hfe]; exact wlo, by rw [hfe]; exact wfr⟩
        refine ⟨z1, fun k => ?_, by simp only [List.length_cons] at z3 ⊢; omega, fun s hs => (z4 s hs).imp id fun ⟨x, hx, q⟩ => ⟨x, List.mem_cons_of_mem _ hx, q⟩⟩
        rw [z2 k, hfe, hfa]
        by_cases hk : k < a
        · rw [if_pos hk, if_pos hk]
        · rw [if_neg hk, if_neg hk, hd k (by omega)]
    | false =>
      rw [if_neg (by decide)]
      have hlt : ∀ e ∈ r, a < e.1 := by
        cases r with
        | nil => intro e he; cases he
        | cons x r =>
          have hx : x.1 ≠ a := by simpa [nextAt] using hn
          have hxa := hs1 x List.mem_cons_self
          intro e he
          rcases List.mem_cons.1 he with rfl | he
          · simp only at hxa; omega
          · have := (List.pairwise_cons.1 hs2).1 e he; simp only at hxa; omega
      have hdb : ∀ k, (∀ e ∈ r, k < e.1) → depth r k = 0 := fun k h => depth_before h
      -- the act's result
      obtain ⟨fr', out', hact, hI⟩ : ∃ fr' out', actS W a (dep + b) fr out = (fr', out') ∧
          (Cn out' ∧ (∀ s ∈ out', s.2 ≤ a) ∧ (fr' ≥ 0 → (∀ s ∈ out', s.2 < fr') ∧ fr' ≤ a) ∧ (fr' ≥ 0 ↔ W (dep + b) = true) ∧
            (∀ k, Hs out' k ∨ (fr' ≥ 0 ∧ fr' ≤ k) ↔ Hs out k ∨ (if k < a then fr ≥ 0 ∧ fr ≤ k else W (dep + b) = true)) ∧
            2 * out'.length + (if fr' ≥ 0 then 1 else 0) ≤ 2 * out.length + (if fr ≥ 0 then 1 else 0) + 1 ∧ (∀ s ∈ out', s ∈ out ∨ s.2 = a)) := by
        unfold actS
        by_cases hw : W (dep + b) = true
        · by_cases hf : fr < 0
          · rw [if_neg (show ¬ fr ≥ 0 by omega)] at wlo
            rw [if_pos (by simp [hw, hf])]
            refine ⟨_, _, rfl, w.c, fun s hs => by have := wlo s hs; omega, fun _ => ⟨wlo, Int.le_refl _⟩, ⟨fun _ => hw, fun _ => ha⟩, fun k => ?_, by rw [if_pos ha, if_neg (by omega)]; omega, fun s hs => .inl hs⟩
            by_cases hk : k < a
            · rw [if_pos hk]
              constructor
              · rintro (q | q)
                · exact .inl q
                · omega
              · rintro (q | q)
                · exact .inl q
                · omega
            · rw [if_neg hk]
              exact ⟨fun _ => .inr hw, fun _ => .inr ⟨ha, by omega⟩⟩
          · have hf' : fr ≥ 0 := by omega
            have := wfr hf'
            rw [if_pos hf'] at wlo
            rw [if_neg (by simp [hf]), if_neg (by simp [hw])]
            refine ⟨_, _, rfl, w.c, fun s hs => by have := wlo s hs; omega, fun _ => ⟨wlo, by omega⟩, ⟨fun _ => hw, fun _ => hf'⟩, fun k => ?_, by omega, fun s hs => .inl hs⟩
            by_cases hk : k < a
            · rw [if_pos hk]
            · rw [if_neg hk]
              exact ⟨fun _ => .inr hw, fun _ => .inr ⟨hf', by omega⟩⟩
        · have hw' : W (dep + b) = false := by simpa using hw
          by_cases hf : fr ≥ 0
          · have := wfr hf
            rw [if_pos hf] at wlo
            rw [if_neg (by simp [hw']), if_pos (by simp [hw', hf])]
            refine ⟨_, _, rfl, ⟨List.pairwise_append.2 ⟨w.c.sep, List.pairwise_singleton _ _, fun s hs t ht => ?_⟩, fun s hs => ?_⟩, fun s hs => ?_, fun h => by omega, ⟨fun h => by omega, fun h => absurd h hw⟩, fun k => ?_, ?_, fun s hs => ?_⟩
            · simp at ht; subst ht; exact wlo s hs
            · rcases List.mem_append.1 hs with hs | hs
              · exact w.c.ok s hs
              · simp at hs; subst hs; exact ⟨hf, this⟩
            · rcases List.mem_append.1 hs with hs | hs
              · have := wlo s hs; omega
              · simp at hs; subst hs; exact Int.le_refl _
            · rw [Hs_app, Hs_one]
              by_cases hk : k < a
              · rw [if_pos hk]
                constructor
                · rintro ((q | q) | q)
                  · exact .inl q
                  · exact .inr ⟨hf, q.1⟩
                  · omega
                · rintro (q | q)
                  · exact .inl (.inl q)
                  · exact .inl (.inr ⟨q.2, hk⟩)
              · rw [if_neg hk]
                constructor
                · rintro ((q | q) | q)
                  · exact .inl q
                  · simp only at q; omega
                  · omega
                · rintro (q | q)
                  · exact .inl (.inl q)
                  · exact absurd q hw
            · rw [if_neg (by omega), if_pos hf]; simp; omega
            · rcases List.mem_append.1 hs with hs | hs
              · exact .inl hs
              · simp at hs; subst hs; exact .inr rfl
          · rw [if_neg hf] at wlo
            rw [if_neg (by simp [hw']), if_neg (by simp [hf])]
            refine ⟨_, _, rfl, w.c, fun s hs => by have := wlo s hs; omega, fun h => by omega, ⟨fun h => by omega, fun h => absurd h hw⟩, fun k => ?_, by omega, fun s hs => .inl hs⟩
            by_cases hk : k < a
            · rw [if_pos hk]
            · rw [if_neg hk]
              exact ⟨fun q => q.elim .inl fun q => by omega, fun q => q.elim .inl fun q => absurd q hw⟩
      obtain ⟨i1, i2, i3, i4, i5, i6, i7⟩ := hI
      rw [hact]
      simp only
      cases r with
      | nil =>
        have hd0 : dep + b = 0 := by simp only [total] at ht'; omega
        have hnf : ¬ fr' ≥ 0 := fun h => by have := i4.1 h; rw [hd0, hW] at this; cases this
        unfold sweep
        refine ⟨i1, fun k => ?_, by rw [if_neg hnf] at i6; simp only [List.length_cons, List.length_nil]; omega, fun s hs => (i7 s hs).imp id fun q => ⟨_, List.mem_cons_self, q⟩⟩
        have := i5 k
        rw [hfa]
        by_cases hk : k < a
        · rw [if_pos hk] at this ⊢
          rw [← this]
          exact ⟨.inl, fun q => q.elim id fun q => absurd q.1 hnf⟩
        · rw [if_neg hk] at this ⊢
          rw [hd k (by omega)]
          show _ ↔ _ ∨ W (dep + b + 0) = true
          rw [Int.add_zero, ← this]
          exact ⟨.inl, fun q => q.elim id fun q => absurd q.1 hnf⟩
      | cons x r =>
        have hax := hlt x List.mem_cons_self
        have hfx : firstOf (x :: r) = x.1 := rfl
        obtain ⟨z1, z2, z3, z4⟩ := sweep_ok W hW (x :: r) (dep + b) fr' out' (by simp) hs2 h0' ht' ⟨i1, fun s hs => by
          rw [hfx]
          split
          · rename_i h; exact (i3 h).1 s hs
          · have := i2 s hs; omega, fun h => by rw [hfx]; have := (i3 h).2; omega⟩
        refine ⟨z1, fun k => ?_, by simp only [List.length_cons] at z3 ⊢; omega, fun s hs => ?_⟩
        · rw [z2 k, hfx, hfa]
          have := i5 k
          by_cases hk : k < a
          · rw [if_pos (by omega), if_pos hk]
            rw [if_pos hk] at this
            exact this
          · rw [if_neg hk] at this ⊢
            rw [hd k (by omega)]
            by_cases hk2 : k < x.1
            · rw [if_pos hk2, hdb k fun e he => by
                rcases List.mem_cons.1 he with rfl | he
                · exact hk2
                · have := (List.pairwise_cons.1 hs2).1 e he; omega]
              rw [Int.add_zero]
              exact this
            · rw [if_neg hk2]
              constructor
              · rintro (q | q)
                · rcases this.1 (.inl q) with q | q
                  · exact .inl q
                  · obtain ⟨s, hs, q1, q2⟩ := ‹Hs out' k›
                    have := i2 s hs; omega
                · exact .inr q
              · rintro (q | q)
                · rcases this.2 (.inl q) with q | q
                  · exact .inl q
                  · obtain ⟨s, hs, q1, q2⟩ := ‹Hs out k›
                    have : s.2 ≤ a := by
                      have := wlo s hs
                      split at this
                      · have := wfr (by assumption); omega
                      · omega
                    omega
                · exact .inr q
        · rcases z4 s hs with q | ⟨e, he, q⟩
          · rcases i7 s q with q | q
            · exact .inl q
            · exact .inr ⟨_, List.mem_cons_self, q⟩
          · exact .inr ⟨e, List.mem_cons_of_mem _ he, q⟩

end Go.Proofs.Ytophneodoibcgaa.T
